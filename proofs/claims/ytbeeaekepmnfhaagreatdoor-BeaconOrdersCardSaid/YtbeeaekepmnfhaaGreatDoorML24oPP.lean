import Derived.Test.YtbeeaekepmnfhaaGreatDoorML24oPO
set_option maxRecDepth 100000
namespace Go.Proofs.YtbeeaekepmnfhaaGreatDoor
open Go Go.Eng Cr
theorem M9 (s:ByteArray):(dV s).length=s.size:=by simp only[dV,List.length_map,Array.length_toList];rfl
theorem P3 (s:ByteArray):Bs (dV s):=by
 intro x hx
 simp only[dV,List.mem_map] at hx
 obtain⟨b,_,rfl⟩:=hx
 have:=b.toNat_lt
 omega
abbrev bo:Kd:=.pair .fp .fp
end Go.Proofs.YtbeeaekepmnfhaaGreatDoor
namespace Go.Proofs.YtbeeaekepmnfhaaGreatDoor.g1
open Go Go.Eng Go.RowKit Cr Go.Proofs.YtbeeaekepmnfhaaGreatDoor
theorem L6:enters Tryz.prog 81 Tryz.f81:=ek
abbrev yo:HL [.str]->HO [.val .fp]:=fun (s,_)=>((fp.eM (dV s)).1,())
theorem Oy:aB Tryz.prog 81 [.str] [.val .fp] aM (fun _=>True) yo:=by
 refine ax (sp:=aF [fp.sW]) (ai (ak fp.u7) aR) mixed L6 (by decide) (by decide) ?_
 rintro w M0 ⟨s,⟨⟩⟩ _ _
 refine ao (X:=(0+s.size<=s.size/\fp.iO ((dV s).take s.size,())/\((fp.eM ((dV s).take s.size)).1,())=yo (s,()))) (by kernel_rfl) ?_
 rw[List.take_of_length_le (by rw[M9];exact Nat.le_refl _)]
 exact⟨by omega,P3 s,rfl⟩
noncomputable def SK:Nat × Eng.Spec:=(81,ar [.str] [.val .fp] (fun _=>True) yo)
def gx:Fp:=zm 0x17f1d3a73197d7942695638c4fa9ac0fc3688c4f9774b905a14e3a3f171bac586c55e83ff97a1aeffb3af00adb22c6bb
def gy:Fp:=zm 0x08b3f481e3aaa0f1a09e30ed741d8ae4fcf5e095d5d00af600db18cb2c04b3edd03cc744a2888ae40caa232946c5e7e1
theorem Vk:enters Tryz.prog 41 Tryz.f41:=ek
abbrev Py:HL []->HO [.val bo]:=fun _=>((gx,gy),())
theorem YL:aB Tryz.prog 41 [] [.val bo] aM (fun _=>True) Py:=by
 refine ax (sp:=aF [SK]) (ai (ak Oy) aR) mixed Vk (by decide) (by decide) ?_
 rintro w M0 ⟨⟩ _ _
 exact ao (X:=(True/\True/\(((gx,gy),()):(Fp × Fp) × Unit)=Py ())) (by kernel_rfl) ⟨trivial,trivial,rfl⟩
end Go.Proofs.YtbeeaekepmnfhaaGreatDoor.g1
namespace Go.Proofs.YtbeeaekepmnfhaaGreatDoor.codec
open Go Go.Eng Go.RowKit Cr Go.Proofs.YtbeeaekepmnfhaaGreatDoor
theorem Rl:enters Tryz.prog 115 Tryz.f115:=ek
abbrev vk:HL [.bool,.bool]->HO [.val (.int .u8)]:=fun (a,b,_)=>((if a=true then (192:Int) else if b=true then 160 else 128),())
theorem VP:aB Tryz.prog 115 [.bool,.bool] [.val (.int .u8)] aM (fun _=>True) vk:=by
 refine ax (sp:=aF []) aR mixed Rl (by decide) (by decide) ?_
 rintro w M0 ⟨a,b,⟨⟩⟩ _ _
 refine ao (X:=((a=true->(192,())=vk (a,b,()))/\(a=false->(b=true->(160,())=vk (a,b,()))/\(b=false->(128,())=vk (a,b,()))))) (by kernel_rfl) ?_
 refine⟨fun h=>by subst h;rfl,fun h=>⟨fun h2=>by subst h h2;rfl,fun h2=>by subst h h2;rfl⟩⟩
noncomputable def aa6:Nat × Eng.Spec:=(115,ar [.bool,.bool] [.val (.int .u8)] (fun _=>True) vk)
end Go.Proofs.YtbeeaekepmnfhaaGreatDoor.codec
namespace Cr
section
variable {M:Int} [Md M]
theorem Si (a:Zm M):1*a=a:=by rw[tD,wh]
def zpow (x:Zm M):Nat->Zm M
 | 0=>1
 | n+1=>zpow x n*x
theorem zpow_add (x:Zm M) (m n:Nat):zpow x (m+n)=zpow x m*zpow x n:=by
 induction n with
 | zero=>rw[zpow,wh];rfl
 | succ n ih=>rw[<- Nat.add_assoc,zpow,ih,zpow,n8]
theorem Tc (x:Zm M) (m:Nat):zpow x m*zpow x m=zpow x (2*m):=by rw[<- zpow_add,Nat.two_mul]
def mK (x:Zm M):Nat->Zm M
 | 0=>x
 | k+1=>mK x k*mK x k
theorem Ie (x:Zm M) (m:Nat):∀ k,mK (zpow x m) k=zpow x (2^k*m):=by
 intro k
 induction k with
 | zero=>simp[mK]
 | succ k ih=>rw[mK,ih,Tc,Nat.pow_succ];congr 1;rw[Nat.mul_comm (2^k) 2,Nat.mul_assoc]
noncomputable def jG (x:Zm M) (E:Int):Zm M:=Classical.choose (⟨zpow x E.toNat,rfl⟩:∃ y,y=zpow x E.toNat)
theorem ti (x:Zm M) (E:Int):jG x E=zpow x E.toNat:=Classical.choose_spec (⟨zpow x E.toNat,rfl⟩:∃ y,y=zpow x E.toNat)
end
def fJ:Nat->Int
 | 0=>1
 | n+1=>16*fJ n
theorem rE (n:Nat):0<fJ n:=by
 induction n with
 | zero=>decide
 | succ n ih=>simp only[fJ];omega
theorem DZ (m n:Nat):fJ (m+n)=fJ m*fJ n:=by
 induction m with
 | zero=>simp[fJ]
 | succ m ih=>rw[Nat.succ_add];simp only[fJ,ih,Int.mul_assoc]
theorem Hn (n:Nat):fJ (16*n)=pw n:=by
 induction n with
 | zero=>rfl
 | succ n ih=>rw[Nat.mul_succ,Nat.add_comm,DZ,ih];rfl
theorem WM {m:Nat} (h:m<=16):∃ c:Int,(18446744073709551616:Int)=c*fJ m/\0<c:=by
 refine⟨fJ (16-m),?_,rE _⟩
 rw[<- DZ,Nat.sub_add_cancel h];rfl
theorem WN (n:Nat):fJ n=(2:Int)^(4*n):=by
 induction n with
 | zero=>rfl
 | succ n ih=>rw[fJ,ih,Nat.mul_succ,Int.pow_add];rw[Int.mul_comm];rfl
theorem Q2 {n:Nat} {N:Int} {i:Nat} (hi:i<16*n):((aK n N).getD (n-1-i/16) 0)/fJ (15-i%16)%16=N/fJ (16*n-1-i)%16:=by
 rw[rz _ _ _ (by omega)]
 obtain⟨c,hc,hc0⟩:=WM (m:=15-i%16+1) (by omega)
 have e1:fJ (16*n-1-i)=pw (n-1-i/16)*fJ (15-i%16):=by
  rw[<- Hn,<- DZ];congr 1;omega
 rw[e1,<- Int.ediv_ediv_of_nonneg (Int.le_of_lt (sK _))]
 generalize N/pw (n-1-i/16)=A
 have hp:=rE (15-i%16)
 rw[hc,show fJ (15-i%16+1)=16*fJ (15-i%16) from rfl]
 generalize fJ (15-i%16)=P at *
 have h1:A%(c*(16*P))=A%(P*(16*c)):=by congr 1;rw[Int.mul_comm c,Int.mul_comm 16 P,Int.mul_assoc]
 rw[h1]
 have h2:A%(P*(16*c))/P=(A/P)%(16*c):=by
  rw[Int.emod_def,Int.emod_def,Int.mul_assoc,<- Int.sub_mul_ediv_left _ _ (show P≠0 by omega),<- Int.ediv_ediv_of_nonneg (Int.le_of_lt hp)]
 rw[h2,Int.emod_emod_of_dvd _ ⟨c,rfl⟩]
theorem BY {N:Int} (h:0<=N) (k:Nat):(N/fJ k).toNat=16*(N/fJ (k+1)).toNat+(N/fJ k%16).toNat:=by
 have e:N/fJ (k+1)=N/fJ k/16:=by
  rw[show fJ (k+1)=fJ k*16 from by rw[fJ,Int.mul_comm],Int.ediv_ediv_of_nonneg (Int.le_of_lt (rE k))]
 have h0:0<=N/fJ k:=Int.ediv_nonneg h (Int.le_of_lt (rE k))
 rw[e]
 omega
end Cr
namespace Go.Eng
open Go Cr
def pj (n i:Int):Int:=IntKind.i64.wrap (n-IntKind.i64.wrap (i.tdiv 16))
def KR (i:Int):Int:=IntKind.i64.wrap (60-IntKind.i64.wrap (4*i.tmod 16))
def kk (n:Int) (ws:List Int) (i:Int):Int:=av .and .u64 (Int.fdiv (ws.getD (pj n i).toNat 0) (2^min (KR i).toNat IntKind.u64.bits)) 15
theorem QP (n m:Nat) (hn:n<18446744073709551616) (hm:m<18446744073709551616):av .and .u64 n m=((n &&& m:Nat):Int):=by
 show IntKind.u64.wrap ((BitVec.ofInt 64 n &&& BitVec.ofInt 64 m:BitVec 64).toNat:Int)=_
 have h1:(BitVec.ofInt 64 (n:Int)).toNat=n:=by rw[show BitVec.ofInt 64 (n:Int)=BitVec.ofNat 64 n from BitVec.ofInt_natCast ..,BitVec.toNat_ofNat,Nat.mod_eq_of_lt (by omega)]
 have h2:(BitVec.ofInt 64 (m:Int)).toNat=m:=by rw[show BitVec.ofInt 64 (m:Int)=BitVec.ofNat 64 m from BitVec.ofInt_natCast ..,BitVec.toNat_ofNat,Nat.mod_eq_of_lt (by omega)]
 rw[BitVec.toNat_and,h1,h2,nw]
 have:=Nat.and_le_left (n:=n) (m:=m)
 omega
theorem XH {a:Int} (h0:0<=a) (h1:a<18446744073709551616):av .and .u64 a 15=a%16:=by
 obtain⟨n,rfl⟩:=Int.eq_ofNat_of_zero_le h0
 have:=QP n 15 (by omega) (by omega)
 rw[show ((15:Nat):Int)=15 from rfl] at this
 rw[this]
 have h:=Nat.and_two_pow_sub_one_eq_mod n 4
 rw[show 2^4-1=15 from rfl] at h
 rw[h]
 omega
theorem T3 {n k:Nat} (h:k<16*(n+1)) (hn:n<1000):pj n k=((n-k/16:Nat):Int):=by
 unfold pj
 rw[Int.tdiv_eq_ediv_of_nonneg (by omega),aG (a:=(k:Int)/16) (by omega) (by omega),aG (by omega) (by omega)]
 omega
theorem PH {k:Nat}:KR k=((4*(15-k%16):Nat):Int):=by
 unfold KR
 rw[Int.tmod_eq_emod_of_nonneg (by omega),aG (a:=4*((k:Int)%16)) (by omega) (by omega),aG (by omega) (by omega)]
 omega
theorem zH {n k:Nat} {N:Int} (h:k<16*(n+1)) (hn:n<1000):kk n (aK (n+1) N) k=N/fJ (16*(n+1)-1-k)%16:=by
 unfold kk
 rw[T3 h hn,PH]
 simp only[Int.toNat_natCast]
 rw[show IntKind.u64.bits=64 from rfl,Nat.min_eq_left (by omega),<- WN,Int.fdiv_eq_ediv_of_nonneg _ (Int.le_of_lt (rE _))]
 have hw:0<=(aK (n+1) N).getD (n-k/16) 0/\(aK (n+1) N).getD (n-k/16) 0<18446744073709551616:=by
  rw[rz _ _ _ (by omega)];omega
 have hp:=rE (15-k%16)
 have h1:=Int.ediv_nonneg hw.1 (Int.le_of_lt hp)
 have h2:=Int.ediv_le_self (fJ (15-k%16)) hw.1
 rw[XH h1 (by omega)]
 have:=Q2 (n:=n+1) (N:=N) (i:=k) h
 rw[show n+1-1-k/16=n-k/16 by omega] at this
 exact this
theorem KN {n k:Nat} (h:k<16*(n+1)) (hn:n<1000):(0<=pj n k/\pj n k<((n+1:Nat):Int))/\(pj n k).toNat<n+1/\0<=KR k:=by
 rw[T3 h hn,PH]
 exact⟨⟨by omega,by omega⟩,by omega,by omega⟩
def cX {α:Type} (f:Nat->α) (z:α) (k:Nat):List α:=(List.range 16).map fun j=>if j<=k then f j else z
theorem l6 {α:Type} (f:Nat->α) (z d:α) {k j:Nat} (h:j<=k) (hj:j<16):(cX f z k).getD j d=f j:=by
 simp[cX,hj,h]
theorem tT {α:Type} (f:Nat->α) (z:α) {k:Nat}:(cX f z k).set (k+1) (f (k+1))=cX f z (k+1):=by
 apply List.ext_getElem
 ·simp[cX]
 ·intro i h1 h2
  rw[List.getElem_set]
  split
  ·rename_i e;subst e;simp[cX]
  ·rename_i e
   simp only[cX,List.getElem_map,List.getElem_range]
   by_cases h:i<=k
   ·rw[if_pos h,if_pos (by omega)]
   ·rw[if_neg h,if_neg (by omega)]
end Go.Eng
open Go.IntKind(i64)
namespace Go.Proofs.YtbeeaekepmnfhaaGreatDoor.fp
noncomputable section
open Go Go.Eng Go.RowKit Cr
theorem qt:enters Tryz.prog 200 Tryz.f200:=ek
def pQ (x:Fp) (es:List Int) (g:Int × List Fp):St:=aY Tryz.f200.ntmps 64 [(2,.is (.one (.ptr 0 0))),(3,.is (.one (.ptr 8 0))),(4,.is (.one (.ptr 16 0))),(5,.is (.one (.ptr 24 0))),(11,sI .i64 g.1)] [(0,[.row .fp 1 [x]]),(8,[.ints .u64 6 es]),(16,[.row .fp 1 [(0:Fp)]]),(24,[.row .fp 16 g.2])]
def lS (es:List Int) (tb:List Fp) (g:Int × Fp):St:=aY Tryz.f200.ntmps 96 [(3,.is (.one (.ptr 8 0))),(4,.is (.one (.ptr 16 0))),(5,.is (.one (.ptr 24 0))),(7,.is (.one (.ptr 72 0))),(24,sI .i64 g.1)] [(8,[.ints .u64 6 es]),(16,[.row .fp 1 [(0:Fp)]]),(24,[.row .fp 16 tb]),(72,[.row .fp 1 [g.2]])]
def pR (es:List Int) (tb:List Fp) (i:Int) (g:Int × Fp):St:=aY Tryz.f200.ntmps 128 [(3,.is (.one (.ptr 8 0))),(4,.is (.one (.ptr 16 0))),(5,.is (.one (.ptr 24 0))),(7,.is (.one (.ptr 72 0))),(8,sI .i64 i),(24,sI .i64 i),(27,sI .i64 g.1)] [(8,[.ints .u64 6 es]),(16,[.row .fp 1 [(0:Fp)]]),(24,[.row .fp 16 tb]),(72,[.row .fp 1 [g.2]])]
def Hu (es:List Int) (tb:List Fp) (i:Int) (y:Fp):St:=aY Tryz.f200.ntmps 104 [(3,.is (.one (.ptr 8 0))),(4,.is (.one (.ptr 16 0))),(5,.is (.one (.ptr 24 0))),(7,.is (.one (.ptr 72 0))),(24,sI .i64 i)] [(8,[.ints .u64 6 es]),(16,[.row .fp 1 [(0:Fp)]]),(24,[.row .fp 16 tb]),(72,[.row .fp 1 [y]])]
abbrev lV:HL [.fp,(.arr 6 (.int .u64))]->Prop:=fun (_,es,_)=>Ws es
abbrev iU:HL [.fp,(.arr 6 (.int .u64))]->HO [.val .fp]:=fun (x,es,_)=>(jG (x:Fp) (val es),())
theorem pC:aB Tryz.prog 200 [.fp,(.arr 6 (.int .u64))] [.val .fp] aM lV iU:=by
 have hsp:aN Tryz.prog (aF [kS,cK,bJ]):=ai (ak nM) (ai (ak cL) (ai (ak b9) aR))
 refine bh (sp:=aF [kS,cK,bJ]) qt (by decide) (by decide) (by kernel_rfl) ?_
 rintro w M0 ⟨x,es,⟨⟩⟩ ⟨_,⟨hl,_⟩,_⟩ he
 have hl:List.length es=6:=hl
 have he:Ws es:=he
 have hE:=dM he
 have hE2:val es<fJ 96:=by have:=vH he;rw[hl] at this;rw[show 96=16*6 from rfl,Hn];exact this
 have hes:es=aK 6 (val es):=by have:=pF he;rw[hl] at this;exact this.symm
 show Tr _ _ _ _ _ _ _
 refine aP hsp mixed 4 (pQ x es (0,(List.replicate 16 (0:Fp)).set 0 1)) True ?_ (fun _=>?_)
 ·refine ao (X:=True/\(0:Nat)<16/\(pQ x es (0,(List.replicate 16 (0:Fp)).set 0 1)).ah True) (by kernel_rfl) ⟨trivial,by decide,aA trivial⟩
 rw[show (List.replicate 16 (0:Fp)).set 0 1=cX (zpow x) 0 0 from rfl]
 refine dB hsp mixed (pQ x es) (fun k=>((k:Int),cX (zpow x) 0 k)) 15 (fun g=>(i64.wrap (g.1+1),g.2.set (i64.wrap (g.1+1)).toNat (g.2.getD g.1.toNat 0*x))) (pQ x es) (c:=aI (aJ Tryz.f200) 4) (by kernel_rfl) (by kernel_rfl) (aC (by kernel_rfl) (by kernel_rfl) trivial)
  (fun k hk=>by
   show (_,_)=(_,_)
   rw[aQ (by omega),Int.toNat_natCast,Int.toNat_natCast,l6 _ _ _ (Nat.le_refl k) (by omega),show zpow x k*x=zpow x (k+1) from rfl,tT]) ?_ ?_
 ·intro k hk
  refine ao (X:=((decide ((k:Int)<15)=true->(0<=(k:Int)/\(k:Int)<((16:Nat):Int))/\(k:Int).toNat<16/\True/\(0<=i64.wrap ((k:Int)+1)/\i64.wrap ((k:Int)+1)<((16:Nat):Int))/\(i64.wrap ((k:Int)+1)).toNat<16 /\
    (pQ x es (i64.wrap ((k:Int)+1),(cX (zpow x) 0 k).set (i64.wrap ((k:Int)+1)).toNat ((cX (zpow x) 0 k).getD (k:Int).toNat 0*x))).ah (k<15)) /\
   (decide ((k:Int)<15)=false->(pQ x es ((k:Int),cX (zpow x) 0 k)).ah (k=15)))) (by kernel_rfl) ?_
  refine⟨fun h=>?_,fun h=>aA (by have:=dk h;omega)⟩
  have hlt:k<15:=by have:=dec_lt h;omega
  rw[aQ (by omega)]
  exact⟨⟨by omega,by omega⟩,by omega,trivial,⟨by omega,by omega⟩,by omega,aA hlt⟩
 generalize htb:cX (zpow x) 0 15=tb
 have hget:∀ j,j<16->tb.getD j 0=zpow x j:=fun j hj=>by rw[<- htb];exact l6 _ _ _ (by omega) hj
 clear htb
 refine aP hsp mixed 2 (lS es tb (0,1)) True ?_ (fun _=>?_)
 ·refine ao (X:=True/\(lS es tb (0,1)).ah True) (by kernel_rfl) ⟨trivial,aA trivial⟩
 rw[show ((0:Int),(1:Fp))=(((0:Nat):Int),zpow x (val es/fJ (96-0)).toNat) by
  rw[Nat.sub_zero,Int.ediv_eq_zero_of_lt hE hE2];rfl]
 refine nv (lS es tb) (fun i=>((i:Int),zpow x (val es/fJ (96-i)).toNat)) 96 (fun g=>(i64.wrap (g.1+1),mK g.2 4*tb.getD (kk (5:Nat) es g.1).toNat 0)) (lS es tb) (c:=aI (aJ Tryz.f200) 7) (by kernel_rfl) (by kernel_rfl) (aC (by kernel_rfl) (by kernel_rfl) trivial)
  (fun i hi=>by
   show (_,_)=(_,_)
   rw[aQ (by omega),hes,zH (n:=5) hi (by omega),<- hes]
   rw[hget _ (by omega),Ie,<- zpow_add]
   congr 2
   have:=BY hE (96-1-i)
   rw[show 96-(i+1)=96-1-i by omega,this,show 96-1-i+1=96-i by omega]) ?_ ?_
 ·intro i hi
  generalize zpow x (val es/fJ (96-i)).toNat=y
  refine aP hsp mixed 2 (Hu es tb (i:Int) y) (i<96) ?_ (fun hlt=>?_)
  ·refine ao (X:=((decide ((i:Int)<96)=true->(Hu es tb (i:Int) y).ah (i<96))/\(decide ((i:Int)<96)=false->(lS es tb ((i:Int),y)).ah (i=96)))) (by kernel_rfl) ?_
   exact⟨fun h=>aA (by have:=dec_lt h;omega),fun h=>aA (by have:=dk h;omega)⟩
  refine eG (c:=aI (bQ (aI (aJ Tryz.f200) 7)) 2) (by kernel_rfl) (by kernel_rfl) ?_
  refine aP hsp mixed 2 (pR es tb (i:Int) (0,y)) True ?_ (fun _=>?_)
  ·refine ao (X:=(pR es tb (i:Int) (0,y)).ah True) (by kernel_rfl) (aA trivial)
  refine dB hsp mixed (pR es tb (i:Int)) (fun j=>((j:Int),mK y j)) 4 (fun g=>(i64.wrap (g.1+1),g.2*g.2)) (pR es tb (i:Int)) (c:=aI (fz (aI (bQ (aI (aJ Tryz.f200) 7)) 2)) 2) (by kernel_rfl) (by kernel_rfl) (aC (by kernel_rfl) (by kernel_rfl) trivial)
   (fun j hj=>by show (_,_)=(_,_);rw[aQ (by omega)];rfl) ?_ ?_
  ·intro j hj
   refine ao (X:=((decide ((j:Int)<4)=true->True/\(pR es tb (i:Int) (i64.wrap ((j:Int)+1),mK y j*mK y j)).ah (j<4))/\(decide ((j:Int)<4)=false->(pR es tb (i:Int) ((j:Int),mK y j)).ah (j=4)))) (by kernel_rfl) ?_
   exact⟨fun h=>⟨trivial,aA (by have:=dec_lt h;omega)⟩,fun h=>aA (by have:=dk h;omega)⟩
  refine aP hsp mixed 1 (lS es tb ((i:Int),mK y 4*tb.getD (kk (5:Nat) es i).toNat 0)) True ?_ (fun _=>?_)
  ·refine ao (X:=((16:Int)≠0/\(0<=pj (5:Nat) i/\pj (5:Nat) i<((6:Nat):Int))/\(pj (5:Nat) i).toNat<6/\(16:Int)≠0/\0<=KR i/\(0<=kk (5:Nat) es i/\kk (5:Nat) es i<((16:Nat):Int))/\(kk (5:Nat) es i).toNat<16/\True/\(lS es tb ((i:Int),mK y 4*tb.getD (kk (5:Nat) es i).toNat 0)).ah True)) (by kernel_rfl) ?_
   obtain⟨b1,b2,b3⟩:=KN (n:=5) hlt (by omega)
   have b4:0<=kk (5:Nat) es i/\kk (5:Nat) es i<16:=by
    rw[hes,zH (n:=5) hlt (by omega)]
    omega
   exact⟨by decide,b1,b2,by decide,b3,b4,by omega,trivial,aA trivial⟩
  refine ig ?_
  refine bf hsp mixed _ _ ?_
  refine ao (X:=(lS es tb (i64.wrap ((i:Int)+1),mK y 4*tb.getD (kk (5:Nat) es i).toNat 0)).ah (i<96)) (by kernel_rfl) (aA hlt)
 refine bf hsp mixed _ _ ?_
 refine ao (X:=(zpow x (val es/fJ (96-96)).toNat,())=iU (x,es,())) (by kernel_rfl) ?_
 rw[Nat.sub_self,fJ,Int.ediv_one,<- ti]
def pX:Nat × Eng.Spec:=(200,ar [.fp,(.arr 6 (.int .u64))] [.val .fp] lV iU)
theorem ph:enters Tryz.prog 169 Tryz.f169:=ek
def iJ (x:Fp):Fp:=jG x 4002409555221667393417789825735904156556882819939007885332058136124031650490837864442687629129015664037894272559785
abbrev jz:HL [.fp]->HO [.val .fp]:=fun (x,_)=>(iJ (x:Fp),())
theorem El:val [13402431016077863593,2210141511517208575,7435674573564081700,7239337960414712511,5412103778470702295,1873798617647539866]=4002409555221667393417789825735904156556882819939007885332058136124031650490837864442687629129015664037894272559785:=by decide
theorem ke:aB Tryz.prog 169 [.fp] [.val .fp] aM (fun _=>True) jz:=by
 refine ax (sp:=aF [pX]) (ai (ak pC) aR) mixed ph (by decide) (by decide) ?_
 rintro w M0 ⟨x,⟨⟩⟩ _ _
 refine ao (X:=(lV (x,[13402431016077863593,2210141511517208575,7435674573564081700,7239337960414712511,5412103778470702295,1873798617647539866],())/\(jG x (val [13402431016077863593,2210141511517208575,7435674573564081700,7239337960414712511,5412103778470702295,1873798617647539866]),())=jz (x,()))) (by kernel_rfl) ?_
 refine⟨?_,?_⟩
 ·intro y hy;simp at hy;rcases hy with rfl|rfl|rfl|rfl|rfl|rfl<;>exact⟨by decide,by decide⟩
 ·rw[El];rfl
def mS:Nat × Eng.Spec:=(169,ar [.fp] [.val .fp] (fun _=>True) jz)
end
end Go.Proofs.YtbeeaekepmnfhaaGreatDoor.fp
namespace Cr
class Rg (F:Type) extends Add F,Mul F,Neg F,Sub F,Zero F,One F where
 add_comm:∀ a b:F,a+b=b+a
 add_assoc:∀ a b c:F,a+b+c=a+(b+c)
 zero_add:∀ a:F,0+a=a
 neg_add:∀ a:F,-a+a=0
 sub_def:∀ a b:F,a-b=a + -b
 mul_comm:∀ a b:F,a*b=b*a
 mul_assoc:∀ a b c:F,a*b*c=a*(b*c)
 one_mul:∀ a:F,1*a=a
 add_mul:∀ a b c:F,(a+b)*c=a*c+b*c
namespace Rg
variable {F:Type} [Rg F]
theorem add_zero (a:F):a+0=a:=by rw[add_comm,zero_add]
theorem add_neg (a:F):a + -a=0:=by rw[add_comm,neg_add]
theorem mul_one (a:F):a*1=a:=by rw[mul_comm,one_mul]
theorem mul_add (a b c:F):a*(b+c)=a*b+a*c:=by rw[mul_comm,add_mul,mul_comm b,mul_comm c]
theorem FU {a b c:F} (h:a+b=a+c):b=c:=by
 have:=congrArg (fun x => -a+x) h
 simpa only[<- add_assoc,neg_add,zero_add] using this
theorem zero_mul (a:F):0*a=0:=by
 have h:0*a+0*a=0*a+0:=by rw[<- add_mul,add_zero,add_zero]
 exact FU h
theorem mul_zero (a:F):a*0=0:=by rw[mul_comm,zero_mul]
theorem neg_eq {a b:F} (h:a+b=0) : -a=b:=by
 have : -a+(a+b)=-a+0:=by rw[h]
 rw[<- add_assoc,neg_add,zero_add,add_zero] at this
 exact this.symm
theorem neg_mul (a b:F) : -a*b=-(a*b):=by
 refine (neg_eq ?_).symm
 rw[<- add_mul,add_neg,zero_mul]
theorem mul_neg (a b:F):a * -b=-(a*b):=by rw[mul_comm,neg_mul,mul_comm]
theorem neg_neg (a:F) : - -a=a:=neg_eq (neg_add a)
theorem neg_zero : -(0:F)=0:=neg_eq (zero_add 0)
theorem jN (a b:F) : -(a+b)=-a + -b:=by
 refine neg_eq ?_
 rw[add_assoc,<- add_assoc b,add_comm b,add_assoc (-a),add_neg,add_zero,add_neg]
theorem sub_self (a:F):a-a=0:=by rw[sub_def,add_neg]
theorem bq {a b:F} (h:a-b=0):a=b:=by
 rw[sub_def,add_comm] at h
 have:=neg_eq h
 rw[neg_neg] at this
 exact this.symm
theorem dW {a b:F} (h:a=b):a-b=0:=by rw[h,sub_self]
theorem uf (a b c d:F):a+b+(c+d)=a+c+(b+d):=by
 rw[add_assoc,add_assoc,<- add_assoc b,add_comm b c,add_assoc c]
def nc:Nat->F
 | 0=>0
 | n+1=>nc n+1
theorem qC (m n:Nat):nc (m+n)=(nc m+nc n:F):=by
 induction n with
 | zero=>exact (add_zero _).symm
 | succ n ih=>show nc (m+n)+1=nc m+(nc n+1);rw[ih,add_assoc]
theorem ym (m n:Nat):nc (m*n)=(nc m*nc n:F):=by
 induction n with
 | zero=>exact (mul_zero _).symm
 | succ n ih=>show nc (m*n+m)=nc m*(nc n+1);rw[qC,ih,mul_add,mul_one]
def ic (a:Int):F:=nc a.toNat + -nc (-a).toNat
theorem TI {a:Int} {x y:Nat} (h:a=(x:Int)-y):ic a=(nc x + -nc y:F):=by
 unfold ic
 have e:a.toNat+y=x+(-a).toNat:=by omega
 have e2:(nc a.toNat+nc y:F)=nc x+nc (-a).toNat:=by rw[<- qC,<- qC,e]
 generalize (nc a.toNat:F)=p at *
 generalize (nc (-a).toNat:F)=q at *
 generalize (nc x:F)=u at *
 generalize (nc y:F)=v at *
 have:p=u+q + -v:=by rw[<- e2,add_assoc,add_neg,add_zero]
 rw[this,add_assoc,add_assoc,add_comm (-v),<- add_assoc q,add_neg,zero_add]
theorem GG (a:Int):a=(a.toNat:Int)-((-a).toNat:Nat):=by omega
theorem Zx (a b:Int):ic (a+b)=(ic a+ic b:F):=by
 rw[TI (a:=a+b) (x:=a.toNat+b.toNat) (y:=(-a).toNat+(-b).toNat) (by omega),qC,qC,jN]
 exact uf _ _ _ _
theorem OU (a b:Int):ic (a*b)=(ic a*ic b:F):=by
 have h:a*b=((a.toNat*b.toNat+(-a).toNat*(-b).toNat:Nat):Int)-((a.toNat*(-b).toNat+(-a).toNat*b.toNat:Nat):Int):=by
  conv=>lhs;rw[GG a,GG b]
  simp only[Int.natCast_add,Int.natCast_mul,Int.sub_mul,Int.mul_sub]
  omega
 rw[TI h]
 unfold ic
 generalize hp:(nc a.toNat:F)=p
 generalize hq:(nc (-a).toNat:F)=q
 generalize hu:(nc b.toNat:F)=u
 generalize hv:(nc (-b).toNat:F)=v
 rw[qC,qC,ym,ym,ym,ym,hp,hq,hu,hv,add_mul,mul_add,mul_add,mul_neg,neg_mul,neg_mul,mul_neg,neg_neg,jN]
 rw[uf (p*u) (q*v),add_comm (q*v)]
theorem OV:ic 1=(1:F):=by
 show (0+1:F) + -0=1
 rw[zero_add,neg_zero,add_zero]
theorem Wh:ic 0=(0:F):=by
 show (0:F) + -0=0
 rw[zero_add,neg_zero]
theorem Cd:ic (-1)=(-1:F):=by
 show (0:F) + -(0+1)=-1
 rw[zero_add,zero_add]
end Rg
inductive PE
 | v (i:Nat)
 | one
 | zero
 | add (a b:PE)
 | mul (a b:PE)
 | sub (a b:PE)
 | neg (a:PE)
instance : Add PE := ⟨.add⟩
instance : Mul PE := ⟨.mul⟩
instance : Sub PE := ⟨.sub⟩
instance : Neg PE := ⟨.neg⟩
instance : One PE := ⟨.one⟩
instance : Zero PE := ⟨.zero⟩
def nth {F:Type} [Zero F]:List F->Nat->F
 | [],_=>0
 | x::_,0=>x
 | _::l,n+1=>nth l n
def PE.ev {F:Type} [Rg F] (l:List F):PE->F
 | .v i=>nth l i
 | .one=>1
 | .zero=>0
 | .add a b=>a.ev l+b.ev l
 | .mul a b=>a.ev l*b.ev l
 | .sub a b=>a.ev l-b.ev l
 | .neg a => -a.ev l
abbrev Mo:=List Nat
abbrev Po:=List (Mo × Int)
def DH (i:Nat):Mo->Mo
 | []=>[i]
 | j::l=>match Nat.ble i j with
  | true=>i::j::l
  | false=>j::DH i l
def mulM:Mo->Mo->Mo
 | [],m=>m
 | i::l,m=>DH i (mulM l m)
def JW:Mo->Mo->Bool
 | [],[]=>true
 | i::l,j::m=>match Nat.beq i j with
  | true=>JW l m
  | false=>false
 | _,_=>false
def ltM:Mo->Mo->Bool
 | [],[]=>false
 | [],_=>true
 | _,[]=>false
 | i::l,j::m=>match Nat.beq i j with
  | true=>ltM l m
  | false=>Nat.blt i j
def pf (m:Mo) (c:Int):Po->Po
 | []=>[(m,c)]
 | t::p=>match JW m t.1 with
  | true=>(m,c+t.2)::p
  | false=>match ltM m t.1 with
   | true=>(m,c)::t::p
   | false=>t::pf m c p
def AF:Po->Po->Po
 | [],q=>q
 | t::p,q=>pf t.1 t.2 (AF p q)
def G7 (m:Mo) (c:Int):Po->Po->Po
 | [],acc=>acc
 | t::q,acc=>pf (mulM m t.1) (c*t.2) (G7 m c q acc)
def G6:Po->Po->Po
 | [],_=>[]
 | t::p,q=>G7 t.1 t.2 q (G6 p q)
def HX (c:Int):Po->Po
 | []=>[]
 | t::p=>(t.1,c*t.2)::HX c p
def PE.nf:PE->Po
 | .v i=>[([i],1)]
 | .one=>[([],1)]
 | .zero=>[]
 | .add a b=>AF a.nf b.nf
 | .mul a b=>G6 a.nf b.nf
 | .sub a b=>AF (HX (-1) b.nf) a.nf
 | .neg a=>HX (-1) a.nf
def TM:Po->Bool
 | []=>true
 | t::p=>match t.2 with
  | .ofNat 0=>TM p
  | _=>false
section
variable {F:Type} [Rg F] (l:List F)
open Rg
def ju:Mo->F
 | []=>1
 | i::m=>nth l i*ju m
def gT:Po->F
 | []=>0
 | t::p=>ic t.2*ju l t.1+gT p
theorem Wn (i:Nat):∀ m:Mo,ju l (DH i m)=nth l i*ju l m:=by
 intro m
 induction m with
 | nil=>rfl
 | cons j m ih =>
  unfold DH
  split
  ·rfl
  ·show nth l j*ju l (DH i m)=nth l i*(nth l j*ju l m)
   rw[ih,<- mul_assoc,<- mul_assoc,mul_comm (nth l j)]
theorem WA:∀ a m:Mo,ju l (mulM a m)=ju l a*ju l m:=by
 intro a
 induction a with
 | nil=>intro m;exact (one_mul _).symm
 | cons i a ih=>intro m;show ju l (DH i (mulM a m))=nth l i*ju l a*ju l m;rw[Wn,ih,mul_assoc]
theorem Yn:∀ {a b:Mo},JW a b=true->a=b:=by
 intro a
 induction a with
 | nil=>intro b h;cases b with
  | nil=>rfl
  | cons j m=>simp[JW] at h
 | cons i a ih=>intro b h;cases b with
  | nil=>simp[JW] at h
  | cons j m =>
   unfold JW at h
   split at h
   ·rename_i hb;rw[Nat.eq_of_beq_eq_true hb,ih h]
   ·cases h
theorem Jm (m:Mo) (c:Int):∀ p:Po,gT l (pf m c p)=ic c*ju l m+gT l p:=by
 intro p
 induction p with
 | nil=>rfl
 | cons t p ih =>
  unfold pf
  split
  ·rename_i h
   show ic (c+t.2)*ju l m+gT l p=ic c*ju l m+(ic t.2*ju l t.1+gT l p)
   rw[Yn h,Zx,add_mul,add_assoc]
  ·split
   ·rfl
   ·show ic t.2*ju l t.1+gT l (pf m c p)=ic c*ju l m+(ic t.2*ju l t.1+gT l p)
    rw[ih,<- add_assoc,<- add_assoc,add_comm (ic t.2*ju l t.1)]
theorem Jl:∀ p q:Po,gT l (AF p q)=gT l p+gT l q:=by
 intro p
 induction p with
 | nil=>intro q;exact (zero_add _).symm
 | cons t p ih=>intro q;show gT l (pf t.1 t.2 (AF p q))=_;rw[Jm,ih];exact (add_assoc _ _ _).symm
theorem WC (m:Mo) (c:Int):∀ q acc:Po,gT l (G7 m c q acc)=ic c*ju l m*gT l q+gT l acc:=by
 intro q
 induction q with
 | nil=>intro acc;show gT l acc=ic c*ju l m*0+gT l acc;rw[mul_zero,zero_add]
 | cons t q ih =>
  intro acc
  show gT l (pf (mulM m t.1) (c*t.2) (G7 m c q acc))=ic c*ju l m*(ic t.2*ju l t.1+gT l q)+gT l acc
  rw[Jm,ih,WA,OU,mul_add,add_assoc]
  congr 1
  rw[mul_assoc,mul_assoc,<- mul_assoc (ic t.2),mul_comm (ic t.2),mul_assoc (ju l m)]
theorem WB:∀ p q:Po,gT l (G6 p q)=gT l p*gT l q:=by
 intro p
 induction p with
 | nil=>intro q;exact (zero_mul _).symm
 | cons t p ih=>intro q;show gT l (G7 t.1 t.2 q (G6 p q))=(ic t.2*ju l t.1+gT l p)*gT l q;rw[WC,ih,add_mul]
theorem P4 (c:Int):∀ p:Po,gT l (HX c p)=ic c*gT l p:=by
 intro p
 induction p with
 | nil=>exact (mul_zero _).symm
 | cons t p ih=>show ic (c*t.2)*ju l t.1+gT l (HX c p)=ic c*(ic t.2*ju l t.1+gT l p);rw[ih,OU,mul_add,mul_assoc]
theorem acE:∀ e:PE,gT l e.nf=e.ev l:=by
 intro e
 induction e with
 | v i=>show ic 1*(nth l i*1)+0=nth l i;rw[OV,add_zero,one_mul,mul_one]
 | one=>show ic 1*1+0=(1:F);rw[OV,add_zero,one_mul]
 | zero=>rfl
 | add a b iha ihb=>show gT l (AF a.nf b.nf)=a.ev l+b.ev l;rw[Jl,iha,ihb]
 | mul a b iha ihb=>show gT l (G6 a.nf b.nf)=a.ev l*b.ev l;rw[WB,iha,ihb]
 | sub a b iha ihb=>show gT l (AF (HX (-1) b.nf) a.nf)=a.ev l-b.ev l;rw[Jl,P4,iha,ihb,Cd,neg_mul,one_mul,sub_def,add_comm]
 | neg a iha=>show gT l (HX (-1) a.nf)=-a.ev l;rw[P4,iha,Cd,neg_mul,one_mul]
theorem ZC:∀ {p:Po},TM p=true->gT l p=0:=by
 intro p
 induction p with
 | nil=>intro _;rfl
 | cons t p ih =>
  intro h
  obtain⟨m,c⟩:=t
  unfold TM at h
  split at h
  ·rename_i hc
   have hc:c=0:=hc
   show ic c*ju l m+gT l p=0
   rw[hc,Wh,zero_mul,zero_add,ih h]
  ·cases h
theorem aL (a b:PE) (h:TM (PE.nf (.sub a b))=true):a.ev l=b.ev l:=by
 have:=ZC l h
 rw[acE] at this
 exact bq this
end
class Fd (F:Type) extends Rg F where
 deq:DecidableEq F
 inv:F->F
 mul_inv:∀ a:F,a≠0->a*inv a=1
 one_ne:(1:F)≠0
 two_ne:(1+1:F)≠0
 three_ne:(1+1+1:F)≠0
attribute [instance_reducible,instance] Fd.deq
namespace Fd
open Rg
variable {F:Type} [Fd F]
theorem mul_eq_zero {a b:F} (h:a*b=0):a=0\/b=0:=by
 by_cases ha:a=0
 ·exact .inl ha
 ·right
  have:inv a*(a*b)=0:=by rw[h,mul_zero]
  rwa [<- mul_assoc,mul_comm (inv a),mul_inv a ha,one_mul] at this
theorem dG {a b:F} (ha:a≠0) (hb:b≠0):a*b≠0:=fun h=>(mul_eq_zero h).elim ha hb
theorem mul_left {a b c:F} (ha:a≠0) (h:a*b=a*c):b=c:=by
 have:inv a*(a*b)=inv a*(a*c):=by rw[h]
 rwa [<- mul_assoc,<- mul_assoc,mul_comm (inv a),mul_inv a ha,one_mul,one_mul] at this
theorem j8 {a:F} (h:a+a=0):a=0:=by
 have:(1+1)*a=0:=by rw[add_mul,one_mul];exact h
 exact (mul_eq_zero this).resolve_left two_ne
theorem mL {a b:F} (h:a≠b):a-b≠0:=fun e=>h (bq e)
end Fd
end Cr
namespace Cr
open Rg Fd
def On {F:Type} [Rg F] (b x y:F):Prop:=y*y=x*x*x+b
def Ln {F:Type} [Rg F] (x1 y1 x2 y2 l:F):Prop:=l*(x2-x1)=y2-y1/\l*(y1+y2)=x1*x1+x1*x2+x2*x2
def sx {F:Type} [Rg F] (x1 x2 l:F):F:=l*l-x1-x2
def sy {F:Type} [Rg F] (x1 y1 x2 l:F):F:=-(y1+l*(sx x1 x2 l-x1))
section
variable {F:Type} [Rg F]
theorem mG {a b p q:F} (c:F) (h:a-b=c*(p-q)) (h1:p=q):a=b:=by
 rw[dW h1,mul_zero] at h;exact bq h
theorem Ap {a b p q p' q':F} (c c':F) (h:a-b=c*(p-q)+c'*(p'-q')) (h1:p=q) (h2:p'=q'):a=b:=by
 rw[dW h1,dW h2,mul_zero,mul_zero,zero_add] at h;exact bq h
theorem TQ {a b p q p' q' p'' q'':F} (c c' c'':F) (h:a-b=c*(p-q)+c'*(p'-q')+c''*(p''-q'')) (h1:p=q) (h2:p'=q') (h3:p''=q''):a=b:=by
 rw[dW h1,dW h2,dW h3,mul_zero,mul_zero,mul_zero,zero_add,zero_add] at h;exact bq h
theorem O7 {a b p q p' q' p'' q'' u v:F} (c c' c'' d:F) (h:a-b=c*(p-q)+c'*(p'-q')+c''*(p''-q'')+d*(u-v)) (h1:p=q) (h2:p'=q') (h3:p''=q'') (h4:u=v):a=b:=by
 rw[dW h1,dW h2,dW h3,dW h4,mul_zero,mul_zero,mul_zero,mul_zero,zero_add,zero_add,zero_add] at h;exact bq h
end
theorem RQ {F:Type} [Rg F] (x1 y1 x2 y2 l x b:F):(y1+l*(x-x1))*(y1+l*(x-x1))-(x*x*x+b)=1*(y1*y1-(x1*x1*x1+b))+(x-x1)*(l*(y1+y2)-(x1*x1+x1*x2+x2*x2))+(x-x1)*l*(l*(x2-x1)-(y2-y1))+(x-x1)*(x-x2)*((l*l-x1-x2)-x) :=
 aL [x1,y1,x2,y2,l,x,b] ((fun (x1 y1 x2 y2 l x b:PE)=>((y1+l*(x-x1))*(y1+l*(x-x1))-(x*x*x+b))) (.v 0) (.v 1) (.v 2) (.v 3) (.v 4) (.v 5) (.v 6)) ((fun (x1 y1 x2 y2 l x b:PE)=>(1*(y1*y1-(x1*x1*x1+b))+(x-x1)*(l*(y1+y2)-(x1*x1+x1*x2+x2*x2))+(x-x1)*l*(l*(x2-x1)-(y2-y1))+(x-x1)*(x-x2)*((l*l-x1-x2)-x))) (.v 0) (.v 1) (.v 2) (.v 3) (.v 4) (.v 5) (.v 6)) (by kernel_rfl)
theorem OT {F:Type} [Rg F] (a:F):(- a)*(- a)=a*a :=
 aL [a] ((fun (a:PE)=>((- a)*(- a))) (.v 0)) ((fun (a:PE)=>(a*a)) (.v 0)) (by kernel_rfl)
theorem Wf {F:Type} [Rg F] (x1 y1 x2 y2 l:F):l*(y1 + - -(y1+l*((l*l-x1-x2)-x1)))-(x1*x1+x1*(l*l-x1-x2)+(l*l-x1-x2)*(l*l-x1-x2))=1*(l*(y1+y2)-(x1*x1+x1*x2+x2*x2))+l*(l*(x2-x1)-(y2-y1)) :=
 aL [x1,y1,x2,y2,l] ((fun (x1 y1 x2 y2 l:PE)=>(l*(y1 + - -(y1+l*((l*l-x1-x2)-x1)))-(x1*x1+x1*(l*l-x1-x2)+(l*l-x1-x2)*(l*l-x1-x2)))) (.v 0) (.v 1) (.v 2) (.v 3) (.v 4)) ((fun (x1 y1 x2 y2 l:PE)=>(1*(l*(y1+y2)-(x1*x1+x1*x2+x2*x2))+l*(l*(x2-x1)-(y2-y1)))) (.v 0) (.v 1) (.v 2) (.v 3) (.v 4)) (by kernel_rfl)
theorem RR {F:Type} [Rg F] (x1 y1 x2 l:F):l*((l*l-x1-x2)-x1)=- -(y1+l*((l*l-x1-x2)-x1))-y1 :=
 aL [x1,y1,x2,l] ((fun (x1 y1 x2 l:PE)=>(l*((l*l-x1-x2)-x1))) (.v 0) (.v 1) (.v 2) (.v 3)) ((fun (x1 y1 x2 l:PE)=>(- -(y1+l*((l*l-x1-x2)-x1))-y1)) (.v 0) (.v 1) (.v 2) (.v 3)) (by kernel_rfl)
theorem Zt {F:Type} [Rg F] (x1 x2 l:F):l*l-x1-x2=l*l-x2-x1 :=
 aL [x1,x2,l] ((fun (x1 x2 l:PE)=>(l*l-x1-x2)) (.v 0) (.v 1) (.v 2)) ((fun (x1 x2 l:PE)=>(l*l-x2-x1)) (.v 0) (.v 1) (.v 2)) (by kernel_rfl)
theorem Zu {F:Type} [Rg F] (x1 y1 x2 y2 l:F) : -(y1+l*((l*l-x1-x2)-x1)) - -(y2+l*((l*l-x2-x1)-x2))=(-1)*(l*(x2-x1)-(y2-y1)) :=
 aL [x1,y1,x2,y2,l] ((fun (x1 y1 x2 y2 l:PE)=>(-(y1+l*((l*l-x1-x2)-x1)) - -(y2+l*((l*l-x2-x1)-x2)))) (.v 0) (.v 1) (.v 2) (.v 3) (.v 4)) ((fun (x1 y1 x2 y2 l:PE)=>((-1)*(l*(x2-x1)-(y2-y1)))) (.v 0) (.v 1) (.v 2) (.v 3) (.v 4)) (by kernel_rfl)
theorem Zr {F:Type} [Rg F] (x1 y1 x2 y2 l:F):l*(x1-x2)-(y1-y2)=(-1)*(l*(x2-x1)-(y2-y1)) :=
 aL [x1,y1,x2,y2,l] ((fun (x1 y1 x2 y2 l:PE)=>(l*(x1-x2)-(y1-y2))) (.v 0) (.v 1) (.v 2) (.v 3) (.v 4)) ((fun (x1 y1 x2 y2 l:PE)=>((-1)*(l*(x2-x1)-(y2-y1)))) (.v 0) (.v 1) (.v 2) (.v 3) (.v 4)) (by kernel_rfl)
theorem Zs {F:Type} [Rg F] (x1 y1 x2 y2 l:F):l*(y2+y1)-(x2*x2+x2*x1+x1*x1)=1*(l*(y1+y2)-(x1*x1+x1*x2+x2*x2)) :=
 aL [x1,y1,x2,y2,l] ((fun (x1 y1 x2 y2 l:PE)=>(l*(y2+y1)-(x2*x2+x2*x1+x1*x1))) (.v 0) (.v 1) (.v 2) (.v 3) (.v 4)) ((fun (x1 y1 x2 y2 l:PE)=>(1*(l*(y1+y2)-(x1*x1+x1*x2+x2*x2)))) (.v 0) (.v 1) (.v 2) (.v 3) (.v 4)) (by kernel_rfl)
theorem aeZ {F:Type} [Rg F] (x y u v l m:F):(x*x+(u+l*m)*x+(u*u-l*m*u+(l-m)*v)-(l+m)*y)-0=(-1)*(l*(y + -v)-(x*x+x*u+u*u))+(-m)*(l*(u-x)-(-v-y)) :=
 aL [x,y,u,v,l,m] ((fun (x y u v l m:PE)=>((x*x+(u+l*m)*x+(u*u-l*m*u+(l-m)*v)-(l+m)*y)-0)) (.v 0) (.v 1) (.v 2) (.v 3) (.v 4) (.v 5)) ((fun (x y u v l m:PE)=>((-1)*(l*(y + -v)-(x*x+x*u+u*u))+(-m)*(l*(u-x)-(-v-y)))) (.v 0) (.v 1) (.v 2) (.v 3) (.v 4) (.v 5)) (by kernel_rfl)
theorem ae0 {F:Type} [Rg F] (x y u v l m:F):(x*x+(u+l*m)*x+(u*u-l*m*u+(l-m)*v)-(l+m)*y)-0=(-1)*(m*(v+y)-(u*u+u*x+x*x))+l*(m*(x-u)-(y-v)) :=
 aL [x,y,u,v,l,m] ((fun (x y u v l m:PE)=>((x*x+(u+l*m)*x+(u*u-l*m*u+(l-m)*v)-(l+m)*y)-0)) (.v 0) (.v 1) (.v 2) (.v 3) (.v 4) (.v 5)) ((fun (x y u v l m:PE)=>((-1)*(m*(v+y)-(u*u+u*x+x*x))+l*(m*(x-u)-(y-v)))) (.v 0) (.v 1) (.v 2) (.v 3) (.v 4) (.v 5)) (by kernel_rfl)
theorem Wd {F:Type} [Rg F] (x1 y1 x2 y2 l i b:F):(l*(y1+y2)-(x1*x1+x1*x2+x2*x2))*(x2-x1)-0=(y1+y2)*(l*(x2-x1)-(y2-y1))+1*(y2*y2-(x2*x2*x2+b))+(-1)*(y1*y1-(x1*x1*x1+b)) :=
 aL [x1,y1,x2,y2,l,i,b] ((fun (x1 y1 x2 y2 l i b:PE)=>((l*(y1+y2)-(x1*x1+x1*x2+x2*x2))*(x2-x1)-0)) (.v 0) (.v 1) (.v 2) (.v 3) (.v 4) (.v 5) (.v 6)) ((fun (x1 y1 x2 y2 l i b:PE)=>((y1+y2)*(l*(x2-x1)-(y2-y1))+1*(y2*y2-(x2*x2*x2+b))+(-1)*(y1*y1-(x1*x1*x1+b)))) (.v 0) (.v 1) (.v 2) (.v 3) (.v 4) (.v 5) (.v 6)) (by kernel_rfl)
theorem Fq {F:Type} [Rg F] (a b:F):(a-b)*(a+b)=a*a-b*b :=
 aL [a,b] ((fun (a b:PE)=>((a-b)*(a+b))) (.v 0) (.v 1)) ((fun (a b:PE)=>(a*a-b*b)) (.v 0) (.v 1)) (by kernel_rfl)
theorem i_h {F:Type} [Rg F] (a1 a0 g b1 b0 h l xP yP xQ xR yR:F):(g-h)*(l*(xR-xP)-(yR-yP))=(xR*xR+a1*xR+a0-g*yR)-(xP*xP+a1*xP+a0-g*yP)-(xR*xR+b1*xR+b0-h*yR)+(xP*xP+b1*xP+b0-h*yP)-(xR-xP)*(((xP+xQ+a1)-g*l)-((xP+xQ+b1)-h*l)) :=
 aL [a1,a0,g,b1,b0,h,l,xP,yP,xQ,xR,yR] ((fun (a1 a0 g b1 b0 h l xP yP xQ xR yR:PE)=>((g-h)*(l*(xR-xP)-(yR-yP)))) (.v 0) (.v 1) (.v 2) (.v 3) (.v 4) (.v 5) (.v 6) (.v 7) (.v 8) (.v 9) (.v 10) (.v 11)) ((fun (a1 a0 g b1 b0 h l xP yP xQ xR yR:PE)=>((xR*xR+a1*xR+a0-g*yR)-(xP*xP+a1*xP+a0-g*yP)-(xR*xR+b1*xR+b0-h*yR)+(xP*xP+b1*xP+b0-h*yP)-(xR-xP)*(((xP+xQ+a1)-g*l)-((xP+xQ+b1)-h*l)))) (.v 0) (.v 1) (.v 2) (.v 3) (.v 4) (.v 5) (.v 6) (.v 7) (.v 8) (.v 9) (.v 10) (.v 11)) (by kernel_rfl)
theorem aeT {F:Type} [Rg F] (a1 b1 g l xP xQ:F):a1-b1=1*((xP+xQ+a1)-g*l)+(-1)*((xP+xQ+b1)-g*l) :=
 aL [a1,b1,g,l,xP,xQ] ((fun (a1 b1 g l xP xQ:PE)=>(a1-b1)) (.v 0) (.v 1) (.v 2) (.v 3) (.v 4) (.v 5)) ((fun (a1 b1 g l xP xQ:PE)=>(1*((xP+xQ+a1)-g*l)+(-1)*((xP+xQ+b1)-g*l))) (.v 0) (.v 1) (.v 2) (.v 3) (.v 4) (.v 5)) (by kernel_rfl)
theorem aeS {F:Type} [Rg F] (a0 b0 a1 g xP yP:F):a0-b0=1*((xP*xP+a1*xP+a0-g*yP)-0)+(-1)*((xP*xP+a1*xP+b0-g*yP)-0) :=
 aL [a0,b0,a1,g,xP,yP] ((fun (a0 b0 a1 g xP yP:PE)=>(a0-b0)) (.v 0) (.v 1) (.v 2) (.v 3) (.v 4) (.v 5)) ((fun (a0 b0 a1 g xP yP:PE)=>(1*((xP*xP+a1*xP+a0-g*yP)-0)+(-1)*((xP*xP+a1*xP+b0-g*yP)-0))) (.v 0) (.v 1) (.v 2) (.v 3) (.v 4) (.v 5)) (by kernel_rfl)
theorem i_g {F:Type} [Rg F] (a1 a0 xP yP xR yR:F):(xR-xP)*(xR+xP+a1)=(xR*xR+a1*xR+a0-0*yR)-(xP*xP+a1*xP+a0-0*yP) :=
 aL [a1,a0,xP,yP,xR,yR] ((fun (a1 a0 xP yP xR yR:PE)=>((xR-xP)*(xR+xP+a1))) (.v 0) (.v 1) (.v 2) (.v 3) (.v 4) (.v 5)) ((fun (a1 a0 xP yP xR yR:PE)=>((xR*xR+a1*xR+a0-0*yR)-(xP*xP+a1*xP+a0-0*yP))) (.v 0) (.v 1) (.v 2) (.v 3) (.v 4) (.v 5)) (by kernel_rfl)
theorem ae1 {F:Type} [Rg F] (a1 xP xQ xR l:F):xR-xQ=1*((xR+xP+a1)-0)+(-1)*((xP+xQ+a1)-0*l) :=
 aL [a1,xP,xQ,xR,l] ((fun (a1 xP xQ xR l:PE)=>(xR-xQ)) (.v 0) (.v 1) (.v 2) (.v 3) (.v 4)) ((fun (a1 xP xQ xR l:PE)=>(1*((xR+xP+a1)-0)+(-1)*((xP+xQ+a1)-0*l))) (.v 0) (.v 1) (.v 2) (.v 3) (.v 4)) (by kernel_rfl)
theorem i_y {F:Type} [Rg F] (a1 a0 g x y t:F):g*(y-t)-0=1*((x*x+a1*x+a0-g * -y)-0)+(-1)*((x*x+a1*x+a0-g * -t)-0) :=
 aL [a1,a0,g,x,y,t] ((fun (a1 a0 g x y t:PE)=>(g*(y-t)-0)) (.v 0) (.v 1) (.v 2) (.v 3) (.v 4) (.v 5)) ((fun (a1 a0 g x y t:PE)=>(1*((x*x+a1*x+a0-g * -y)-0)+(-1)*((x*x+a1*x+a0-g * -t)-0))) (.v 0) (.v 1) (.v 2) (.v 3) (.v 4) (.v 5)) (by kernel_rfl)
theorem aeU {F:Type} [Rg F] (x1 x2 l:F):(-l)*(-l)-x1-(l*l-x1-x2)=x2 :=
 aL [x1,x2,l] ((fun (x1 x2 l:PE)=>((-l)*(-l)-x1-(l*l-x1-x2))) (.v 0) (.v 1) (.v 2)) ((fun (x1 x2 l:PE)=>(x2)) (.v 0) (.v 1) (.v 2)) (by kernel_rfl)
theorem aeV {F:Type} [Rg F] (x1 y1 x2 y2 l:F) : -(-y1 + -l*(x2-x1))-y2=1*(l*(x2-x1)-(y2-y1)) :=
 aL [x1,y1,x2,y2,l] ((fun (x1 y1 x2 y2 l:PE)=>(-(-y1 + -l*(x2-x1))-y2)) (.v 0) (.v 1) (.v 2) (.v 3) (.v 4)) ((fun (x1 y1 x2 y2 l:PE)=>(1*(l*(x2-x1)-(y2-y1)))) (.v 0) (.v 1) (.v 2) (.v 3) (.v 4)) (by kernel_rfl)
theorem Zn {F:Type} [Rg F] (x1 y1 u v l:F) : -l*(u-x1)-(v - -y1)=(-1)*(l*(u-x1)-(-v-y1)) :=
 aL [x1,y1,u,v,l] ((fun (x1 y1 u v l:PE)=>(-l*(u-x1)-(v - -y1))) (.v 0) (.v 1) (.v 2) (.v 3) (.v 4)) ((fun (x1 y1 u v l:PE)=>((-1)*(l*(u-x1)-(-v-y1)))) (.v 0) (.v 1) (.v 2) (.v 3) (.v 4)) (by kernel_rfl)
theorem Zo {F:Type} [Rg F] (x1 y1 u v l:F) : -l*(-y1+v)-(x1*x1+x1*u+u*u)=1*(l*(y1 + -v)-(x1*x1+x1*u+u*u)) :=
 aL [x1,y1,u,v,l] ((fun (x1 y1 u v l:PE)=>(-l*(-y1+v)-(x1*x1+x1*u+u*u))) (.v 0) (.v 1) (.v 2) (.v 3) (.v 4)) ((fun (x1 y1 u v l:PE)=>(1*(l*(y1 + -v)-(x1*x1+x1*u+u*u)))) (.v 0) (.v 1) (.v 2) (.v 3) (.v 4)) (by kernel_rfl)
theorem Zv {F:Type} [Rg F] (xP xQ a1 g l yP yQ a0:F):(xQ-xP)*((xP+xQ+a1)-g*l)-0=1*((xQ*xQ+a1*xQ+a0-g*yQ)-0)+(-1)*((xP*xP+a1*xP+a0-g*yP)-0)+(-g)*(l*(xQ-xP)-(yQ-yP)) :=
 aL [xP,xQ,a1,g,l,yP,yQ,a0] ((fun (xP xQ a1 g l yP yQ a0:PE)=>((xQ-xP)*((xP+xQ+a1)-g*l)-0)) (.v 0) (.v 1) (.v 2) (.v 3) (.v 4) (.v 5) (.v 6) (.v 7)) ((fun (xP xQ a1 g l yP yQ a0:PE)=>(1*((xQ*xQ+a1*xQ+a0-g*yQ)-0)+(-1)*((xP*xP+a1*xP+a0-g*yP)-0)+(-g)*(l*(xQ-xP)-(yQ-yP)))) (.v 0) (.v 1) (.v 2) (.v 3) (.v 4) (.v 5) (.v 6) (.v 7)) (by kernel_rfl)
theorem Zw {F:Type} [Rg F] (x y u v k m l:F):(u-x)*((x+x+(u+k*m))-(k+m)*l)-0=(-l)*(k*(u-x)-(-v-y))+(k-l)*(m*(u-x)-(v-y))+(-1)*(k*(y + -v)-(x*x+x*u+u*u))+1*(l*(y+y)-(x*x+x*x+x*x)) :=
 aL [x,y,u,v,k,m,l] ((fun (x y u v k m l:PE)=>((u-x)*((x+x+(u+k*m))-(k+m)*l)-0)) (.v 0) (.v 1) (.v 2) (.v 3) (.v 4) (.v 5) (.v 6)) ((fun (x y u v k m l:PE)=>((-l)*(k*(u-x)-(-v-y))+(k-l)*(m*(u-x)-(v-y))+(-1)*(k*(y + -v)-(x*x+x*u+u*u))+1*(l*(y+y)-(x*x+x*x+x*x)))) (.v 0) (.v 1) (.v 2) (.v 3) (.v 4) (.v 5) (.v 6)) (by kernel_rfl)
theorem Zq {F:Type} [Rg F] (g a p r:F):g-a-(p+r+p)=g-a-(p+p+r) :=
 aL [g,a,p,r] ((fun (g a p r:PE)=>(g-a-(p+r+p))) (.v 0) (.v 1) (.v 2) (.v 3)) ((fun (g a p r:PE)=>(g-a-(p+p+r))) (.v 0) (.v 1) (.v 2) (.v 3)) (by kernel_rfl)
theorem We {F:Type} [Rg F] (g a p q r:F):g-a-(q+r+p)=g-a-(p+q+r) :=
 aL [g,a,p,q,r] ((fun (g a p q r:PE)=>(g-a-(q+r+p))) (.v 0) (.v 1) (.v 2) (.v 3) (.v 4)) ((fun (g a p q r:PE)=>(g-a-(p+q+r))) (.v 0) (.v 1) (.v 2) (.v 3) (.v 4)) (by kernel_rfl)
theorem ae2 {F:Type} [Rg F] (x1 y1 x2 y2 l:F) : -l*(x2-x1)-(-y2 - -y1)=(-1)*(l*(x2-x1)-(y2-y1)) :=
 aL [x1,y1,x2,y2,l] ((fun (x1 y1 x2 y2 l:PE)=>(-l*(x2-x1)-(-y2 - -y1))) (.v 0) (.v 1) (.v 2) (.v 3) (.v 4)) ((fun (x1 y1 x2 y2 l:PE)=>((-1)*(l*(x2-x1)-(y2-y1)))) (.v 0) (.v 1) (.v 2) (.v 3) (.v 4)) (by kernel_rfl)
theorem ae3 {F:Type} [Rg F] (x1 y1 x2 y2 l:F) : -l*(-y1 + -y2)-(x1*x1+x1*x2+x2*x2)=1*(l*(y1+y2)-(x1*x1+x1*x2+x2*x2)) :=
 aL [x1,y1,x2,y2,l] ((fun (x1 y1 x2 y2 l:PE)=>(-l*(-y1 + -y2)-(x1*x1+x1*x2+x2*x2))) (.v 0) (.v 1) (.v 2) (.v 3) (.v 4)) ((fun (x1 y1 x2 y2 l:PE)=>(1*(l*(y1+y2)-(x1*x1+x1*x2+x2*x2)))) (.v 0) (.v 1) (.v 2) (.v 3) (.v 4)) (by kernel_rfl)
theorem ae4 {F:Type} [Rg F] (x1 x2 l:F):l*l-x1-x2=-l * -l-x1-x2 :=
 aL [x1,x2,l] ((fun (x1 x2 l:PE)=>(l*l-x1-x2)) (.v 0) (.v 1) (.v 2)) ((fun (x1 x2 l:PE)=>(-l * -l-x1-x2)) (.v 0) (.v 1) (.v 2)) (by kernel_rfl)
theorem ae5 {F:Type} [Rg F] (x1 y1 x2 l:F) : - -(y1+l*((l*l-x1-x2)-x1))=-(-y1 + -l*((-l * -l-x1-x2)-x1)) :=
 aL [x1,y1,x2,l] ((fun (x1 y1 x2 l:PE)=>(- -(y1+l*((l*l-x1-x2)-x1)))) (.v 0) (.v 1) (.v 2) (.v 3)) ((fun (x1 y1 x2 l:PE)=>(-(-y1 + -l*((-l * -l-x1-x2)-x1)))) (.v 0) (.v 1) (.v 2) (.v 3)) (by kernel_rfl)
theorem Zl {F:Type} [Rg F] (xP xQ l m:F):xP+xQ+((l*l-xP-xQ)+l*m)=(l+m)*l :=
 aL [xP,xQ,l,m] ((fun (xP xQ l m:PE)=>(xP+xQ+((l*l-xP-xQ)+l*m))) (.v 0) (.v 1) (.v 2) (.v 3)) ((fun (xP xQ l m:PE)=>((l+m)*l)) (.v 0) (.v 1) (.v 2) (.v 3)) (by kernel_rfl)
theorem Zk {F:Type} [Rg F] (xP xQ xR l m:F):m*m-(l*l-xP-xQ)-xR=(l+m)*(l+m)-(((l*l-xP-xQ)+l*m)+((l*l-xP-xQ)+l*m))-(xP+xQ+xR) :=
 aL [xP,xQ,xR,l,m] ((fun (xP xQ xR l m:PE)=>(m*m-(l*l-xP-xQ)-xR)) (.v 0) (.v 1) (.v 2) (.v 3) (.v 4)) ((fun (xP xQ xR l m:PE)=>((l+m)*(l+m)-(((l*l-xP-xQ)+l*m)+((l*l-xP-xQ)+l*m))-(xP+xQ+xR))) (.v 0) (.v 1) (.v 2) (.v 3) (.v 4)) (by kernel_rfl)
section
variable {F:Type} [Fd F] {b:F}
theorem Xe {a:F} (h:a*a=0):a=0:=(mul_eq_zero h).elim id id
theorem Ni {a:F} (h:a+a+a=0):a=0:=by
 have:(1+1+1)*a=0:=by rw[add_mul,add_mul,one_mul];exact h
 exact (mul_eq_zero this).resolve_left three_ne
theorem qe {a:F} (h:a=-a):a=0:=j8 (by
 have:=dW h
 rwa [sub_def,neg_neg] at this)
theorem Ln.symm {x1 y1 x2 y2 l:F} (h:Ln x1 y1 x2 y2 l):Ln x2 y2 x1 y1 l:=⟨mG _ (Zr x1 y1 x2 y2 l) h.1,mG _ (Zs x1 y1 x2 y2 l) h.2⟩
theorem rL (x1 x2 l:F):sx x1 x2 l=sx x2 x1 l:=Zt x1 x2 l
theorem z6 {x1 y1 x2 y2 l:F} (h:Ln x1 y1 x2 y2 l):sy x1 y1 x2 l=sy x2 y2 x1 l:=mG _ (Zu x1 y1 x2 y2 l) h.1
theorem Ln.kV {x1 y1 x2 y2 l:F} (h:Ln x1 y1 x2 y2 l):Ln x1 y1 (sx x1 x2 l) (-sy x1 y1 x2 l) l :=
 ⟨RR x1 y1 x2 l,Ap _ _ (Wf x1 y1 x2 y2 l) h.2 h.1⟩
theorem Ln.s8 {x1 y1 x2 y2 l:F} (h:Ln x1 y1 x2 y2 l):Ln x2 y2 (sx x1 x2 l) (-sy x1 y1 x2 l) l:=by
 have t:=h.symm.kV
 rw[<- rL x1 x2 l,<- z6 h] at t
 exact t
theorem Ln.fA {x1 y1 x2 y2 l:F} (h:Ln x1 y1 x2 y2 l) (h1:On b x1 y1):On b (sx x1 x2 l) (sy x1 y1 x2 l):=by
 unfold On sy
 rw[OT]
 exact O7 _ _ _ _ (RQ x1 y1 x2 y2 l (sx x1 x2 l) b) h1 h.2 h.1 rfl
theorem Ln.UN {x1 y1 x2 y2 l x y:F} (h:Ln x1 y1 x2 y2 l) (h1:On b x1 y1) (ho:On b x y) (hy:y=y1+l*(x-x1)):x=x1\/x=x2\/x=sx x1 x2 l:=by
 have e:=RQ x1 y1 x2 y2 l x b
 rw[<- hy,dW ho,dW h1,dW h.1,dW h.2,mul_zero,mul_zero,mul_zero,zero_add,zero_add,zero_add] at e
 rcases mul_eq_zero e.symm with e|e
 ·rcases mul_eq_zero e with e|e
  ·exact .inl (bq e)
  ·exact .inr (.inl (bq e))
 ·exact .inr (.inr (bq e).symm)
theorem Ln.not_neg (hb:b≠0) {x1 y1 x2 y2 l:F} (h:Ln x1 y1 x2 y2 l) (h1:On b x1 y1):¬(x1=x2/\y2=-y1):=by
 rintro⟨rfl,rfl⟩
 obtain⟨e1,e2⟩:=h
 rw[sub_self,mul_zero] at e1
 have hy:y1=0:=qe (bq e1.symm).symm
 subst hy
 rw[neg_zero,add_zero,mul_zero] at e2
 have hx:x1=0:=Xe (Ni e2.symm)
 subst hx
 unfold On at h1
 rw[mul_zero,mul_zero,zero_add] at h1
 exact hb h1.symm
theorem Ln.unique (hb:b≠0) {x1 y1 x2 y2 l m:F} (h:Ln x1 y1 x2 y2 l) (k:Ln x1 y1 x2 y2 m) (h1:On b x1 y1):l=m:=by
 by_cases hx:x2-x1=0
 ·by_cases hy:y1+y2=0
  ·exact absurd ⟨(bq hx).symm,(neg_eq hy).symm⟩ (h.not_neg hb h1)
  ·refine mul_left hy ?_
   rw[mul_comm _ l,h.2,mul_comm _ m,k.2]
 ·refine mul_left hx ?_
  rw[mul_comm _ l,h.1,mul_comm _ m,k.1]
def ox (x1 y1 x2 y2:F):F:=if x1=x2 then (x1*x1+x1*x1+x1*x1)*inv (y1+y1) else (y2-y1)*inv (x2-x1)
theorem Bp {x1 y1 x2 y2:F} (h1:On b x1 y1) (h2:On b x2 y2) (hn:¬(x1=x2/\y2=-y1)):Ln x1 y1 x2 y2 (ox x1 y1 x2 y2):=by
 unfold ox
 split
 ·rename_i hx
  subst hx
  have e:(y2-y1)*(y2+y1)=0:=by
   have:(y2-y1)*(y2+y1)=y2*y2-y1*y1:=Fq y2 y1
   rw[this,h1,h2,sub_self]
  rcases mul_eq_zero e with e|e
  ·have e:=bq e
   subst e
   have hy:y2+y2≠0:=fun h=>hn ⟨rfl,(neg_eq h).symm⟩
   refine⟨by rw[sub_self,sub_self,mul_zero],?_⟩
   rw[mul_assoc,mul_comm (inv _),mul_inv _ hy,mul_one]
  ·exact absurd ⟨rfl,(neg_eq (by rw[add_comm];exact e)).symm⟩ hn
 ·rename_i hx
  have hd:x2-x1≠0:=mL (fun e=>hx e.symm)
  have e1:(y2-y1)*inv (x2-x1)*(x2-x1)=y2-y1:=by rw[mul_assoc,mul_comm (inv _),mul_inv _ hd,mul_one]
  refine⟨e1,?_⟩
  generalize (y2-y1)*inv (x2-x1)=l at *
  have:=TQ _ _ _ (Wd x1 y1 x2 y2 l 0 b) e1 h2 h1
  exact bq ((mul_eq_zero this).resolve_right hd)
def fn (u v l m x y:F):F:=x*x+(u+l*m)*x+(u*u-l*m*u+(l-m)*v)-(l+m)*y
theorem Ak {u v l m x y:F} (h:Ln x y u (-v) l):fn u v l m x y=0:=Ap _ _ (aeZ x y u v l m) h.2 h.1
theorem Gn {u v l m x y:F} (h:Ln u v x y m):fn u v l m x y=0:=Ap _ _ (ae0 x y u v l m) h.2 h.1
theorem same {a1 a0 g b1 b0 h l xP yP xQ xR yR:F} (f1P:xP*xP+a1*xP+a0-g*yP=0) (f1R:xR*xR+a1*xR+a0-g*yR=0) (f2P:xP*xP+b1*xP+b0-h*yP=0) (f2R:xR*xR+b1*xR+b0-h*yR=0)
  (T1:xP+xQ+a1=g*l) (T2:xP+xQ+b1=h*l) (hne:yR≠yP+l*(xR-xP)):a1=b1/\a0=b0/\g=h:=by
 have e:=i_h a1 a0 g b1 b0 h l xP yP xQ xR yR
 rw[f1P,f1R,f2P,f2R,dW T1,dW T2,sub_self,sub_self,add_zero,mul_zero,sub_self] at e
 have hg:g=h:=by
  rcases mul_eq_zero e with e|e
  ·exact bq e
  ·exfalso
   have:=bq e
   exact hne (by rw[this,sub_def,add_comm,add_assoc,neg_add,add_zero])
 subst hg
 have h1:=Ap _ _ (aeT a1 b1 g l xP xQ) T1 T2
 subst h1
 exact⟨rfl,Ap _ _ (aeS a0 b0 a1 g xP yP) f1P f2P,rfl⟩
theorem aeL {a1 a0 g l xP yP xQ xR yR:F} (f1P:xP*xP+a1*xP+a0-g*yP=0) (f1R:xR*xR+a1*xR+a0-g*yR=0) (T1:xP+xQ+a1=g*l) (h1:xR≠xP) (h2:xR≠xQ):g≠0:=by
 intro hg
 subst hg
 have e:=i_g a1 a0 xP yP xR yR
 rw[f1P,f1R,sub_self] at e
 rcases mul_eq_zero e with e|e
 ·exact h1 (bq e)
 ·exact h2 (Ap _ _ (ae1 a1 xP xQ xR l) e T1)
theorem main {xP yP xQ yQ xR yR l m u v l' m' s t:F} (hb:b≠0) (oP:On b xP yP) (oR:On b xR yR) (hl:Ln xP yP xQ yQ l) (hm:Ln (sx xP xQ l) (sy xP yP xQ l) xR yR m)
  (T2:xP+xQ+(u+l'*m')=(l'+m')*l) (f2P:fn u v l' m' xP yP=0) (f2R:fn u v l' m' xR yR=0) (f2S:fn u v l' m' s (-t)=0)
  (hs:s=(l'+m')*(l'+m')-((u+l'*m')+(u+l'*m'))-(xP+xQ+xR)) (h1:xR≠xP) (h2:xR≠xQ) :
  sx (sx xP xQ l) xR m=s/\sy (sx xP xQ l) (sy xP yP xQ l) xR m=t:=by
 have f1P:fn (sx xP xQ l) (sy xP yP xQ l) l m xP yP=0:=Ak hl.kV
 have f1R:fn (sx xP xQ l) (sy xP yP xQ l) l m xR yR=0:=Gn hm
 have f1S:fn (sx xP xQ l) (sy xP yP xQ l) l m (sx (sx xP xQ l) xR m) (-sy (sx xP xQ l) (sy xP yP xQ l) xR m)=0:=Gn hm.kV
 have T1:xP+xQ+(sx xP xQ l+l*m)=(l+m)*l:=Zl xP xQ l m
 have hne:yR≠yP+l*(xR-xP):=by
  intro hy
  rcases hl.UN oP oR hy with e|e|e
  ·exact h1 e
  ·exact h2 e
  ·refine hm.not_neg hb (hl.fA oP) ⟨e.symm,?_⟩
   unfold sy
   rw[neg_neg,<- e]
   exact hy
 have hg:=aeL f1P f1R T1 h1 h2
 obtain⟨e1,e2,e3⟩:=same f1P f1R f2P f2R T1 T2 hne
 have hS:sx (sx xP xQ l) xR m=s:=by
  rw[hs,<- e1,<- e3]
  exact Zk xP xQ xR l m
 refine⟨hS,?_⟩
 rw[hS] at f1S
 unfold fn at f1S f2S
 rw[<- e1,<- e2,<- e3] at f2S
 have:=Ap _ _ (i_y _ _ _ s _ t) f1S f2S
 exact bq ((mul_eq_zero this).resolve_left hg)
abbrev O2:F × F:=(0,0)
def aX (P:F × F):F × F:=(P.1,-P.2)
def ae (P Q:F × F):F × F :=
 if P=O2 then Q else if Q=O2 then P else if P.1=Q.1/\Q.2=-P.2 then O2 else (sx P.1 Q.1 (ox P.1 P.2 Q.1 Q.2),sy P.1 P.2 Q.1 (ox P.1 P.2 Q.1 Q.2))
def aV (b:F) (P:F × F):Prop:=P=O2\/On b P.1 P.2
abbrev gX (P Q:F × F) (l:F):Prop:=Ln P.1 P.2 Q.1 Q.2 l
abbrev cY (b:F) (P:F × F):Prop:=On b P.1 P.2
variable (hb:b≠0)
include hb
theorem tG {P:F × F} (h:cY b P):P≠O2:=by
 rintro rfl
 have h:(0:F)*0=0*0*0+b:=h
 rw[mul_zero,mul_zero,zero_add] at h
 exact hb h.symm
omit hb in
theorem iC:aX (O2:F × F)=O2:=by show ((0:F),-(0:F))=_;rw[neg_zero]
omit hb in
theorem cR (P:F × F):aX (aX P)=P:=by show (P.1,- -P.2)=P;rw[neg_neg]
omit hb in
theorem pP {P:F × F} (h:cY b P):cY b (aX P):=by
 have h:P.2*P.2=P.1*P.1*P.1+b:=h
 show -P.2 * -P.2=P.1*P.1*P.1+b
 rw[OT,h]
omit hb in
theorem cP {P:F × F} (h:aV b P):aV b (aX P):=by
 rcases h with rfl|h
 ·exact .inl iC
 ·exact .inr (pP h)
theorem bV {P Q:F × F} {l:F} (oP:cY b P) (oQ:cY b Q) (h:gX P Q l):ae P Q=(sx P.1 Q.1 l,sy P.1 P.2 Q.1 l):=by
 unfold ae
 have hn:=h.not_neg hb oP
 rw[if_neg (tG hb oP),if_neg (tG hb oQ),if_neg hn,(Bp oP oQ hn).unique hb h oP]
omit hb in
theorem ct (Q:F × F):ae O2 Q=Q:=by unfold ae;rw[if_pos rfl]
omit hb in
theorem dD (P:F × F):ae P O2=P:=by
 unfold ae
 split
 ·rename_i h;exact h.symm
 ·rw[if_pos rfl]
omit hb in
theorem fQ {P Q:F × F} (oP:cY b P) (oQ:cY b Q):Q=aX P\/∃ l,gX P Q l:=by
 by_cases h:P.1=Q.1/\Q.2=-P.2
 ·left;exact Prod.ext h.1.symm h.2
 ·exact .inr ⟨_,Bp oP oQ h⟩
omit hb in
theorem bE (P:F × F):ae P (aX P)=O2:=by
 unfold ae
 split
 ·rename_i h;rw[h];exact iC
 ·split
  ·rename_i h1 h2
   have:=congrArg aX h2
   rw[cR,iC] at this
   exact absurd this h1
  ·rw[if_pos ⟨rfl,rfl⟩]
omit hb in
theorem eZ (P:F × F):ae (aX P) P=O2:=by
 have:=bE (aX P)
 rwa [cR] at this
theorem dP {P Q:F × F} (oP:aV b P) (oQ:aV b Q):aV b (ae P Q):=by
 rcases oP with rfl|oP
 ·rw[ct];exact oQ
 ·rcases oQ with rfl|oQ
  ·rw[dD];exact .inr oP
  ·rcases fQ oP oQ with rfl|⟨l,h⟩
   ·rw[bE];exact .inl rfl
   ·rw[bV hb oP oQ h];exact .inr (h.fA oP)
theorem dK {P Q:F × F} (oP:aV b P) (oQ:aV b Q):ae P Q=ae Q P:=by
 rcases oP with rfl|oP
 ·rw[ct,dD]
 ·rcases oQ with rfl|oQ
  ·rw[ct,dD]
  ·rcases fQ oP oQ with rfl|⟨l,h⟩
   ·rw[bE,eZ]
   ·rw[bV hb oP oQ h,bV hb oQ oP h.symm,rL,z6 h]
theorem cancel {P Q:F × F} (oP:aV b P) (oQ:aV b Q):ae (aX P) (ae P Q)=Q:=by
 rcases oP with rfl|oP
 ·rw[iC,ct,ct]
 ·rcases oQ with rfl|oQ
  ·rw[dD,eZ]
  ·rcases fQ oP oQ with rfl|⟨l,h⟩
   ·rw[bE,dD]
   ·rw[bV hb oP oQ h]
    have ht:=h.kV
    have hn:gX (aX P) (sx P.1 Q.1 l,sy P.1 P.2 Q.1 l) (-l):=⟨mG _ (Zn P.1 P.2 _ _ l) ht.1,mG _ (Zo P.1 P.2 _ _ l) ht.2⟩
    rw[bV hb (pP oP) (h.fA oP) hn]
    have ex:sx P.1 (sx P.1 Q.1 l) (-l)=Q.1:=aeU P.1 Q.1 l
    refine Prod.ext ex ?_
    show -(-P.2 + -l*(sx P.1 (sx P.1 Q.1 l) (-l)-P.1))=Q.2
    rw[ex]
    exact mG _ (aeV P.1 P.2 Q.1 Q.2 l) h.1
theorem Eu {P R:F × F} (oP:cY b P) (oR:cY b R) (h1:R.1≠P.1) {l m l' m':F} (hl:gX P P l) (hm:gX (sx P.1 P.1 l,sy P.1 P.2 P.1 l) R m) (hl':gX P R l') (hm':gX P (sx P.1 R.1 l',sy P.1 P.2 R.1 l') m') :
  ae (ae P P) R=ae P (ae P R):=by
 rw[bV hb oP oP hl,bV hb oP oR hl',bV hb (hl.fA oP) oR hm,bV hb oP (hl'.fA oP) hm']
 have hV:sx P.1 R.1 l'≠P.1:=by
  intro e
  have hn:=hm'.not_neg hb oP
  have oV:On b (sx P.1 R.1 l') (sy P.1 P.2 R.1 l'):=hl'.fA oP
  have e2:sy P.1 P.2 R.1 l'=P.2:=by
   have:(sy P.1 P.2 R.1 l'-P.2)*(sy P.1 P.2 R.1 l'+P.2)=0:=by
    have oV:sy P.1 P.2 R.1 l'*sy P.1 P.2 R.1 l'=_:=oV
    have oP:P.2*P.2=P.1*P.1*P.1+b:=oP
    rw[Fq,oV,oP,e,sub_self]
   rcases mul_eq_zero this with h|h
   ·exact bq h
   ·exact absurd ⟨e.symm,(neg_eq (by rw[add_comm];exact h)).symm⟩ hn
  have hc:=cancel hb (.inr oP) (.inr oR)
  rw[bV hb oP oR hl',e,e2] at hc
  have:ae (aX P) P=R:=hc
  rw[eZ] at this
  exact tG hb oR this.symm
 have T2:P.1+P.1+(sx P.1 R.1 l'+l'*m')=(l'+m')*l:=by
  have e:=O7 _ _ _ _ (Zw P.1 P.2 (sx P.1 R.1 l') (sy P.1 P.2 R.1 l') l' m' l) hl'.kV.1 hm'.1 hl'.kV.2 hl.2
  exact bq ((mul_eq_zero e).resolve_left (mL hV))
 obtain⟨e1,e2⟩:=main (u:=sx P.1 R.1 l') (v:=sy P.1 P.2 R.1 l') (l':=l') (m':=m') (s:=sx P.1 (sx P.1 R.1 l') m') (t:=sy P.1 P.2 (sx P.1 R.1 l') m') hb oP oR hl hm T2 (Ak hl'.kV)
  (Ak hl'.s8)
  (Gn hm'.s8) ((rL _ _ _).trans ((Zk P.1 R.1 P.1 l' m').trans (Zq _ _ _ _))) h1 h1
 exact Prod.ext e1 e2
theorem IL {P Q R:F × F} (oP:cY b P) (oQ:cY b Q) (oR:cY b R) (h0:Q.1≠P.1) (h1:R.1≠P.1) (h2:R.1≠Q.1) {l m l' m':F} (hl:gX P Q l) (hm:gX (sx P.1 Q.1 l,sy P.1 P.2 Q.1 l) R m) (hl':gX Q R l') (hm':gX P (sx Q.1 R.1 l',sy Q.1 Q.2 R.1 l') m') :
  ae (ae P Q) R=ae P (ae Q R):=by
 rw[bV hb oP oQ hl,bV hb oQ oR hl',bV hb (hl.fA oP) oR hm,bV hb oP (hl'.fA oQ) hm']
 have f2P:fn (sx Q.1 R.1 l') (sy Q.1 Q.2 R.1 l') l' m' P.1 P.2=0:=Gn hm'.symm
 have f2Q:fn (sx Q.1 R.1 l') (sy Q.1 Q.2 R.1 l') l' m' Q.1 Q.2=0:=Ak hl'.kV
 have T2:P.1+Q.1+(sx Q.1 R.1 l'+l'*m')=(l'+m')*l:=by
  have e:=TQ _ _ _ (Zv P.1 Q.1 (sx Q.1 R.1 l'+l'*m') (l'+m') l P.2 Q.2 _) f2Q f2P hl.1
  exact bq ((mul_eq_zero e).resolve_left (mL h0))
 obtain⟨e1,e2⟩:=main (u:=sx Q.1 R.1 l') (v:=sy Q.1 Q.2 R.1 l') (l':=l') (m':=m') (s:=sx P.1 (sx Q.1 R.1 l') m') (t:=sy P.1 P.2 (sx Q.1 R.1 l') m') hb oP oR hl hm T2 f2P
  (Ak hl'.s8)
  (Gn hm'.s8) ((rL _ _ _).trans ((Zk Q.1 R.1 P.1 l' m').trans (We _ _ _ _ _))) h1 h2
 exact Prod.ext e1 e2
theorem sE {P Q:F × F} (oP:aV b P) (oQ:aV b Q):aX (ae P Q)=ae (aX P) (aX Q):=by
 rcases oP with rfl|oP
 ·rw[ct,iC,ct]
 ·rcases oQ with rfl|oQ
  ·rw[dD,iC,dD]
  ·rcases fQ oP oQ with rfl|⟨l,h⟩
   ·rw[bE,cR,eZ,iC]
   ·have hn:gX (aX P) (aX Q) (-l):=⟨mG _ (ae2 P.1 P.2 Q.1 Q.2 l) h.1,mG _ (ae3 P.1 P.2 Q.1 Q.2 l) h.2⟩
    rw[bV hb oP oQ h,bV hb (pP oP) (pP oQ) hn]
    exact Prod.ext (ae4 P.1 Q.1 l) (ae5 P.1 P.2 Q.1 l)
theorem zi {P Q:F × F} (oP:aV b P) (oQ:aV b Q):ae (ae P Q) (aX Q)=P:=by
 rw[dK hb (dP hb oP oQ) (cP oQ),dK hb oP oQ,cancel hb oQ oP]
theorem Ei {P Q R:F × F} (oP:aV b P) (oQ:aV b Q) (h:R=aX (ae P Q)):ae Q R=aX P:=by
 rw[h,sE hb oP oQ,dK hb (cP oP) (cP oQ)]
 have:=cancel hb (cP oQ) (cP oP)
 rwa [cR] at this
omit hb in
theorem BE {P Q:F × F} (oP:cY b P) (oQ:cY b Q) (h1:Q≠P) (h2:Q≠aX P):Q.1≠P.1:=by
 intro e
 have oP':P.2*P.2=P.1*P.1*P.1+b:=oP
 have oQ':Q.2*Q.2=Q.1*Q.1*Q.1+b:=oQ
 have:(Q.2-P.2)*(Q.2+P.2)=0:=by rw[Fq,oP',oQ',e,sub_self]
 rcases mul_eq_zero this with h|h
 ·exact h1 (Prod.ext e (bq h))
 ·exact h2 (Prod.ext e (neg_eq (by rw[add_comm];exact h)).symm)
theorem eH {P Q R:F × F} (oP:aV b P) (oQ:aV b Q) (oR:aV b R):ae (ae P Q) R=ae P (ae Q R):=by
 have oPQ:=dP hb oP oQ
 have oQR:=dP hb oQ oR
 by_cases c1:Q=aX P
 ·have:ae P (ae (aX P) R)=R:=by
   have:=cancel hb (cP oP) oR
   rwa [cR] at this
  rw[c1,bE,ct,this]
 by_cases c2:R=aX Q
 ·rw[c2,bE,dD,zi hb oP oQ]
 by_cases c3:R=P
 ·rw[c3,dK hb oPQ oP,dK hb oP oQ]
 by_cases c4:R=aX P
 ·have e:ae P (ae Q (aX P))=Q:=by
   rw[dK hb oQ (cP oP)]
   have:=cancel hb (cP oP) oQ
   rwa [cR] at this
  rw[c4,e,dK hb oP oQ,zi hb oQ oP]
 by_cases c5:R=aX (ae P Q)
 ·rw[Ei hb oP oQ c5,bE]
  rw[c5,bE]
 by_cases c6:ae Q R=aX P
 ·rw[c6,bE]
  have h1:P=aX (ae Q R):=by rw[c6,cR]
  have h2:=Ei hb oQ oR h1
  have h3:ae R P=aX Q:=h2
  have h4:Q=aX (ae R P):=by rw[h3,cR]
  have h5:=Ei hb oR oP h4
  rw[h5,eZ]
 rcases oP with rfl|oP
 ·rw[ct,ct]
 rcases oQ with rfl|oQ
 ·rw[ct,dD]
 rcases oR with rfl|oR
 ·rw[dD,dD]
 obtain⟨l,hl⟩:=(fQ oP oQ).resolve_left c1
 obtain⟨l',hl'⟩:=(fQ oQ oR).resolve_left c2
 have eU:=bV hb oP oQ hl
 have eV:=bV hb oQ oR hl'
 have oU:cY b (ae P Q):=by rw[eU];exact hl.fA oP
 have oV:cY b (ae Q R):=by rw[eV];exact hl'.fA oQ
 obtain⟨m,hm⟩:=(fQ oU oR).resolve_left c5
 obtain⟨m',hm'⟩:=(fQ oP oV).resolve_left c6
 rw[eU] at hm
 rw[eV] at hm'
 have n1:R.1≠P.1:=BE oP oR c3 c4
 by_cases c7:Q=P
 ·subst c7
  exact Eu hb oP oR n1 hl hm hl' hm'
 by_cases c8:R=Q
 ·subst c8
  have k:=hl.symm
  rw[dK hb oPQ (.inr oR),dK hb (.inr oP) (.inr oR),dK hb (.inr oP) oQR]
  have n2:P.1≠R.1:=fun e=>n1 e.symm
  refine (Eu hb oR oP n2 (m:=m') (m':=m) hl' hm'.symm k ?_).symm
  have hm:=hm.symm
  rw[rL P.1,z6 hl] at hm
  exact hm
 exact IL hb oP oQ oR (BE oP oQ c7 c1) n1 (BE oQ oR c8 c2) hl hm hl' hm'
end
end Cr
namespace Cr
open Rg Fd
section
variable {F:Type} [Fd F]
abbrev Jc (F:Type):=F × F × F
abbrev J0:Jc F:=(0,0,0)
def df (p:F × F):Jc F:=if p=O2 then J0 else (p.1,p.2,1)
def cZ (a:Jc F):F × F:=if a.2.2=0 then O2 else (a.1*(inv a.2.2*inv a.2.2),a.2.1*(inv a.2.2*inv a.2.2)*inv a.2.2)
def Ks (x y:F):F:=(x*x+x*x+x*x)*(x*x+x*x+x*x)-(x*(y*y)+x*(y*y)+(x*(y*y)+x*(y*y)))-(x*(y*y)+x*(y*y)+(x*(y*y)+x*(y*y)))
def DK (a:Jc F):Jc F :=
 (Ks a.1 a.2.1,
  (a.1*a.1+a.1*a.1+a.1*a.1)*(a.1*(a.2.1*a.2.1)+a.1*(a.2.1*a.2.1)+(a.1*(a.2.1*a.2.1)+a.1*(a.2.1*a.2.1))-Ks a.1 a.2.1)-(a.2.1*a.2.1+a.2.1*a.2.1)*(a.2.1*a.2.1+a.2.1*a.2.1)-(a.2.1*a.2.1+a.2.1*a.2.1)*(a.2.1*a.2.1+a.2.1*a.2.1),
  a.2.1*a.2.2+a.2.1*a.2.2)
def iF (a:Jc F):Jc F:=if a.2.2=0 then J0 else DK a
def GU (wide rise left:F):F:=rise*rise-wide*wide*wide-left*(wide*wide)-left*(wide*wide)
def DL (wide rise left low z1 z2:F):Jc F :=
 (GU wide rise left,rise*(left*(wide*wide)-GU wide rise left)-low*(wide*wide*wide),z1*z2*wide)
def fC (a b:Jc F):Jc F:=if a.2.2=0 then b else if b.2.2=0 then a else
 if b.1*(a.2.2*a.2.2)-a.1*(b.2.2*b.2.2)=0 then
  (if b.2.1*(a.2.2*a.2.2)*a.2.2-a.2.1*(b.2.2*b.2.2)*b.2.2=0 then iF a else J0)
 else DL (b.1*(a.2.2*a.2.2)-a.1*(b.2.2*b.2.2)) (b.2.1*(a.2.2*a.2.2)*a.2.2-a.2.1*(b.2.2*b.2.2)*b.2.2) (a.1*(b.2.2*b.2.2)) (a.2.1*(b.2.2*b.2.2)*b.2.2) a.2.2 b.2.2
end
theorem Kr {F:Type} [Rg F] (X Y z l:F):(X*(z*z)*(X*(z*z))+X*(z*z)*(X*(z*z))+X*(z*z)*(X*(z*z)))-l*(Y*(z*(z*z))*z+Y*(z*(z*z))*z)=(-(z*z*z*z))*(l*(Y+Y)-(X*X+X*X+X*X)) :=
 aL [X,Y,z,l] ((fun (X Y z l:PE)=>((X*(z*z)*(X*(z*z))+X*(z*z)*(X*(z*z))+X*(z*z)*(X*(z*z)))-l*(Y*(z*(z*z))*z+Y*(z*(z*z))*z))) (.v 0) (.v 1) (.v 2) (.v 3)) ((fun (X Y z l:PE)=>((-(z*z*z*z))*(l*(Y+Y)-(X*X+X*X+X*X)))) (.v 0) (.v 1) (.v 2) (.v 3)) (by kernel_rfl)
theorem TO {F:Type} [Rg F] (X Y z:F):X*(z*z)*(Y*(z*(z*z))*(Y*(z*(z*z))))+X*(z*z)*(Y*(z*(z*z))*(Y*(z*(z*z))))+(X*(z*z)*(Y*(z*(z*z))*(Y*(z*(z*z))))+X*(z*z)*(Y*(z*(z*z))*(Y*(z*(z*z)))))=X*((Y*(z*(z*z))*z+Y*(z*(z*z))*z)*(Y*(z*(z*z))*z+Y*(z*(z*z))*z)) :=
 aL [X,Y,z] ((fun (X Y z:PE)=>(X*(z*z)*(Y*(z*(z*z))*(Y*(z*(z*z))))+X*(z*z)*(Y*(z*(z*z))*(Y*(z*(z*z))))+(X*(z*z)*(Y*(z*(z*z))*(Y*(z*(z*z))))+X*(z*z)*(Y*(z*(z*z))*(Y*(z*(z*z))))))) (.v 0) (.v 1) (.v 2)) ((fun (X Y z:PE)=>(X*((Y*(z*(z*z))*z+Y*(z*(z*z))*z)*(Y*(z*(z*z))*z+Y*(z*(z*z))*z)))) (.v 0) (.v 1) (.v 2)) (by kernel_rfl)
theorem ZF {F:Type} [Rg F] (Y z:F):(Y*(z*(z*z))*(Y*(z*(z*z)))+Y*(z*(z*z))*(Y*(z*(z*z))))*(Y*(z*(z*z))*(Y*(z*(z*z)))+Y*(z*(z*z))*(Y*(z*(z*z))))+(Y*(z*(z*z))*(Y*(z*(z*z)))+Y*(z*(z*z))*(Y*(z*(z*z))))*(Y*(z*(z*z))*(Y*(z*(z*z)))+Y*(z*(z*z))*(Y*(z*(z*z))))=Y*((Y*(z*(z*z))*z+Y*(z*(z*z))*z)*((Y*(z*(z*z))*z+Y*(z*(z*z))*z)*(Y*(z*(z*z))*z+Y*(z*(z*z))*z))) :=
 aL [Y,z] ((fun (Y z:PE)=>((Y*(z*(z*z))*(Y*(z*(z*z)))+Y*(z*(z*z))*(Y*(z*(z*z))))*(Y*(z*(z*z))*(Y*(z*(z*z)))+Y*(z*(z*z))*(Y*(z*(z*z))))+(Y*(z*(z*z))*(Y*(z*(z*z)))+Y*(z*(z*z))*(Y*(z*(z*z))))*(Y*(z*(z*z))*(Y*(z*(z*z)))+Y*(z*(z*z))*(Y*(z*(z*z)))))) (.v 0) (.v 1)) ((fun (Y z:PE)=>(Y*((Y*(z*(z*z))*z+Y*(z*(z*z))*z)*((Y*(z*(z*z))*z+Y*(z*(z*z))*z)*(Y*(z*(z*z))*z+Y*(z*(z*z))*z))))) (.v 0) (.v 1)) (by kernel_rfl)
theorem j_x {F:Type} [Rg F] (X Z l:F):l*Z*(l*Z)-X*(Z*Z)-X*(Z*Z)=(l*l-X-X)*(Z*Z) :=
 aL [X,Z,l] ((fun (X Z l:PE)=>(l*Z*(l*Z)-X*(Z*Z)-X*(Z*Z))) (.v 0) (.v 1) (.v 2)) ((fun (X Z l:PE)=>((l*l-X-X)*(Z*Z))) (.v 0) (.v 1) (.v 2)) (by kernel_rfl)
theorem j_y {F:Type} [Rg F] (X Y Z l s:F):l*Z*(X*(Z*Z)-s*(Z*Z))-Y*(Z*(Z*Z))=-(Y+l*(s-X))*(Z*(Z*Z)) :=
 aL [X,Y,Z,l,s] ((fun (X Y Z l s:PE)=>(l*Z*(X*(Z*Z)-s*(Z*Z))-Y*(Z*(Z*Z)))) (.v 0) (.v 1) (.v 2) (.v 3) (.v 4)) ((fun (X Y Z l s:PE)=>(-(Y+l*(s-X))*(Z*(Z*Z)))) (.v 0) (.v 1) (.v 2) (.v 3) (.v 4)) (by kernel_rfl)
theorem RX {F:Type} [Rg F] (a f:F):a-f-f=a-(f+f) :=
 aL [a,f] ((fun (a f:PE)=>(a-f-f)) (.v 0) (.v 1)) ((fun (a f:PE)=>(a-(f+f))) (.v 0) (.v 1)) (by kernel_rfl)
theorem j_z {F:Type} [Rg F] (Y z:F):Y*(z*(z*z))*z+Y*(z*(z*z))*z=(Y+Y)*(z*z*(z*z)) :=
 aL [Y,z] ((fun (Y z:PE)=>(Y*(z*(z*z))*z+Y*(z*(z*z))*z)) (.v 0) (.v 1)) ((fun (Y z:PE)=>((Y+Y)*(z*z*(z*z)))) (.v 0) (.v 1)) (by kernel_rfl)
theorem ZH {F:Type} [Rg F] (X1 X2 z1 z2:F):X2*(z2*z2)*(z1*z1)-X1*(z1*z1)*(z2*z2)=(X2-X1)*(z1*z2*(z1*z2)) :=
 aL [X1,X2,z1,z2] ((fun (X1 X2 z1 z2:PE)=>(X2*(z2*z2)*(z1*z1)-X1*(z1*z1)*(z2*z2))) (.v 0) (.v 1) (.v 2) (.v 3)) ((fun (X1 X2 z1 z2:PE)=>((X2-X1)*(z1*z2*(z1*z2)))) (.v 0) (.v 1) (.v 2) (.v 3)) (by kernel_rfl)
theorem ZG {F:Type} [Rg F] (Y1 Y2 z1 z2:F):Y2*(z2*(z2*z2))*(z1*z1)*z1-Y1*(z1*(z1*z1))*(z2*z2)*z2=(Y2-Y1)*(z1*z2*(z1*z2*(z1*z2))) :=
 aL [Y1,Y2,z1,z2] ((fun (Y1 Y2 z1 z2:PE)=>(Y2*(z2*(z2*z2))*(z1*z1)*z1-Y1*(z1*(z1*z1))*(z2*z2)*z2)) (.v 0) (.v 1) (.v 2) (.v 3)) ((fun (Y1 Y2 z1 z2:PE)=>((Y2-Y1)*(z1*z2*(z1*z2*(z1*z2))))) (.v 0) (.v 1) (.v 2) (.v 3)) (by kernel_rfl)
theorem Wp {F:Type} [Rg F] (X1 Y1 X2 Y2 w l:F):(Y2-Y1)*(w*(w*w))-l*(w*((X2-X1)*(w*w)))=(-(w*(w*w)))*(l*(X2-X1)-(Y2-Y1)) :=
 aL [X1,Y1,X2,Y2,w,l] ((fun (X1 Y1 X2 Y2 w l:PE)=>((Y2-Y1)*(w*(w*w))-l*(w*((X2-X1)*(w*w))))) (.v 0) (.v 1) (.v 2) (.v 3) (.v 4) (.v 5)) ((fun (X1 Y1 X2 Y2 w l:PE)=>((-(w*(w*w)))*(l*(X2-X1)-(Y2-Y1)))) (.v 0) (.v 1) (.v 2) (.v 3) (.v 4) (.v 5)) (by kernel_rfl)
theorem afh {F:Type} [Rg F] (X1 z1 z2 D l:F):l*(z1*z2*(D*(z1*z2*(z1*z2))))*(l*(z1*z2*(D*(z1*z2*(z1*z2)))))-D*(z1*z2*(z1*z2))*(D*(z1*z2*(z1*z2)))*(D*(z1*z2*(z1*z2)))-X1*(z1*z1)*(z2*z2)*(D*(z1*z2*(z1*z2))*(D*(z1*z2*(z1*z2))))-X1*(z1*z1)*(z2*z2)*(D*(z1*z2*(z1*z2))*(D*(z1*z2*(z1*z2))))=(l*l-D-X1-X1)*(z1*z2*(D*(z1*z2*(z1*z2)))*(z1*z2*(D*(z1*z2*(z1*z2))))) :=
 aL [X1,z1,z2,D,l] ((fun (X1 z1 z2 D l:PE)=>(l*(z1*z2*(D*(z1*z2*(z1*z2))))*(l*(z1*z2*(D*(z1*z2*(z1*z2)))))-D*(z1*z2*(z1*z2))*(D*(z1*z2*(z1*z2)))*(D*(z1*z2*(z1*z2)))-X1*(z1*z1)*(z2*z2)*(D*(z1*z2*(z1*z2))*(D*(z1*z2*(z1*z2))))-X1*(z1*z1)*(z2*z2)*(D*(z1*z2*(z1*z2))*(D*(z1*z2*(z1*z2)))))) (.v 0) (.v 1) (.v 2) (.v 3) (.v 4)) ((fun (X1 z1 z2 D l:PE)=>((l*l-D-X1-X1)*(z1*z2*(D*(z1*z2*(z1*z2)))*(z1*z2*(D*(z1*z2*(z1*z2))))))) (.v 0) (.v 1) (.v 2) (.v 3) (.v 4)) (by kernel_rfl)
theorem afi {F:Type} [Rg F] (X1 Y1 z1 z2 D l s:F):l*(z1*z2*(D*(z1*z2*(z1*z2))))*(X1*(z1*z1)*(z2*z2)*(D*(z1*z2*(z1*z2))*(D*(z1*z2*(z1*z2))))-s*(z1*z2*(D*(z1*z2*(z1*z2)))*(z1*z2*(D*(z1*z2*(z1*z2))))))-Y1*(z1*(z1*z1))*(z2*z2)*z2*(D*(z1*z2*(z1*z2))*(D*(z1*z2*(z1*z2)))*(D*(z1*z2*(z1*z2))))=-(Y1+l*(s-X1))*(z1*z2*(D*(z1*z2*(z1*z2)))*(z1*z2*(D*(z1*z2*(z1*z2)))*(z1*z2*(D*(z1*z2*(z1*z2)))))) :=
 aL [X1,Y1,z1,z2,D,l,s] ((fun (X1 Y1 z1 z2 D l s:PE)=>(l*(z1*z2*(D*(z1*z2*(z1*z2))))*(X1*(z1*z1)*(z2*z2)*(D*(z1*z2*(z1*z2))*(D*(z1*z2*(z1*z2))))-s*(z1*z2*(D*(z1*z2*(z1*z2)))*(z1*z2*(D*(z1*z2*(z1*z2))))))-Y1*(z1*(z1*z1))*(z2*z2)*z2*(D*(z1*z2*(z1*z2))*(D*(z1*z2*(z1*z2)))*(D*(z1*z2*(z1*z2)))))) (.v 0) (.v 1) (.v 2) (.v 3) (.v 4) (.v 5) (.v 6)) ((fun (X1 Y1 z1 z2 D l s:PE)=>(-(Y1+l*(s-X1))*(z1*z2*(D*(z1*z2*(z1*z2)))*(z1*z2*(D*(z1*z2*(z1*z2)))*(z1*z2*(D*(z1*z2*(z1*z2)))))))) (.v 0) (.v 1) (.v 2) (.v 3) (.v 4) (.v 5) (.v 6)) (by kernel_rfl)
theorem j_D {F:Type} [Rg F] (X1 X2 l:F):l*l-(X2-X1)-X1-X1=l*l-X1-X2 :=
 aL [X1,X2,l] ((fun (X1 X2 l:PE)=>(l*l-(X2-X1)-X1-X1)) (.v 0) (.v 1) (.v 2)) ((fun (X1 X2 l:PE)=>(l*l-X1-X2)) (.v 0) (.v 1) (.v 2)) (by kernel_rfl)
theorem afj {F:Type} [Rg F] (X z i:F):X*(z*z)*(i*i)=X*(z*i*(z*i)) :=
 aL [X,z,i] ((fun (X z i:PE)=>(X*(z*z)*(i*i))) (.v 0) (.v 1) (.v 2)) ((fun (X z i:PE)=>(X*(z*i*(z*i)))) (.v 0) (.v 1) (.v 2)) (by kernel_rfl)
theorem afk {F:Type} [Rg F] (Y z i:F):Y*(z*(z*z))*(i*i)*i=Y*(z*i*(z*i*(z*i))) :=
 aL [Y,z,i] ((fun (Y z i:PE)=>(Y*(z*(z*z))*(i*i)*i)) (.v 0) (.v 1) (.v 2)) ((fun (Y z i:PE)=>(Y*(z*i*(z*i*(z*i))))) (.v 0) (.v 1) (.v 2)) (by kernel_rfl)
section
variable {F:Type} [Fd F] {b:F}
def du (b:F) (a:Jc F) (P:F × F):Prop:=(a.2.2=0/\P=O2)\/(a.2.2≠0/\a.1=P.1*(a.2.2*a.2.2)/\a.2.1=P.2*(a.2.2*(a.2.2*a.2.2))/\cY b P)
theorem du.on {a:Jc F} {P:F × F} (h:du b a P):aV b P:=by
 rcases h with ⟨_,h⟩|⟨_,_,_,h⟩
 ·exact .inl h
 ·exact .inr h
theorem sL {P:F × F} (h:aV b P):du b (df P) P:=by
 unfold df
 split
 ·rename_i e;exact .inl ⟨rfl,e⟩
 ·rename_i e
  rcases h with h|h
  ·exact absurd h e
  ·refine .inr ⟨one_ne,?_,?_,h⟩
   ·show P.1=P.1*(1*1);rw[one_mul,mul_one]
   ·show P.2=P.2*(1*(1*1));rw[one_mul,one_mul,mul_one]
theorem ES {a:Jc F} {P:F × F} (h:du b a P):cZ a=P:=by
 unfold cZ
 rcases h with ⟨h,e⟩|⟨h,e1,e2,_⟩
 ·rw[if_pos h,e]
 ·rw[if_neg h]
  refine Prod.ext ?_ ?_
  ·show a.1*(inv a.2.2*inv a.2.2)=P.1
   rw[e1,afj,mul_inv _ h,one_mul,mul_one]
  ·show a.2.1*(inv a.2.2*inv a.2.2)*inv a.2.2=P.2
   rw[e2,afk,mul_inv _ h,one_mul,one_mul,mul_one]
theorem zU (hb:b≠0) {a:Jc F} {P:F × F} (h:du b a P):du b (iF a) (ae P P):=by
 unfold iF DK
 rcases h with ⟨h,rfl⟩|⟨h,e1,e2,oP⟩
 ·rw[if_pos h,ct];exact .inl ⟨rfl,rfl⟩
 ·rw[if_neg h]
  obtain⟨x,y,z⟩:=a
  obtain⟨X,Y⟩:=P
  simp only at h e1 e2 ⊢
  subst e1 e2
  have hz:Y*(z*(z*z))*z+Y*(z*(z*z))*z=(Y+Y)*(z*z*(z*z)):=j_z Y z
  have hz4:z*z*(z*z)≠0:=dG (dG h h) (dG h h)
  by_cases hY:Y=0
  ·subst hY
   left
   refine⟨?_,?_⟩
   ·show (0:F)*(z*(z*z))*z+0*(z*(z*z))*z=0
    rw[hz,add_zero,zero_mul]
   ·have:=bE ((X,0):F × F)
    rwa [show aX ((X,0):F × F)=(X,0) from by show (X,-(0:F))=_;rw[neg_zero]] at this
  ·have hY2:Y+Y≠0:=fun e=>hY (j8 e)
   obtain⟨l,hl⟩:=(fQ (P:=(X,Y)) (Q:=(X,Y)) oP oP).resolve_left (fun e=>hY (qe (congrArg Prod.snd e)))
   right
   have ex:Ks (X*(z*z)) (Y*(z*(z*z)))=sx X X l*((Y*(z*(z*z))*z+Y*(z*(z*z))*z)*(Y*(z*(z*z))*z+Y*(z*(z*z))*z)):=by
    unfold Ks
    rw[TO X Y z,mG _ (Kr X Y z l) hl.2]
    exact j_x _ _ _
   refine⟨?_,?_,?_,?_⟩
   ·show Y*(z*(z*z))*z+Y*(z*(z*z))*z≠0
    rw[hz];exact dG hY2 hz4
   ·rw[bV hb oP oP hl];exact ex
   ·rw[bV hb oP oP hl]
    show _-_-_=sy X Y X l*_
    rw[RX,ZF Y z,ex,TO X Y z,mG _ (Kr X Y z l) hl.2]
    exact j_y _ _ _ _ _
   ·rw[bV hb oP oP hl];exact hl.fA oP
theorem pV (hb:b≠0) {a c:Jc F} {P Q:F × F} (h:du b a P) (k:du b c Q):du b (fC a c) (ae P Q):=by
 have hd:=zU hb h
 unfold fC
 rcases h with ⟨h,rfl⟩|⟨h,e1,e2,oP⟩
 ·rw[if_pos h,ct];exact k
 ·rw[if_neg h]
  rcases k with ⟨k,rfl⟩|⟨k,f1,f2,oQ⟩
  ·rw[if_pos k,dD];exact .inr ⟨h,e1,e2,oP⟩
  ·rw[if_neg k]
   obtain⟨x,y,z⟩:=a
   obtain⟨x',y',z'⟩:=c
   obtain⟨X,Y⟩:=P
   obtain⟨X',Y'⟩:=Q
   simp only at h k e1 e2 f1 f2 hd ⊢
   subst e1 e2 f1 f2
   rw[ZH X X' z z',ZG Y Y' z z']
   have hw:z*z'≠0:=dG h k
   have hww:z*z'*(z*z')≠0:=dG hw hw
   have hwww:z*z'*(z*z'*(z*z'))≠0:=dG hw hww
   by_cases hX:X'-X=0
   ·rw[if_pos (by rw[hX,zero_mul])]
    have hX:=bq hX
    subst hX
    by_cases hY:Y'-Y=0
    ·rw[if_pos (by rw[hY,zero_mul])]
     have hY:=bq hY
     subst hY
     exact hd
    ·rw[if_neg (dG hY hwww)]
     left
     refine⟨rfl,?_⟩
     rcases fQ (P:=(X',Y)) (Q:=(X',Y')) oP oQ with e|⟨l,hl⟩
     ·rw[e,bE]
     ·exfalso
      have:=hl.1
      rw[sub_self,mul_zero] at this
      exact hY this.symm
   ·rw[if_neg (dG hX hww)]
    obtain⟨l,hl⟩:=(fQ (P:=(X,Y)) (Q:=(X',Y')) oP oQ).resolve_left (fun e=>hX (by rw[show X'=X from congrArg Prod.fst e,sub_self]))
    have er:(Y'-Y)*(z*z'*(z*z'*(z*z')))=l*(z*z'*((X'-X)*(z*z'*(z*z')))):=mG _ (Wp X Y X' Y' (z*z') l) hl.1
    rw[er,bV hb oP oQ hl]
    have ex:GU ((X'-X)*(z*z'*(z*z'))) (l*(z*z'*((X'-X)*(z*z'*(z*z'))))) (X*(z*z)*(z'*z'))=sx X X' l*(z*z'*((X'-X)*(z*z'*(z*z')))*(z*z'*((X'-X)*(z*z'*(z*z'))))):=by
     unfold GU
     rw[afh X z z' (X'-X) l,j_D]
     rfl
    right
    refine⟨dG hw (dG hX hww),ex,?_,hl.fA oP⟩
    show _*(_-GU _ _ _)-_=sy X Y X' l*_
    rw[ex]
    exact afi _ _ _ _ _ _ _
end
end Cr
namespace Cr
def dr (p:Nat):Prop:=1<p/\∀ d,d∣p->d=1\/d=p
theorem dr.coprime {p k:Nat} (h:dr p) (hk:¬ p∣k):Nat.Coprime p k:=by
 rcases h.2 (Nat.gcd p k) (Nat.gcd_dvd_left p k) with e|e
 ·exact e
 ·exact absurd (e▸Nat.gcd_dvd_right p k) hk
theorem dr.dvd_mul {p a b:Nat} (h:dr p) (hd:p∣a*b):p∣a\/p∣b:=by
 by_cases ha:p∣a
 ·exact .inl ha
 ·exact .inr ((h.coprime ha).dvd_of_dvd_mul_left hd)
def ch:Nat->Nat->Nat
 | _,0=>1
 | 0,_+1=>0
 | n+1,k+1=>ch n k+ch n (k+1)
theorem uO (n:Nat):ch n 0=1:=by cases n<;>rfl
theorem XW:∀ n k:Nat,(k+1)*ch (n+1) (k+1)=(n+1)*ch n k:=by
 intro n
 induction n with
 | zero =>
  intro k
  cases k with
  | zero=>rfl
  | succ k=>simp[ch]
 | succ n ih =>
  intro k
  cases k with
  | zero =>
   have h:(0+1)*ch (n+1) 1=(n+1)*ch n 0:=ih 0
   rw[uO] at h
   show 1*(ch (n+1) 0+ch (n+1) 1)=(n+1+1)*ch (n+1) 0
   rw[uO]
   omega
  | succ j =>
   have h1:=ih j
   have h2:=ih (j+1)
   have e1:ch (n+1+1) (j+1+1)=ch (n+1) (j+1)+ch (n+1) (j+1+1):=rfl
   have e2:ch (n+1) (j+1)=ch n j+ch n (j+1):=rfl
   rw[e1,Nat.mul_add,h2,Nat.add_mul (j+1) 1,h1,Nat.one_mul]
   rw[e2,Nat.mul_add,Nat.add_mul (n+1) 1,Nat.add_mul (n+1) 1]
   omega
theorem U9:∀ n:Nat,ch n n=1/\∀ k,n<k->ch n k=0:=by
 intro n
 induction n with
 | zero=>exact⟨rfl,fun k hk=>by cases k with|zero=>omega|succ k=>rfl⟩
 | succ n ih =>
  refine⟨?_,fun k hk=>?_⟩
  ·show ch n n+ch n (n+1)=1
   rw[ih.1,ih.2 (n+1) (by omega)]
  ·cases k with
   | zero=>omega
   | succ k=>show ch n k+ch n (k+1)=0;rw[ih.2 k (by omega),ih.2 (k+1) (by omega)]
def tw (n a:Nat):Nat->Nat
 | 0=>0
 | m+1=>tw n a m+ch n m*a^m
theorem QU (n a:Nat):∀ m,tw (n+1) a (m+1)=a*tw n a m+tw n a (m+1):=by
 intro m
 induction m with
 | zero=>simp[tw,uO]
 | succ m ih =>
  show tw (n+1) a (m+1)+ch (n+1) (m+1)*a^(m+1)=a*(tw n a m+ch n m*a^m)+(tw n a (m+1)+ch n (m+1)*a^(m+1))
  rw[ih]
  have e:ch (n+1) (m+1)=ch n m+ch n (m+1):=rfl
  rw[e,Nat.add_mul,Nat.mul_add,Nat.pow_succ,Nat.mul_comm (a^m) a,Nat.mul_left_comm a (ch n m)]
  omega
theorem aby (a:Nat):∀ n m,n<m->(a+1)^n=tw n a m:=by
 intro n
 induction n with
 | zero =>
  intro m hm
  cases m with
  | zero=>omega
  | succ m =>
   clear hm
   induction m with
   | zero=>simp[tw,uO]
   | succ m ih=>show _=tw 0 a (m+1)+ch 0 (m+1)*a^(m+1);rw[<- ih,show ch 0 (m+1)=0 from rfl,Nat.zero_mul];rfl
 | succ n ih =>
  intro m hm
  cases m with
  | zero=>omega
  | succ m =>
   rw[QU,<- ih m (by omega),<- ih (m+1) (by omega),Nat.pow_succ,Nat.mul_add,Nat.mul_one,Nat.mul_comm a]
theorem dr.XU {p k:Nat} (h:dr p) (h0:0<k) (h1:k<p):p∣ch p k:=by
 obtain⟨j,rfl⟩:∃ j,k=j+1:=⟨k-1,by omega⟩
 obtain⟨q,rfl⟩:∃ q,p=q+1:=⟨p-1,by omega⟩
 have e:=XW q j
 have:q+1∣(j+1)*ch (q+1) (j+1):=⟨ch q j,e⟩
 rcases h.dvd_mul this with h2|h2
 ·exact absurd (Nat.le_of_dvd (by omega) h2) (by omega)
 ·exact h2
theorem dr.U8 {p:Nat} (h:dr p) (a:Nat):∀ m,m<p->tw p a (m+1)%p=1:=by
 intro m
 have hp:=h.1
 induction m with
 | zero=>intro _;show (0+ch p 0*a^0)%p=1;rw[uO,Nat.pow_zero,Nat.zero_add,Nat.mul_one];exact Nat.mod_eq_of_lt hp
 | succ m ih =>
  intro hm
  show (tw p a (m+1)+ch p (m+1)*a^(m+1))%p=1
  obtain⟨c,hc⟩:=h.XU (k:=m+1) (by omega) hm
  rw[hc,Nat.mul_assoc,Nat.add_mul_mod_self_left,ih (by omega)]
theorem dr.step {p:Nat} (h:dr p) (a:Nat):(a+1)^p%p=(a^p+1)%p:=by
 rw[aby a p (p+1) (by omega)]
 show (tw p a p+ch p p*a^p)%p=_
 obtain⟨q,hq⟩:∃ q,p=q+1:=⟨p-1,by have:=h.1;omega⟩
 have:=h.U8 a q (by omega)
 rw[<- hq] at this
 rw[(U9 p).1,Nat.one_mul,Nat.add_mod,this,Nat.add_comm,<- Nat.add_mod_mod (a^p%p),Nat.mod_add_mod]
 have:1%p=1:=Nat.mod_eq_of_lt h.1
 rw[Nat.add_mod (a^p) 1,this,Nat.add_mod (a^p) 1,this]
theorem dr.YG {p:Nat} (h:dr p) (a:Nat):a^p%p=a%p:=by
 induction a with
 | zero=>rw[Nat.zero_pow (by have:=h.1;omega)]
 | succ a ih=>rw[h.step,Nat.add_mod,ih,<- Nat.add_mod]
theorem dr.J8 {p a:Nat} (h:dr p) (ha:¬ p∣a):a^(p-1)%p=1:=by
 have hp:=h.1
 have e:a^p=a^(p-1)*a:=by rw[<- Nat.pow_succ];congr 1;omega
 have f:=h.YG a
 rw[e] at f
 have h1:1<=a^(p-1):=Nat.pos_of_ne_zero (fun z=>by
  have:a=0:=by
   rcases Nat.eq_zero_or_pos a with h|h
   ·exact h
   ·exact absurd z (Nat.ne_of_gt (Nat.pow_pos h))
  exact ha (this▸Nat.dvd_zero p))
 have hd:p∣(a^(p-1)-1)*a:=by
  rw[Nat.sub_mul,Nat.one_mul]
  exact Nat.dvd_of_mod_eq_zero (Nat.sub_mod_eq_zero_of_mod_eq f)
 rcases h.dvd_mul hd with h2|h2
 ·obtain⟨c,hc⟩:=h2
  have:a^(p-1)=1+p*c:=by omega
  rw[this,Nat.add_mul_mod_self_left,Nat.mod_eq_of_lt hp]
 ·exact absurd h2 ha
theorem WQ {d e:Nat}:∀ m n,e^m%d=1->e^n%d=1->e^(Nat.gcd m n)%d=1:=by
 intro m n
 induction m,n using Nat.gcd.induction with
 | H0 n=>intro _ h;rwa [Nat.gcd_zero_left]
 | H1 m n hm ih =>
  intro h1 h2
  rw[Nat.gcd_rec]
  refine ih ?_ h1
  have e1:e^n=(e^m)^(n/m)*e^(n%m):=by rw[<- Nat.pow_mul,<- Nat.pow_add,Nat.div_add_mod]
  rw[e1,Nat.mul_mod,Nat.pow_mod,h1,Nat.one_pow] at h2
  have hd:d≠1:=by intro hd;subst hd;rw[Nat.mod_one] at h1;cases h1
  have h1d:1%d=1:=by
   rcases Nat.eq_zero_or_pos d with h|h
   ·subst h;rfl
   ·exact Nat.mod_eq_of_lt (by omega)
  rw[h1d,Nat.one_mul,Nat.mod_mod] at h2
  exact h2
theorem xW:∀ n:Nat,1<n->∃ d,dr d/\d∣n:=by
 intro n
 induction n using Nat.strongRecOn with
 | _ n ih =>
  intro hn
  by_cases hp:dr n
  ·exact⟨n,hp,Nat.dvd_refl n⟩
  ·have:∃ d,d∣n/\d≠1/\d≠n:=by
    refine Classical.byContradiction fun hc=>hp ⟨hn,fun d hd=>?_⟩
    by_cases h1:d=1
    ·exact .inl h1
    ·by_cases h2:d=n
     ·exact .inr h2
     ·exact absurd ⟨d,hd,h1,h2⟩ hc
   obtain⟨d,hd,h1,h2⟩:=this
   have hdn:=Nat.le_of_dvd (by omega) hd
   have hd0:d≠0:=by rintro rfl;have:=Nat.eq_zero_of_zero_dvd hd;omega
   obtain⟨q,hq,hqd⟩:=ih d (by omega) (by omega)
   exact⟨q,hq,Nat.dvd_trans hqd hd⟩
theorem dq {n:Nat} (hn:1<n) (hp:¬ dr n):∃ d,dr d/\d∣n/\d*d<=n:=by
 have:∃ d,d∣n/\d≠1/\d≠n:=by
  refine Classical.byContradiction fun hc=>hp ⟨hn,fun d hd=>?_⟩
  by_cases h1:d=1
  ·exact .inl h1
  ·by_cases h2:d=n
   ·exact .inr h2
   ·exact absurd ⟨d,hd,h1,h2⟩ hc
 obtain⟨d,⟨c,hc⟩,h1,h2⟩:=this
 have hd0:d≠0:=by rintro rfl;omega
 have hc0:c≠0:=by rintro rfl;omega
 have hc1:c≠1:=by rintro rfl;omega
 by_cases hle:d<=c
 ·obtain⟨q,hq,hqd⟩:=xW d (by omega)
  have:=Nat.le_of_dvd (by omega) hqd
  refine⟨q,hq,Nat.dvd_trans hqd ⟨c,hc⟩,?_⟩
  rw[hc];exact Nat.mul_le_mul this (by omega)
 ·obtain⟨q,hq,hqc⟩:=xW c (by omega)
  have:=Nat.le_of_dvd (by omega) hqc
  refine⟨q,hq,Nat.dvd_trans hqc ⟨d,by rw[hc,Nat.mul_comm]⟩,?_⟩
  rw[hc];exact Nat.mul_le_mul (by omega) this
def pm:Nat->Nat->Nat->Nat->Nat
 | 0,_,_,n=>1%n
 | f+1,a,e,n=>match Nat.beq e 0 with
  | true=>1%n
  | false=>match Nat.beq (e%2) 1 with
   | true=>a*pm f (a*a%n) (e/2) n%n
   | false=>pm f (a*a%n) (e/2) n
theorem T4:∀ f a e n,e<2^f->pm f a e n=a^e%n:=by
 intro f
 induction f with
 | zero=>intro a e n h;have:e=0:=by simp at h;exact h
         subst this;rfl
 | succ f ih =>
  intro a e n h
  unfold pm
  split
  ·rename_i h0;have:=Nat.eq_of_beq_eq_true h0;subst this;rfl
  ·have hr:=ih (a*a%n) (e/2) n (by rw[Nat.pow_succ] at h;omega)
   have hsq:(a*a%n)^(e/2)%n=a^(2*(e/2))%n:=by rw[<- Nat.pow_mod,Nat.pow_mul,Nat.pow_two]
   split
   ·rename_i h1
    have h1:=Nat.eq_of_beq_eq_true h1
    rw[hr,hsq,Nat.mul_mod_mod,<- Nat.pow_succ']
    congr 2;omega
   ·rename_i h1
    have h1:e%2≠1:=fun h2=>by rw[h2] at h1;exact absurd h1 (by decide)
    rw[hr,hsq]
    congr 2;omega
theorem Fg {a q:Nat} (h:0<q):a∣a^q:=by
 obtain⟨j,rfl⟩:∃ j,q=j+1:=⟨q-1,by omega⟩
 exact⟨a^j,by rw[Nat.pow_succ,Nat.mul_comm]⟩
theorem jd {N q k a f:Nat} (hq:dr q) (hN:N=q*k+1) (hf:N<2^f) (h1:pm f a (q*k) N=1) (h2:Nat.gcd (pm f a k N+(N-1)) N=1) {d:Nat} (hd:dr d) (hdN:d∣N):q∣d-1:=by
 have hk:k<2^f:=by
  have:k<=q*k:=Nat.le_mul_of_pos_left k (by have:=hq.1;omega)
  omega
 have hd1:=hd.1
 rw[T4 f a _ N (by omega)] at h1
 rw[T4 f a k N hk] at h2
 have e1:(a^k)^q%d=1:=by
  rw[<- Nat.pow_mul,Nat.mul_comm k q,<- Nat.mod_mod_of_dvd _ hdN,h1,Nat.mod_eq_of_lt hd1]
 have hne:a^k%d≠1:=by
  intro he
  have hdv:d∣a^k%N+(N-1):=by
   have h3:(a^k%N)%d=1:=by rw[Nat.mod_mod_of_dvd _ hdN];exact he
   refine Nat.dvd_of_mod_eq_zero ?_
   obtain⟨c,hc⟩:=hdN
   have:a^k%N+(N-1)+1=a^k%N+d*c:=by omega
   have h5:(a^k%N+(N-1)+1)%d=1:=by rw[this,Nat.add_mul_mod_self_left,h3]
   have h6:=Nat.add_mod (a^k%N+(N-1)) 1 d
   rw[h5,Nat.mod_eq_of_lt hd1] at h6
   have h7:=Nat.mod_lt (a^k%N+(N-1)) (show 0<d by omega)
   generalize (a^k%N+(N-1))%d=r at *
   by_cases hr:r+1=d
   ·rw[hr,Nat.mod_self] at h6;cases h6
   ·rw[Nat.mod_eq_of_lt (by omega)] at h6;omega
  have:=Nat.dvd_gcd hdv hdN
  rw[h2] at this
  have:=Nat.le_of_dvd (by omega) this
  omega
 have hda:¬ d∣a^k:=by
  intro h
  have:(a^k)^q%d=0:=Nat.mod_eq_zero_of_dvd (Nat.dvd_trans h (Fg (by have:=hq.1;omega)))
  rw[this] at e1;cases e1
 have e2:=hd.J8 hda
 refine Classical.byContradiction fun hnd=>?_
 have hg:=hq.coprime hnd
 have:=WQ q (d-1) e1 e2
 rw[hg,Nat.pow_one] at this
 exact hne this
def zC (n:Nat):Nat->Nat->Bool
 | 0,lo => !(Nat.beq (n%lo) 0)
 | f+1,lo=>zC n f lo&&zC n f (lo+2^f)
theorem Mz {n:Nat}:∀ f lo,zC n f lo=true->∀ d,lo<=d->d<lo+2^f->¬ d∣n:=by
 intro f
 induction f with
 | zero =>
  intro lo h d h1 h2 hd
  have:d=lo:=by simp at h2;omega
  subst this
  unfold zC at h
  rw[Nat.mod_eq_zero_of_dvd hd] at h
  simp at h
 | succ f ih =>
  intro lo h d h1 h2
  unfold zC at h
  simp only[Bool.and_eq_true] at h
  rw[Nat.pow_succ] at h2
  by_cases hm:d<lo+2^f
  ·exact ih lo h.1 d h1 hm
  ·exact ih (lo+2^f) h.2 d (by omega) (by omega)
theorem kW {n f:Nat} (hn:1<n) (hf:n<(2+2^f)*(2+2^f)) (h:zC n f 2=true):dr n:=by
 refine Classical.byContradiction fun hp=>?_
 obtain⟨d,hd,hdn,hdd⟩:=dq hn hp
 refine Mz f 2 h d hd.1 ?_ hdn
 refine Classical.byContradiction fun hc=>?_
 have:(2+2^f)*(2+2^f)<=d*d:=Nat.mul_le_mul (by omega) (by omega)
 omega
end Cr
namespace Cr
theorem fR {K d n:Nat} (hd:1<d) (h:K∣d-1) (hdd:d*d<=n) (hK:n<K*K):False:=by
 have hle:=Nat.le_of_dvd (by omega) h
 have:K*K<=d*d:=Nat.mul_le_mul (by omega) (by omega)
 omega
theorem MQ:dr 421987:=kW (f:=10) (by decide) (by decide) (by kernel_rfl)
theorem CC:dr 13090036741:=by
 refine Classical.byContradiction fun hp=>?_
 obtain⟨d,hd,hdn,hdd⟩:=dq (n:=13090036741) (by decide) hp
 have h0:421987∣d-1:=jd (k:=31020) (a:=2) (f:=34) MQ (by kernel_rfl) (Odt (by kernel_rfl)) (by kernel_rfl) (by kernel_rfl) hd hdn
 exact fR hd.1 h0 hdd (Odt (by kernel_rfl))
theorem MR:dr 755057:=kW (f:=10) (by decide) (by decide) (by kernel_rfl)
theorem qT:dr 3819663927398918131021:=by
 refine Classical.byContradiction fun hp=>?_
 obtain⟨d,hd,hdn,hdd⟩:=dq (n:=3819663927398918131021) (by decide) hp
 have h0:13090036741∣d-1:=jd (k:=291799328220) (a:=2) (f:=72) CC (by kernel_rfl) (Odt (by kernel_rfl)) (by kernel_rfl) (by kernel_rfl) hd hdn
 have h1:755057∣d-1:=jd (k:=5058775598926860) (a:=2) (f:=72) MR (by kernel_rfl) (Odt (by kernel_rfl)) (by kernel_rfl) (by kernel_rfl) hd hdn
 have g1:13090036741*755057∣d-1:=Nat.Coprime.mul_dvd_of_dvd_of_dvd (show Nat.gcd 13090036741 755057=1 by kernel_rfl) h0 h1
 rw[show 13090036741*755057=9883723871549237 by kernel_rfl] at g1
 exact fR hd.1 g1 hdd (Odt (by kernel_rfl))
theorem kq:dr 1125266252156850182658904441386709967:=by
 refine Classical.byContradiction fun hp=>?_
 obtain⟨d,hd,hdn,hdd⟩:=dq (n:=1125266252156850182658904441386709967) (by decide) hp
 have h0:3819663927398918131021∣d-1:=jd (k:=294598235223046) (a:=2) (f:=120) qT (by kernel_rfl) (Odt (by kernel_rfl)) (by kernel_rfl) (by kernel_rfl) hd hdn
 exact fR hd.1 h0 hdd (Odt (by kernel_rfl))
theorem eI:dr 15778400344354997994418419698270088123916926905054652752758194827714659:=by
 refine Classical.byContradiction fun hp=>?_
 obtain⟨d,hd,hdn,hdd⟩:=dq (n:=15778400344354997994418419698270088123916926905054652752758194827714659) (by decide) hp
 have h0:1125266252156850182658904441386709967∣d-1:=jd (k:=14021926201120671579994175730661374) (a:=2) (f:=234) kq (by kernel_rfl) (Odt (by kernel_rfl)) (by kernel_rfl) (by kernel_rfl) hd hdn
 exact fR hd.1 h0 hdd (Odt (by kernel_rfl))
theorem Fz:dr 4002409555221667393417789825735904156556882819939007885332058136124031650490837864442687629129015664037894272559787:=by
 refine Classical.byContradiction fun hp=>?_
 obtain⟨d,hd,hdn,hdd⟩:=dq (n:=4002409555221667393417789825735904156556882819939007885332058136124031650490837864442687629129015664037894272559787) (by decide) hp
 have h0:15778400344354997994418419698270088123916926905054652752758194827714659∣d-1:=jd (k:=253663835868735594330404923636534084567099854) (a:=2) (f:=381) eI (by kernel_rfl) (Odt (by kernel_rfl)) (by kernel_rfl) (by kernel_rfl) hd hdn
 exact fR hd.1 h0 hdd (Odt (by kernel_rfl))
theorem Fi:dr 254760293:=kW (f:=14) (by decide) (by decide) (by kernel_rfl)
theorem HA:dr 52437899:=kW (f:=13) (by decide) (by decide) (by kernel_rfl)
theorem I6:dr 2529403:=kW (f:=11) (by decide) (by decide) (by kernel_rfl)
theorem I5:dr 2508409:=kW (f:=11) (by decide) (by decide) (by kernel_rfl)
theorem MT:dr 906349:=kW (f:=10) (by decide) (by decide) (by kernel_rfl)
theorem MS:dr 859267:=kW (f:=10) (by decide) (by decide) (by kernel_rfl)
theorem T5:dr 52435875175126190479447740508185965837690552500527637822603658699938581184513:=by
 refine Classical.byContradiction fun hp=>?_
 obtain⟨d,hd,hdn,hdd⟩:=dq (n:=52435875175126190479447740508185965837690552500527637822603658699938581184513) (by decide) hp
 have h0:254760293∣d-1:=jd (k:=205824363591567193241718168805002771125288949563767528806397073424384) (a:=2) (f:=255) Fi (by kernel_rfl) (Odt (by kernel_rfl)) (by kernel_rfl) (by kernel_rfl) hd hdn
 have h1:52437899∣d-1:=jd (k:=999961405302035279473110478895921551656570994587857873989262207090688) (a:=2) (f:=255) HA (by kernel_rfl) (Odt (by kernel_rfl)) (by kernel_rfl) (by kernel_rfl) hd hdn
 have h2:2529403∣d-1:=jd (k:=20730534112249487519168649878325425342537568153642435714120548880482304) (a:=2) (f:=255) I6 (by kernel_rfl) (Odt (by kernel_rfl)) (by kernel_rfl) (by kernel_rfl) hd hdn
 have h3:2508409∣d-1:=jd (k:=20904037250355181503274681484632675866531555460264908084209416686010368) (a:=2) (f:=255) I5 (by kernel_rfl) (Odt (by kernel_rfl)) (by kernel_rfl) (by kernel_rfl) hd hdn
 have h4:906349∣d-1:=jd (k:=57853956009358636109763171259841369977448590444219211167666824479244288) (a:=2) (f:=255) MT (by kernel_rfl) (Odt (by kernel_rfl)) (by kernel_rfl) (by kernel_rfl) hd hdn
 have h5:859267∣d-1:=jd (k:=61023960160376449321861238134579782346686830170980193377150127608692736) (a:=2) (f:=255) MS (by kernel_rfl) (Odt (by kernel_rfl)) (by kernel_rfl) (by kernel_rfl) hd hdn
 have g1:254760293*52437899∣d-1:=Nat.Coprime.mul_dvd_of_dvd_of_dvd (show Nat.gcd 254760293 52437899=1 by kernel_rfl) h0 h1
 rw[show 254760293*52437899=13359094513544407 by kernel_rfl] at g1
 have g2:13359094513544407*2529403∣d-1:=Nat.Coprime.mul_dvd_of_dvd_of_dvd (show Nat.gcd 13359094513544407 2529403=1 by kernel_rfl) g1 h2
 rw[show 13359094513544407*2529403=33790533739842763699021 by kernel_rfl] at g2
 have g3:33790533739842763699021*2508409∣d-1:=Nat.Coprime.mul_dvd_of_dvd_of_dvd (show Nat.gcd 33790533739842763699021 2508409=1 by kernel_rfl) g2 h3
 rw[show 33790533739842763699021*2508409=84760478947825247047497567589 by kernel_rfl] at g3
 have g4:84760478947825247047497567589*906349∣d-1:=Nat.Coprime.mul_dvd_of_dvd_of_dvd (show Nat.gcd 84760478947825247047497567589 906349=1 by kernel_rfl) g3 h4
 rw[show 84760478947825247047497567589*906349=76822575333882464836252372886722561 by kernel_rfl] at g4
 have g5:76822575333882464836252372886722561*859267∣d-1:=Nat.Coprime.mul_dvd_of_dvd_of_dvd (show Nat.gcd 76822575333882464836252372886722561 859267=1 by kernel_rfl) g4 h5
 rw[show 76822575333882464836252372886722561*859267=66011103839419183912452067693255434822787 by kernel_rfl] at g5
 exact fR hd.1 g5 hdd (Odt (by kernel_rfl))
end Cr
namespace Cr
section
variable {M:Int} [Md M]
instance rgZm : Rg (Zm M) where
 add_comm a b:=Zm.ext (by simp only[ze,Int.add_comm])
 add_assoc a b c:=by rw[<- gR a,<- gR b,<- gR c];simp only[o7,Int.add_assoc]
 zero_add a:=by rw[<- gR a,<- LK];simp only[o7,Int.zero_add]
 neg_add a:=by rw[<- gR a,<- LK];simp only[o7,y7];congr 1;omega
 sub_def a b:=by rw[<- gR a,<- gR b];simp only[o7,y7,y8];congr 1
 mul_comm:=tD
 mul_assoc:=n8
 one_mul:=Si
 add_mul:=FV
theorem II (x:Zm M) (n:Nat):(zpow x n).v=x.v^n%M:=by
 induction n with
 | zero=>show (1:Zm M).v=_;rw[tH,Int.pow_zero,Int.emod_eq_of_lt (by omega) Md.gt]
 | succ n ih=>show (zpow x n*x).v=_;rw[n9,ih,Int.pow_succ,Int.mul_emod,Int.emod_emod,<- Int.mul_emod]
theorem uc {P:Nat} (hM:M=(P:Int)) (hp:dr P) {x:Zm M} (hx:x≠0) {n:Nat} (hn:n+2=P):x*zpow x n=1:=by
 obtain⟨a,ha⟩:=Int.eq_ofNat_of_zero_le x.nn
 have hna:¬ P∣a:=by
  intro hd
  have hlt:a<P:=by have:=x.lt;omega
  have:a=0:=Nat.eq_zero_of_dvd_of_lt hd hlt
  exact hx (Zm.ext (by rw[ma,ha,this];rfl))
 have hf:=hp.J8 hna
 refine Zm.ext ?_
 rw[n9,II,tH,Int.mul_emod,Int.emod_emod,<- Int.mul_emod,Int.mul_comm,<- Int.pow_succ,ha,hM,<- Int.natCast_pow]
 have e:P-1=n+1:=by omega
 rw[e] at hf
 rw[<- Int.natCast_emod,hf]
 rfl
end
theorem BK:Mp=(4002409555221667393417789825735904156556882819939007885332058136124031650490837864442687629129015664037894272559787:Int):=rfl
theorem Xz:Mr=(52435875175126190479447740508185965837690552500527637822603658699938581184513:Int):=rfl
theorem Es {x:Fp} (hx:x≠0):x*jG x 4002409555221667393417789825735904156556882819939007885332058136124031650490837864442687629129015664037894272559785=1:=by
 rw[ti]
 exact uc BK Fz hx (Odt (by kernel_rfl))
theorem QH {x:Fr} (hx:x≠0):x*jG x 52435875175126190479447740508185965837690552500527637822603658699938581184511=1:=by
 rw[ti]
 exact uc Xz T5 hx (Odt (by kernel_rfl))
noncomputable instance fdFp:Fd Fp where
 deq:=inferInstance
 inv x:=jG x 4002409555221667393417789825735904156556882819939007885332058136124031650490837864442687629129015664037894272559785
 mul_inv _ h:=Es h
 one_ne:=by decide
 two_ne:=by decide
 three_ne:=by decide
noncomputable instance fdFr:Fd Fr where
 deq:=inferInstance
 inv x:=jG x 52435875175126190479447740508185965837690552500527637822603658699938581184511
 mul_inv _ h:=QH h
 one_ne:=by decide
 two_ne:=by decide
 three_ne:=by decide
end Cr
namespace Go.Proofs.YtbeeaekepmnfhaaGreatDoor
open Go Go.Eng Cr
def Ae:Nat->Prop->Prop
 | 0,P=>P
 | n+1,P=>True/\Ae n P
theorem E6 {P:Prop} (h:P):∀ n,Ae n P:=by
 intro n
 induction n with
 | zero=>exact h
 | succ n ih=>exact⟨trivial,ih⟩
theorem Q1 {α β:Type} [DecidableEq α] [DecidableEq β] (p q:α × β):(decide (p.1=q.1)&&decide (p.2=q.2))=decide (p=q):=by
 rw[Bool.eq_iff_iff]
 simp[Prod.ext_iff]
end Go.Proofs.YtbeeaekepmnfhaaGreatDoor
namespace Go.Proofs.YtbeeaekepmnfhaaGreatDoor.g1
open Go Go.Eng Go.RowKit Cr Go.Proofs.YtbeeaekepmnfhaaGreatDoor
abbrev bk:Kd:=.pair .fp (.pair .fp .fp)
theorem AO:enters Tryz.prog 121 Tryz.f121:=ek
noncomputable abbrev mh:HL [bo]->HO [.val bk]:=fun (p,_)=>(df (F:=Fp) p,())
theorem u6:aB Tryz.prog 121 [bo] [.val bk] aM (fun _=>True) mh:=by
 refine ax (sp:=aF [fp.ly]) (ai (ak fp.nL) aR) mixed AO (by decide) (by decide) ?_
 rintro w M0 ⟨p,⟨⟩⟩
 revert p
 intro (p:Fp × Fp) _ _
 refine ao (X:=(((decide (p.1=0)&&decide (p.2=0))=true->(((0:Fp),(0:Fp),(0:Fp)),())=mh (p,()))/\((decide (p.1=0)&&decide (p.2=0))=false->dF 1/\((p.1,p.2,(1:Fp)),())=mh (p,())))) (by kernel_rfl) ?_
 rw[Q1 p ((0:Fp),(0:Fp))]
 refine⟨fun h=>?_,fun h=>⟨by constructor<;>decide,?_⟩⟩
 ·show _=(df p,())
  unfold df
  rw[if_pos (Odt h)]
 ·show _=(df p,())
  unfold df
  rw[if_neg (Odf h)]
noncomputable def oz:Nat × Eng.Spec:=(121,ar [bo] [.val bk] (fun _=>True) mh)
theorem qq:enters Tryz.prog 124 Tryz.f124:=ek
noncomputable abbrev kQ:HL [bk]->HO [.val bo]:=fun (a,_)=>(cZ (F:=Fp) a,())
theorem m5:aB Tryz.prog 124 [bk] [.val bo] aM (fun _=>True) kQ:=by
 refine ax (sp:=aF [fp.k9,fp.mS,fp.bJ,fp.cK]) (ai (ak fp.jh) (ai (ak fp.ke) (ai (ak fp.b9) (ai (ak fp.cL) aR)))) mixed qq (by decide) (by decide) ?_
 rintro w M0 ⟨a,⟨⟩⟩
 revert a
 intro (a:Fp × Fp × Fp) _ _
 refine ao (X:=(True/\(decide (a.2.2=0)=true->(((0:Fp),(0:Fp)),())=kQ (a,()))/\(decide (a.2.2=0)=false->Ae 5 (((a.1*(fp.iJ a.2.2*fp.iJ a.2.2),a.2.1*(fp.iJ a.2.2*fp.iJ a.2.2)*fp.iJ a.2.2),())=kQ (a,()))))) (by kernel_rfl) ?_
 refine⟨trivial,fun h=>?_,fun h=>E6 ?_ _⟩
 ·show _=(cZ a,())
  unfold cZ
  rw[if_pos (Odt h)]
 ·show _=(cZ a,())
  unfold cZ
  rw[if_neg (Odf h)]
  rfl
noncomputable def jk:Nat × Eng.Spec:=(124,ar [bk] [.val bo] (fun _=>True) kQ)
theorem nJ:enters Tryz.prog 123 Tryz.f123:=ek
noncomputable abbrev fW:HL [bk]->HO [.val bk]:=fun (a,_)=>(iF (F:=Fp) a,())
theorem kA:aB Tryz.prog 123 [bk] [.val bk] aM (fun _=>True) fW:=by
 refine ax (sp:=aF [fp.k9,fp.cv,fp.iI,fp.bJ,fp.cK]) (ai (ak fp.jh) (ai (ak fp.cC) (ai (ak fp.gn) (ai (ak fp.b9) (ai (ak fp.cL) aR))))) mixed nJ (by decide) (by decide) ?_
 rintro w M0 ⟨a,⟨⟩⟩
 revert a
 intro (a:Fp × Fp × Fp) _ _
 refine ao (X:=(True/\(decide (a.2.2=0)=true->(((0:Fp),(0:Fp),(0:Fp)),())=fW (a,()))/\(decide (a.2.2=0)=false->Ae 18 ((DK a,())=fW (a,()))))) (by kernel_rfl) ?_
 refine⟨trivial,fun h=>?_,fun h=>E6 ?_ _⟩
 ·show _=(iF a,())
  unfold iF
  rw[if_pos (Odt h)]
 ·show _=(iF a,())
  unfold iF
  rw[if_neg (Odf h)]
noncomputable def jS:Nat × Eng.Spec:=(123,ar [bk] [.val bk] (fun _=>True) fW)
theorem j9:enters Tryz.prog 122 Tryz.f122:=ek
noncomputable abbrev dO:HL [bk,bk]->HO [.val bk]:=fun (a,b,_)=>(fC (F:=Fp) a b,())
abbrev wd (a b:Fp × Fp × Fp):Fp:=b.1*(a.2.2*a.2.2)-a.1*(b.2.2*b.2.2)
abbrev rs (a b:Fp × Fp × Fp):Fp:=b.2.1*(a.2.2*a.2.2)*a.2.2-a.2.1*(b.2.2*b.2.2)*b.2.2
theorem cC:aB Tryz.prog 122 [bk,bk] [.val bk] aM (fun _=>True) dO:=by
 refine ax (sp:=aF [fp.k9,fp.iI,fp.bJ,fp.cK,jS]) (ai (ak fp.jh) (ai (ak fp.gn) (ai (ak fp.b9) (ai (ak fp.cL) (ai (ak kA) aR))))) mixed j9 (by decide) (by decide) ?_
 rintro w M0 ⟨a,b,⟨⟩⟩
 revert a b
 intro (a:Fp × Fp × Fp) (b:Fp × Fp × Fp) _ _
 refine ao (X:=(True/\(decide (a.2.2=0)=true->(b,())=dO (a,b,()))/\(decide (a.2.2=0)=false->True/\(decide (b.2.2=0)=true->(a,())=dO (a,b,()))/\(decide (b.2.2=0)=false ->
  Ae 11 ((decide (wd a b=0)=true->True/\(decide (rs a b=0)=true->True/\(iF (F:=Fp) a,())=dO (a,b,()))/\(decide (rs a b=0)=false->(((0:Fp),(0:Fp),(0:Fp)),())=dO (a,b,()))) /\
   (decide (wd a b=0)=false->Ae 13 ((DL (F:=Fp) (wd a b) (rs a b) (a.1*(b.2.2*b.2.2)) (a.2.1*(b.2.2*b.2.2)*b.2.2) a.2.2 b.2.2,())=dO (a,b,())))))))) (by kernel_rfl) ?_
 refine⟨trivial,fun h=>?_,fun h=>⟨trivial,fun h2=>?_,fun h2=>E6 ⟨fun h3=>⟨trivial,fun h4=>⟨trivial,?_⟩,fun h4=>?_⟩,fun h3=>E6 ?_ _⟩ _⟩⟩
 all_goals show _=(fC a b,())
 all_goals unfold fC
 ·rw[if_pos (Odt h)]
 ·rw[if_neg (Odf h),if_pos (Odt h2)]
 ·rw[if_neg (Odf h),if_neg (Odf h2),if_pos (Odt h3),if_pos (Odt h4)]
 ·rw[if_neg (Odf h),if_neg (Odf h2),if_pos (Odt h3),if_neg (Odf h4)]
 ·rw[if_neg (Odf h),if_neg (Odf h2),if_neg (Odf h3)]
noncomputable def cv:Nat × Eng.Spec:=(122,ar [bk,bk] [.val bk] (fun _=>True) dO)
end Go.Proofs.YtbeeaekepmnfhaaGreatDoor.g1
namespace Cr
open Rg Fd Go Go.Eng
def dh (b:Int):Int:=Int.fdiv b (2^min (Int.toNat 4) IntKind.u8.bits)
def dl (b:Int):Int:=av .and .u8 b 15
theorem LY {b:Int} (h0:0<=b) (h1:b<256):dh b=b/16/\0<=dh b/\dh b<16:=by
 have e:dh b=b/16:=by
  show Int.fdiv b (2^4)=b/16
  rw[Int.fdiv_eq_ediv_of_nonneg b (by decide)];rfl
 rw[e];omega
theorem L0 {b:Int} (h0:0<=b) (h1:b<256):dl b=b%16/\0<=dl b/\dl b<16:=by
 obtain⟨n,rfl⟩:=Int.eq_ofNat_of_zero_le h0
 have hn:n<256:=by omega
 have e:dl (n:Int)=(n:Int)%16:=by
  show IntKind.u8.wrap ((BitVec.ofInt 8 (n:Int) &&& BitVec.ofInt 8 15:BitVec 8).toNat:Int)=_
  have h1:(BitVec.ofInt 8 (n:Int)).toNat=n:=by rw[show BitVec.ofInt 8 (n:Int)=BitVec.ofNat 8 n from BitVec.ofInt_natCast ..,BitVec.toNat_ofNat,Nat.mod_eq_of_lt (by omega)]
  rw[BitVec.toNat_and,h1,show (BitVec.ofInt 8 15).toNat=15 from rfl]
  have h:=Nat.and_two_pow_sub_one_eq_mod n 4
  rw[show 2^4-1=15 from rfl] at h
  rw[h]
  have:IntKind.u8.wrap ((n%2^4:Nat):Int)=((n%2^4:Nat):Int):=by
   simp[IntKind.wrap,IntKind.signed,IntKind.bits];omega
  rw[this];omega
 rw[e];omega
section
variable {F:Type} [Fd F]
def mz (ps:List (F × F)):Nat->Jc F
 | 0=>(0,0,0)
 | k+1=>fC (mz ps k) (df (ps.getD k (0,0)))
def jt (o:Jc F):Nat->Jc F
 | 0=>(0,0,0)
 | k+1=>fC (jt o k) o
def yh (s:Jc F):Nat->Jc F
 | 0=>s
 | k+1=>iF (yh s k)
def yj (tb:List (Jc F)) (s:Jc F) (d:Int):Jc F:=fC (yh s 4) (tb.getD d.toNat (0,0,0))
def tB (tb:List (Jc F)) (ds:List Int) (s:Jc F):Nat->Jc F
 | 0=>s
 | j+1=>yj tb (tB tb ds s j) (ds.getD j 0)
def Ao (tb:List (Jc F)) (s:Jc F) (b:Int):Jc F:=tB tb [dh b,dl b] s 2
def nT (tb:List (Jc F)) (k:List Int):Nat->Jc F
 | 0=>(0,0,0)
 | i+1=>Ao tb (nT tb k i) (k.getD i 0)
def aq (P:F × F):Nat->F × F
 | 0=>O2
 | n+1=>ae (aq P n) P
def pS:List (F × F)->F × F
 | []=>O2
 | P::ps=>ae P (pS ps)
variable {b:F} (hb:b≠0)
include hb
theorem a7 {P:F × F} (oP:aV b P) (n:Nat):aV b (aq P n):=by
 induction n with
 | zero=>exact .inl rfl
 | succ n ih=>exact dP hb ih oP
theorem cn {P:F × F} (oP:aV b P) (m n:Nat):aq P (m+n)=ae (aq P m) (aq P n):=by
 induction n with
 | zero=>exact (dD _).symm
 | succ n ih=>show ae (aq P (m+n)) P=ae (aq P m) (ae (aq P n) P);rw[ih,eH hb (a7 hb oP m) (a7 hb oP n) oP]
theorem bu {P:F × F} (oP:aV b P) (m n:Nat):aq (aq P m) n=aq P (m*n):=by
 induction n with
 | zero=>rfl
 | succ n ih=>show ae (aq (aq P m) n) (aq P m)=_;rw[ih,<- cn hb oP];rfl
theorem FR {P Q R S:F × F} (oP:aV b P) (oQ:aV b Q) (oR:aV b R) (oS:aV b S):ae (ae P Q) (ae R S)=ae (ae P R) (ae Q S):=by
 rw[eH hb oP oQ (dP hb oR oS),<- eH hb oQ oR oS,dK hb oQ oR,eH hb oR oQ oS,<- eH hb oP oR (dP hb oQ oS)]
theorem kD {P Q:F × F} (oP:aV b P) (oQ:aV b Q) (n:Nat):aq (ae P Q) n=ae (aq P n) (aq Q n):=by
 induction n with
 | zero=>exact (ct _).symm
 | succ n ih=>show ae (aq (ae P Q) n) (ae P Q)=ae (ae (aq P n) P) (ae (aq Q n) Q);rw[ih,FR hb (a7 hb oP n) (a7 hb oQ n) oP oQ]
theorem Hb {P:F × F} (oP:aV b P) (n:Nat):aq (aX P) n=aX (aq P n):=by
 induction n with
 | zero=>exact iC.symm
 | succ n ih=>show ae (aq (aX P) n) (aX P)=_;rw[ih,<- sE hb (a7 hb oP n) oP];rfl
omit hb in
theorem fV (n:Nat):aq (O2:F × F) n=O2:=by
 induction n with
 | zero=>rfl
 | succ n ih=>show ae (aq O2 n) O2=O2;rw[ih,ct]
omit hb in
theorem A9 {P:F × F}:aq P 2=ae P P:=by
 show ae (ae O2 P) P=_;rw[ct]
omit hb in
theorem gv {P:F × F}:aq P 1=P:=ct P
theorem aaE {o:Jc F} {P:F × F} (h:du b o P) (k:Nat):du b (jt o k) (aq P k):=by
 induction k with
 | zero=>exact .inl ⟨rfl,rfl⟩
 | succ k ih=>exact pV hb ih h
theorem WY {s:Jc F} {P:F × F} {n:Nat} (oP:aV b P) (h:du b s (aq P n)) (k:Nat):du b (yh s k) (aq P (2^k*n)):=by
 induction k with
 | zero=>rw[Nat.pow_zero,Nat.one_mul];exact h
 | succ k ih =>
  have:=zU hb ih
  rw[<- cn hb oP] at this
  rw[Nat.pow_succ,Nat.mul_comm (2^k) 2,Nat.mul_assoc,Nat.two_mul]
  exact this
theorem KY {s o:Jc F} {P:F × F} {n:Nat} (ho:du b o P) (h:du b s (aq P n)) {d:Int} (h0:0<=d) (h1:d<16):du b (yj (cX (jt o) (0,0,0) 15) s d) (aq P (16*n+d.toNat)):=by
 unfold yj
 rw[l6 _ _ _ (by omega) (by omega),cn hb ho.on]
 exact pV hb (WY hb ho.on h 4) (aaE hb ho _)
theorem WX {s o:Jc F} {P:F × F} {n:Nat} (ho:du b o P) (h:du b s (aq P n)) {c:Int} (h0:0<=c) (h1:c<256):du b (Ao (cX (jt o) (0,0,0) 15) s c) (aq P (256*n+c.toNat)):=by
 obtain⟨e1,d1,d2⟩:=LY h0 h1
 obtain⟨e2,d3,d4⟩:=L0 h0 h1
 have:=KY hb ho (KY hb ho h d1 d2) d3 d4
 have e:16*(16*n+(dh c).toNat)+(dl c).toNat=256*n+c.toNat:=by rw[e1,e2];omega
 rw[e] at this
 exact this
omit hb in
theorem Sf {k:List Int} {i:Nat} (h:i<k.length):num (k.take (i+1))=num (k.take i)*256+k.getD i 0:=by
 unfold num
 rw[List.take_succ_eq_append_getElem h,List.foldl_append]
 simp[h]
theorem W0 {o:Jc F} {P:F × F} (ho:du b o P) {k:List Int} (hk:Bs k) (i:Nat) (hi:i<=k.length):0<=num (k.take i)/\du b (nT (cX (jt o) (0,0,0) 15) k i) (aq P (num (k.take i)).toNat):=by
 induction i with
 | zero=>exact⟨by simp[num],.inl ⟨rfl,by simp[num,aq]⟩⟩
 | succ i ih =>
  obtain⟨h1,h2⟩:=ih (by omega)
  have hc:0<=k.getD i 0/\k.getD i 0<256:=by
   have:k.getD i 0∈k:=by rw[List.getD_eq_getElem?_getD,List.getElem?_eq_getElem (by omega)];exact List.getElem_mem (by omega)
   exact hk _ this
  have:=WX hb ho h2 hc.1 hc.2
  rw[Sf (by omega)]
  refine⟨by omega,?_⟩
  have e:(num (k.take i)*256+k.getD i 0).toNat=256*(num (k.take i)).toNat+(k.getD i 0).toNat:=by omega
  rw[e]
  exact this
theorem wZ {P:F × F} (oP:aV b P) {k:List Int} (hk:Bs k):cZ (nT (cX (jt (df P)) (0,0,0) 15) k k.length)=aq P (num k).toNat:=by
 have:=(W0 hb (sL oP) hk k.length (Nat.le_refl _)).2
 rw[List.take_length] at this
 exact ES this
theorem WU {ps:List (F × F)} (h:∀ P∈ps,aV b P):aV b (pS ps):=by
 induction ps with
 | nil=>exact .inl rfl
 | cons P ps ih=>exact dP hb (h P (by simp)) (ih (fun Q hQ=>h Q (by simp[hQ])))
theorem PI {ps:List (F × F)} (h:∀ P∈ps,aV b P) {Q:F × F} (oQ:aV b Q):pS (ps++[Q])=ae (pS ps) Q:=by
 induction ps with
 | nil=>show ae Q O2=ae O2 Q;rw[dD,ct]
 | cons P ps ih =>
  show ae P (pS (ps++[Q]))=ae (ae P (pS ps)) Q
  rw[ih (fun R hR=>h R (by simp[hR])),eH hb (h P (by simp)) (WU hb (fun R hR=>h R (by simp[hR]))) oQ]
theorem WZ {ps:List (F × F)} (h:∀ P∈ps,aV b P) (i:Nat) (hi:i<=ps.length):du b (mz ps i) (pS (ps.take i)):=by
 induction i with
 | zero=>exact .inl ⟨rfl,by simp[pS]⟩
 | succ i ih =>
  have hm:ps.getD i (0,0)=ps[i]:=by simp[show i<ps.length by omega]
  have ho:aV b (ps[i]):=h _ (List.getElem_mem _)
  rw[List.take_succ_eq_append_getElem (by omega),PI hb (fun P hP=>h P (List.mem_of_mem_take hP)) ho]
  show du b (fC (mz ps i) (df (ps.getD i (0,0)))) _
  rw[hm]
  exact pV hb (ih (by omega)) (sL ho)
theorem Qu {ps:List (F × F)} (h:∀ P∈ps,aV b P):cZ (mz ps ps.length)=pS ps:=by
 have:=WZ hb h ps.length (Nat.le_refl _)
 rw[List.take_length] at this
 exact ES this
theorem add_eq {P Q:F × F} (oP:aV b P) (oQ:aV b Q):cZ (mz [P,Q] 2)=ae P Q:=by
 have:=Qu hb (ps:=[P,Q]) (by intro R hR;simp at hR;rcases hR with rfl|rfl<;>assumption)
 rw[show pS [P,Q]=ae P Q by show ae P (ae Q O2)=_;rw[dD]] at this
 exact this
end
end Cr
namespace Go.Proofs.YtbeeaekepmnfhaaGreatDoor.g1
noncomputable section
open Go Go.Eng Go.RowKit Cr
abbrev bc (s:Fp × Fp × Fp):List Cell:=[.row .fp 1 [s.1],.row .fp 1 [s.2.1],.row .fp 1 [s.2.2]]
abbrev pc (s:Fp × Fp):List Cell:=[.row .fp 1 [s.1],.row .fp 1 [s.2]]
theorem uV:enters Tryz.prog 151 Tryz.f151:=ek
def p4 (ps:List (Fp × Fp)) (g:Int × (Fp × Fp × Fp)):St:=aY Tryz.f151.ntmps 40 [(2,.is (.one (.ptr 0 0))),(3,.is (.one (.ptr 8 0))),(6,.is (.one (.ro bo ps))),(7,sI .i64 ps.length),(8,sI .i64 g.1)] [(8,bc g.2),(0,pc (0,0))]
def dS (ps:List (Fp × Fp)) (g:Int × (Fp × Fp × Fp)):Int × (Fp × Fp × Fp):=(IntKind.i64.wrap (g.1+1),fC (F:=Fp) g.2 (df (F:=Fp) (ps.getD g.1.toNat (0,0))))
abbrev mI:HL [.sl bo]->Prop:=fun (ps,_)=>List.length ps<4611686018427387904
abbrev og:HL [.sl bo]->HO [.val bo]:=fun (ps,_)=>(cZ (F:=Fp) (mz ps (List.length ps)),())
theorem u9:aB Tryz.prog 151 [.sl bo] [.val bo] aM mI og:=by
 have hsp:aN Tryz.prog (aF [oz,cv,jk]):=ai (ak u6) (ai (ak cC) (ai (ak m5) aR))
 refine bh (sp:=aF [oz,cv,jk]) uV (by decide) (by decide) (by kernel_rfl) ?_
 rintro w M0 ⟨ps,⟨⟩⟩
 revert ps
 intro (ps:List (Fp × Fp)) _ hl
 have hl:ps.length<4611686018427387904:=hl
 show Tr _ _ _ _ _ _ _
 refine aP hsp mixed 3 (p4 ps (0,mz ps 0)) True ?_ (fun _=>?_)
 ·exact ao (X:=(p4 ps (0,mz ps 0)).ah True) (by kernel_rfl) (aA trivial)
 refine dB hsp mixed (p4 ps) (fun k=>((k:Int),mz ps k)) ps.length (dS ps) (p4 ps) (c:=aI (aJ Tryz.f151) 3) (by kernel_rfl) (by kernel_rfl) (aC (by kernel_rfl) (by kernel_rfl) trivial)
  (fun k hk=>by show (_,_)=(_,_);rw[aQ (by omega)];rfl) ?_ ?_
 ·intro k hk
  generalize hs:mz ps k=s
  refine ao (X:=((decide ((k:Int)<(ps.length:Int))=true->(0<=(k:Int)/\(k:Int)<(ps.length:Int))/\(k:Int).toNat<ps.length/\True/\True/\(p4 ps (dS ps ((k:Int),s))).ah (k<ps.length)) /\
   (decide ((k:Int)<(ps.length:Int))=false->(p4 ps ((k:Int),s)).ah (k=ps.length)))) (by kernel_rfl) ?_
  refine⟨fun h=>?_,fun h=>aA (by have:=dk h;omega)⟩
  have hlt:k<ps.length:=by have:=dec_lt h;omega
  exact⟨⟨by omega,by omega⟩,by omega,trivial,trivial,aA hlt⟩
 ·refine bf hsp mixed _ _ ?_
  exact ao (X:=(True/\(cZ (F:=Fp) (mz ps ps.length),())=og (ps,()))) (by kernel_rfl) ⟨trivial,rfl⟩
def z0:Nat × Eng.Spec:=(151,ar [.sl bo] [.val bo] mI og)
theorem AP:enters Tryz.prog 106 Tryz.f106:=ek
abbrev vl:HL [bo,bo]->HO [.val bo]:=fun (p,q,_)=>(cZ (F:=Fp) (mz [p,q] 2),())
theorem DB:aB Tryz.prog 106 [bo,bo] [.val bo] aM (fun _=>True) vl:=by
 refine ax (sp:=aF [z0]) (ai (ak u9) aR) mixed AP (by decide) (by decide) ?_
 rintro w M0 ⟨p,q,⟨⟩⟩
 revert p q
 intro (p:Fp × Fp) (q:Fp × Fp) _ _
 refine ao (X:=((0+2:Nat)<=2/\mI ([p,q],())/\og ([p,q],())=vl (p,q,()))) (by kernel_rfl) ?_
 exact⟨by decide,show (2:Nat)<4611686018427387904 by decide,rfl⟩
theorem AR:enters Tryz.prog 96 Tryz.f96:=ek
abbrev rD:HL [bo]->HO [.val bo]:=fun (p,_)=>(aX (F:=Fp) p,())
theorem zr:aB Tryz.prog 96 [bo] [.val bo] aM (fun _=>True) rD:=by
 refine ax (sp:=aF [fp.jb]) (ai (ak fp.iA) aR) mixed AR (by decide) (by decide) ?_
 rintro w M0 ⟨p,⟨⟩⟩
 revert p
 intro (p:Fp × Fp) _ _
 exact ao (X:=(True/\(((p.1,-p.2),())=rD (p,())))) (by kernel_rfl) ⟨trivial,rfl⟩
def b4:Fp:=zm 4
def m8 (p:Fp × Fp):Bool:=decide (p=((0:Fp),(0:Fp)))||decide (p.2*p.2=p.1*p.1*p.1+b4)
theorem v9 (p:Fp × Fp):m8 p=true↔aV b4 p:=by
 unfold m8 aV On
 simp
end
end Go.Proofs.YtbeeaekepmnfhaaGreatDoor.g1
open Go.IntKind(i64)
namespace Go.Proofs.YtbeeaekepmnfhaaGreatDoor.g1
noncomputable section
open Go Go.Eng Go.RowKit Cr
abbrev Jp:=Fp × Fp × Fp
def vE (k:List Int) (o:Jp) (g:Int × List Jp):St:=aY Tryz.f82.ntmps 64 [(1,.is (.one (.ro (.int .u8) k))),(4,.is (.one (.ptr 8 0))),(5,.is (.one (.ptr 16 0))),(6,.is (.one (.ptr 40 0))),(15,sI .i64 g.1)] [(40,bc o),(16,[.row bk 16 g.2]),(8,pc (0,0))]
def Iq (k:List Int) (tb:List Jp) (s:Jp) (nx:Nat) (xs:List (Nat × SV)):St:=aY Tryz.f82.ntmps nx ([(4,.is (.one (.ptr 8 0))),(5,.is (.one (.ptr 16 0))),(8,.is (.one (.ptr 64 0))),(27,.is (.one (.ro (.int .u8) k))),(28,sI .i64 k.length)]++xs) [(64,bc s),(16,[.row bk 16 tb]),(8,pc (0,0))]
abbrev oZ (k:List Int) (tb:List Jp) (g:Int × Jp):St:=Iq k tb g.2 96 [(29,sI .i64 g.1)]
abbrev mM (k:List Int) (tb:List Jp) (i:Int) (ds:List Int) (g:Int × Jp):St:=Iq k tb g.2 168 [(29,sI .i64 i),(37,.is (.agg [.ints .u8 2 ds])),(38,sI .i64 g.1)]
abbrev vF (k:List Int) (tb:List Jp) (i:Int) (ds:List Int) (j d:Int) (g:Int × Jp):St:=Iq k tb g.2 184 [(29,sI .i64 i),(37,.is (.agg [.ints .u8 2 ds])),(38,sI .i64 j),(12,sI .u8 d),(41,sI .i64 g.1)]
theorem lI:enters Tryz.prog 82 Tryz.f82:=ek
abbrev bX:HL [bo,.sl (.int .u8)]->Prop:=fun (_,k,_)=>Bs k/\List.length k<4611686018427387904
abbrev fb:HL [bo,.sl (.int .u8)]->HO [.val bo]:=fun (p,k,_)=>(cZ (F:=Fp) (nT (cX (jt (df (F:=Fp) p)) (0,0,0) 15) k (List.length k)),())
theorem eF:aB Tryz.prog 82 [bo,.sl (.int .u8)] [.val bo] aM bX fb:=by
 have hsp:aN Tryz.prog (aF [oz,cv,jk,jS]):=ai (ak u6) (ai (ak cC) (ai (ak m5) (ai (ak kA) aR)))
 refine bh (sp:=aF [oz,cv,jk,jS]) lI (by decide) (by decide) (by kernel_rfl) ?_
 rintro w M0 ⟨p,k,⟨⟩⟩
 revert p k
 intro (p:Fp × Fp) (k:List Int) _ hp
 obtain⟨hk,hl⟩:=hp
 have hk:Bs k:=hk
 have hl:k.length<4611686018427387904:=hl
 show Tr _ _ _ _ _ _ _
 refine aP hsp mixed 4 (vE k (df (F:=Fp) p) (0,cX (jt (df (F:=Fp) p)) (0,0,0) 0)) True ?_ (fun _=>?_)
 ·exact ao (X:=(True/\(vE k (df (F:=Fp) p) (0,cX (jt (df (F:=Fp) p)) (0,0,0) 0)).ah True)) (by kernel_rfl) ⟨trivial,aA trivial⟩
 generalize ho:df (F:=Fp) p=o
 refine dB hsp mixed (vE k o) (fun n=>((n:Int),cX (jt o) (0,0,0) n)) 15 (fun g=>(i64.wrap (g.1+1),g.2.set (i64.wrap (g.1+1)).toNat (fC (F:=Fp) (g.2.getD g.1.toNat (0,0,0)) o))) (vE k o) (c:=aI (aJ Tryz.f82) 4) (by kernel_rfl) (by kernel_rfl) (aC (by kernel_rfl) (by kernel_rfl) trivial)
  (fun n hn=>by
   show (_,_)=(_,_)
   rw[aQ (by omega),Int.toNat_natCast,Int.toNat_natCast,l6 _ _ _ (Nat.le_refl n) (by omega),show fC (F:=Fp) (jt o n) o=jt o (n+1) from rfl,tT]) ?_ ?_
 ·intro n hn
  generalize cX (jt o) (0,0,0) n=tb
  refine ao (X:=((decide ((n:Int)<15)=true->(0<=(n:Int)/\(n:Int)<(16:Int))/\(n:Int).toNat<16/\True/\(0<=i64.wrap ((n:Int)+1)/\i64.wrap ((n:Int)+1)<(16:Int))/\(i64.wrap ((n:Int)+1)).toNat<16 /\
    (vE k o (i64.wrap ((n:Int)+1),tb.set (i64.wrap ((n:Int)+1)).toNat (fC (F:=Fp) (tb.getD (n:Int).toNat (0,0,0)) o))).ah (n<15)) /\
   (decide ((n:Int)<15)=false->(vE k o ((n:Int),tb)).ah (n=15)))) (by kernel_rfl) ?_
  refine⟨fun h=>?_,fun h=>aA (by have:=dk h;omega)⟩
  have hlt:n<15:=by have:=dec_lt h;omega
  rw[aQ (by omega)]
  exact⟨⟨by omega,by omega⟩,by omega,trivial,⟨by omega,by omega⟩,by omega,aA hlt⟩
 subst ho
 show Tr _ _ _ _ _ _ _
 generalize htb:cX (jt (df (F:=Fp) p)) (0,0,0) 15=tb
 refine aP hsp mixed 2 (oZ k tb (0,nT tb k 0)) True ?_ (fun _=>?_)
 ·exact ao (X:=(oZ k tb (0,nT tb k 0)).ah True) (by kernel_rfl) (aA trivial)
 refine nv (oZ k tb) (fun i=>((i:Int),nT tb k i)) k.length (fun g=>(i64.wrap (g.1+1),Ao tb g.2 (k.getD g.1.toNat 0))) (oZ k tb) (c:=aI (aJ Tryz.f82) 7) (by kernel_rfl) (by kernel_rfl) (aC (by kernel_rfl) (by kernel_rfl) trivial)
  (fun i hi=>by show (_,_)=(_,_);rw[aQ (by omega),Int.toNat_natCast];rfl) ?_ ?_
 ·intro i hi
  generalize nT tb k i=s
  refine aP hsp mixed 2 (oZ k tb ((i:Int),s)) (i<k.length) ?_ (fun hlt=>?_)
  ·refine ao (X:=((decide ((i:Int)<(k.length:Int))=true->(oZ k tb ((i:Int),s)).ah (i<k.length))/\(decide ((i:Int)<(k.length:Int))=false->(oZ k tb ((i:Int),s)).ah (i=k.length)))) (by kernel_rfl) ?_
   exact⟨fun h=>aA (by have:=dec_lt h;omega),fun h=>aA (by have:=dk h;omega)⟩
  have hb:0<=k.getD i 0/\k.getD i 0<256:=by
   have:k.getD i 0∈k:=by rw[List.getD_eq_getElem?_getD,List.getElem?_eq_getElem hlt];exact List.getElem_mem hlt
   exact hk _ this
  have hbi:k.getD (i:Int).toNat 0=k.getD i 0:=by rw[Int.toNat_natCast]
  generalize hbb:k.getD i 0=b at hb hbi
  obtain⟨_,d1,d2⟩:=LY hb.1 hb.2
  obtain⟨_,d3,d4⟩:=L0 hb.1 hb.2
  refine eG (c:=aI (bQ (aI (aJ Tryz.f82) 7)) 2) (by kernel_rfl) (by kernel_rfl) ?_
  refine aP hsp mixed 2 (mM k tb (i:Int) [dh (k.getD (i:Int).toNat 0),dl (k.getD (i:Int).toNat 0)] (0,tB tb [dh b,dl b] s 0)) True ?_ (fun _=>?_)
  ·refine ao (X:=((0<=(i:Int)/\(i:Int)<(k.length:Int))/\(i:Int).toNat<k.length/\(0:Int)<=4/\(mM k tb (i:Int) [dh (k.getD (i:Int).toNat 0),dl (k.getD (i:Int).toNat 0)] (0,tB tb [dh b,dl b] s 0)).ah True)) (by kernel_rfl) ?_
   exact⟨⟨by omega,by omega⟩,by omega,by decide,aA trivial⟩
  rw[hbi]
  generalize hds:[dh b,dl b]=ds
  have hdd:∀ j,j<2->0<=ds.getD j 0/\ds.getD j 0<16:=by
   intro j hj
   subst hds
   match j,hj with
   | 0,_=>exact⟨d1,d2⟩
   | 1,_=>exact⟨d3,d4⟩
  refine nv (mM k tb (i:Int) ds) (fun j=>((j:Int),tB tb ds s j)) 2 (fun g=>(i64.wrap (g.1+1),yj tb g.2 (ds.getD g.1.toNat 0))) (mM k tb (i:Int) ds) (c:=aI (fz (aI (bQ (aI (aJ Tryz.f82) 7)) 2)) 2) (by kernel_rfl) (by kernel_rfl) (aC (by kernel_rfl) (by kernel_rfl) trivial)
   (fun j hj=>by show (_,_)=(_,_);rw[aQ (by omega),Int.toNat_natCast];rfl) ?_ ?_
  ·intro j hj
   generalize tB tb ds s j=y
   refine aP hsp mixed 2 (mM k tb (i:Int) ds ((j:Int),y)) (j<2) ?_ (fun hj2=>?_)
   ·refine ao (X:=((decide ((j:Int)<2)=true->(mM k tb (i:Int) ds ((j:Int),y)).ah (j<2))/\(decide ((j:Int)<2)=false->(mM k tb (i:Int) ds ((j:Int),y)).ah (j=2)))) (by kernel_rfl) ?_
    exact⟨fun h=>aA (by have:=dec_lt h;omega),fun h=>aA (by have:=dk h;omega)⟩
   have hd:=hdd j hj2
   have hdj:ds.getD (j:Int).toNat 0=ds.getD j 0:=by rw[Int.toNat_natCast]
   generalize ds.getD j 0=d at hd hdj
   refine eG (c:=aI (bQ (aI (fz (aI (bQ (aI (aJ Tryz.f82) 7)) 2)) 2)) 2) (by kernel_rfl) (by kernel_rfl) ?_
   refine aP hsp mixed 2 (vF k tb (i:Int) ds (j:Int) (ds.getD (j:Int).toNat 0) (0,yh y 0)) True ?_ (fun _=>?_)
   ·refine ao (X:=((0<=(j:Int)/\(j:Int)<(2:Int))/\(vF k tb (i:Int) ds (j:Int) (ds.getD (j:Int).toNat 0) (0,yh y 0)).ah True)) (by kernel_rfl) ?_
    exact⟨⟨by omega,by omega⟩,aA trivial⟩
   rw[hdj]
   refine dB hsp mixed (vF k tb (i:Int) ds (j:Int) d) (fun n=>((n:Int),yh y n)) 4 (fun g=>(i64.wrap (g.1+1),iF (F:=Fp) g.2)) (vF k tb (i:Int) ds (j:Int) d) (c:=aI (fz (aI (bQ (aI (fz (aI (bQ (aI (aJ Tryz.f82) 7)) 2)) 2)) 2)) 2) (by kernel_rfl) (by kernel_rfl) (aC (by kernel_rfl) (by kernel_rfl) trivial)
    (fun n hn=>by show (_,_)=(_,_);rw[aQ (by omega)];rfl) ?_ ?_
   ·intro n hn
    generalize yh y n=z
    refine ao (X:=((decide ((n:Int)<4)=true->True/\(vF k tb (i:Int) ds (j:Int) d (i64.wrap ((n:Int)+1),iF (F:=Fp) z)).ah (n<4))/\(decide ((n:Int)<4)=false->(vF k tb (i:Int) ds (j:Int) d ((n:Int),z)).ah (n=4)))) (by kernel_rfl) ?_
    exact⟨fun h=>⟨trivial,aA (by have:=dec_lt h;omega)⟩,fun h=>aA (by have:=dk h;omega)⟩
   refine aP hsp mixed 1 (mM k tb (i:Int) ds ((j:Int),yj tb y d)) True ?_ (fun _=>?_)
   ·refine ao (X:=((0<=d/\d<(16:Int))/\d.toNat<16/\True/\(mM k tb (i:Int) ds ((j:Int),yj tb y d)).ah True)) (by kernel_rfl) ?_
    exact⟨⟨hd.1,by omega⟩,by omega,trivial,aA trivial⟩
   refine ig ?_
   refine bf hsp mixed _ _ ?_
   exact ao (X:=(mM k tb (i:Int) ds (i64.wrap ((j:Int)+1),yj tb y d)).ah (j<2)) (by kernel_rfl) (aA hj2)
  refine ig ?_
  refine bf hsp mixed _ _ ?_
  have ey:Ao tb s b=tB tb ds s 2:=by unfold Ao;rw[hds]
  show VC _ _ _ (fun σ'=>σ'.le _ (oZ k tb (i64.wrap ((i:Int)+1),Ao tb s b)) (i<k.length)) _ _
  rw[ey]
  generalize tB tb ds s 2=z
  exact ao (X:=(oZ k tb (i64.wrap ((i:Int)+1),z)).ah (i<k.length)) (by kernel_rfl) (aA hlt)
 ·refine bf hsp mixed _ _ ?_
  refine ao (X:=(True/\(cZ (F:=Fp) (nT tb k k.length),())=fb (p,k,()))) (by kernel_rfl) ⟨trivial,?_⟩
  show _=(cZ (F:=Fp) (nT (cX (jt (df (F:=Fp) p)) (0,0,0) 15) k k.length),())
  rw[htb]
def fy:Nat × Eng.Spec:=(82,ar [bo,.sl (.int .u8)] [.val bo] bX fb)
end
end Go.Proofs.YtbeeaekepmnfhaaGreatDoor.g1
namespace Go.Proofs.YtbeeaekepmnfhaaGreatDoor.g1
open Go Go.Eng Go.RowKit Cr
noncomputable def CW (p:Fp × Fp) (k:List Int):Fp × Fp:=cZ (F:=Fp) (nT (cX (jt (df (F:=Fp) p)) (0,0,0) 15) k (List.length k))
noncomputable def lE (p:Fp × Fp) (k:Fr):Fp × Fp:=CW p (bL 32 k.v)
theorem AQ:enters Tryz.prog 42 Tryz.f42:=ek
noncomputable abbrev rC:HL [bo,.fr]->HO [.val bo]:=fun (p,k,_)=>(lE p k,())
theorem zq:aB Tryz.prog 42 [bo,.fr] [.val bo] aM (fun _=>True) rC:=by
 refine ax (sp:=aF [fr.fw,fy]) (ai (ak fr.gO) (ai (ak eF) aR)) mixed AQ (by decide) (by decide) ?_
 rintro w M0 ⟨p,k,⟨⟩⟩
 revert p k
 intro (p:Fp × Fp) (k:Fr) _ _
 refine ao (X:=(True/\0+32<=32/\bX (p,(bL 32 k.v).take 32,())/\(CW p ((bL 32 k.v).take 32),())=rC (p,k,()))) (by kernel_rfl) ?_
 rw[List.take_of_length_le (by rw[cO];exact Nat.le_refl _)]
 exact⟨trivial,by decide,⟨kt _ _,by show (bL 32 k.v).length<_;rw[cO];decide⟩,rfl⟩
end Go.Proofs.YtbeeaekepmnfhaaGreatDoor.g1
namespace Go.Proofs.YtbeeaekepmnfhaaGreatDoor.ref01
open Go Go.Eng Go.RowKit Cr
theorem Q9:enters Tryz.prog 23 Tryz.f23:=ek
noncomputable def JL (b:List Int) (g:Int × List Int):St:=aY Tryz.f23.ntmps 64 [(0,.is (.one (.ro (.int .u8) b))),(3,.is (.one (.sl 24 0 0 (b.length:Int).toNat 1))),(9,sI .i64 b.length),(10,sI .i64 g.1)] [(24,[.ints .u8 (b.length:Int).toNat g.2])]
def BW (b:List Int) (k:Nat):List Int:=b.take k++List.replicate (b.length-k) 0
theorem QZ {b:List Int} {k:Nat} (h:k<b.length):(BW b k).set k (b.getD k 0)=BW b (k+1):=by
 unfold BW
 rw[List.set_append_right _ _ (by simp;omega),List.take_succ_eq_append_getElem h]
 have e:b.length-k=(b.length-(k+1))+1:=by omega
 have e2:k-(b.take k).length=0:=by simp;omega
 rw[e2,e,List.replicate_succ,List.set_cons_zero,List.append_assoc]
 simp[h]
abbrev zI:HL [.sl (.int .u8)]->Prop:=fun (b,_)=>List.length b<=281474976710656
abbrev zD:HL [.sl (.int .u8)]->HO [.own (.int .u8)]:=fun (b,_)=>(b,())
theorem Kb:aB Tryz.prog 23 [.sl (.int .u8)] [.own (.int .u8)] aM zI zD:=by
 have hsp:aN Tryz.prog (aF []):=aR
 refine bh (sp:=aF []) Q9 (by decide) (by decide) (by kernel_rfl) ?_
 rintro w M0 ⟨b,⟨⟩⟩
 revert b
 intro (b:List Int) _ hl
 have hl:b.length<=281474976710656:=hl
 show Tr _ _ _ _ _ _ _
 refine aP hsp mixed 3 (JL b (0,List.replicate (b.length:Int).toNat 0)) True ?_ (fun _=>?_)
 ·refine ao (X:=((0<=(b.length:Int)/\(b.length:Int)<=(b.length:Int)/\1*(b.length:Int)<=281474976710656/\(b.length:Int)<=9223372036854775807)/\(JL b (0,List.replicate (b.length:Int).toNat 0)).ah True)) (by kernel_rfl) ?_
  exact⟨⟨by omega,by omega,by omega,by omega⟩,aA trivial⟩
 rw[show List.replicate (b.length:Int).toNat (0:Int)=BW b 0 by simp[BW]]
 refine dB hsp mixed (JL b) (fun k=>((k:Int),BW b k)) b.length (fun g=>(IntKind.i64.wrap (g.1+1),g.2.set g.1.toNat (b.getD g.1.toNat 0))) (JL b) (c:=aI (aJ Tryz.f23) 3) (by kernel_rfl) (by kernel_rfl) (aC (by kernel_rfl) (by kernel_rfl) trivial)
  (fun k hk=>by show (_,_)=(_,_);rw[aQ (by omega),Int.toNat_natCast,QZ hk]) ?_ ?_
 ·intro k hk
  generalize BW b k=xs
  refine ao (X:=((decide ((k:Int)<(b.length:Int))=true->(0<=(k:Int)/\(k:Int)<(b.length:Int))/\(k:Int).toNat<b.length/\(0<=(k:Int)/\(k:Int)<((b.length:Int).toNat:Int))/\(k:Int).toNat<(b.length:Int).toNat/\(JL b (IntKind.i64.wrap ((k:Int)+1),xs.set (k:Int).toNat (b.getD (k:Int).toNat 0))).ah (k<b.length)) /\
   (decide ((k:Int)<(b.length:Int))=false->(JL b ((k:Int),xs)).ah (k=b.length)))) (by kernel_rfl) ?_
  refine⟨fun h=>?_,fun h=>aA (by have:=dk h;omega)⟩
  have hlt:k<b.length:=by have:=dec_lt h;omega
  exact⟨⟨by omega,by omega⟩,by omega,⟨by omega,by omega⟩,by omega,aA hlt⟩
 ·refine bf hsp mixed _ _ ?_
  refine ao (X:=(0+(b.length:Int).toNat<=(b.length:Int).toNat/\(((BW b b.length).take (b.length:Int).toNat,()):List Int × Unit)=zD (b,()))) (by kernel_rfl) ⟨by omega,?_⟩
  simp[BW,zD]
noncomputable def CO:Nat × Eng.Spec:=(23,ar [.sl (.int .u8)] [.own (.int .u8)] zI zD)
end Go.Proofs.YtbeeaekepmnfhaaGreatDoor.ref01
namespace Go.Eng
noncomputable def cr {α:Type} (x:α):α:=Classical.choose (⟨x,rfl⟩:∃ y,y=x)
theorem ay {α:Type} (x:α):cr x=x:=Classical.choose_spec (⟨x,rfl⟩:∃ y,y=x)
end Go.Eng
