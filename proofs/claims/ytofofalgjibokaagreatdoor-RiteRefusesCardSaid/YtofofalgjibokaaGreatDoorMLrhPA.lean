import Derived.Orders
import Derived.Below
import Derived.Laws.Cells
import Derived.Laws.StructEq
import Derived.KernelRfl
import Derived.Laws.BytesArg
import Derived.Laws.MakeOwn
import Derived.Laws.IdiomStrings
import Derived.Laws.Slices
set_option maxRecDepth 100000
noncomputable section
open List(drop length mem_cons mem_map range replicate take)
open Nat(beq ble blt)
open Int(toNat)
theorem aa {p:Prop}(h:p:=by omega):p:=h
theorem au {p:Prop}(h:p:=by simp):p:=h
abbrev az:=@Option.some.injEq
abbrev aB:=@Int.toNat_natCast
abbrev aX:=@List.getD_eq_getElem?_getD
abbrev ah:=@if_neg
abbrev aj:=@if_pos
abbrev bz:=@List.getElem?_eq_getElem
abbrev aQ:=@Bool.and_eq_true
abbrev aV:=@List.take_length
abbrev aI:=@Prod.mk.injEq
abbrev bb:=@List.length_append
abbrev aE:=@Nat.le_refl
abbrev cr:=@List.take_succ_eq_append_getElem
abbrev bQ:=@List.take_of_length_le
abbrev bq:=@List.append_nil
abbrev br:=@List.cons.injEq
abbrev cx:=@Array.getD_eq_getD_getElem?
abbrev bG:=@List.length_cons
abbrev a2:=@Nat.zero_le
abbrev dP:=@List.eq_nil_of_length_eq_zero
abbrev bU:=@List.length_map
abbrev bH:=@Nat.zero_add
abbrev bX:=@decide_eq_true
abbrev cB:=@List.append_assoc
abbrev ct:=@Option.getD_some
abbrev bN:=@Nat.lt_or_ge
abbrev cp:=@decide_eq_false
abbrev eh:=@Array.getElem?_eq_none
abbrev dQ:=@List.getElem?_eq_none
abbrev dR:=@List.take_append_drop
abbrev cX:=@List.length_take
abbrev dd:=@Int.emod_eq_of_lt
abbrev dS:=@List.mem_of_getElem?
abbrev cY:=@Option.map_some
abbrev dw:=@List.getElem?_map
abbrev gj:=@Classical.byContradiction
abbrev de:=@List.map_append
abbrev dx:=@List.getElem_mem
abbrev fa:=@Nat.eq_of_beq_eq_true
abbrev bM:=@and_true
abbrev fb:=@Nat.mul_le_mul_right
abbrev dH:=@List.nil_append
abbrev dp:=@Bool.true_and
abbrev fe:=@Nat.lt_of_lt_of_le
abbrev gR:=@Nat.le_of_ble_eq_true
abbrev dy:=@Int.mul_assoc
abbrev fI:=@List.getElem?_take
abbrev gS:=@List.mem_append_left
abbrev eG:=@List.length_nil
abbrev ij:=@List.mem_append_right
abbrev lR:=@List.take_append_of_le_length
abbrev gk:=@List.mem_singleton
abbrev eH:=@Bool.false_and
abbrev dJ:=@Int.mul_emod
abbrev jQ:=@Int.eq_ofNat_of_zero_le
abbrev eI:=@List.map_cons
abbrev gm:=@List.length_drop
abbrev ik:=@decide_eq_true_iff
abbrev lS:=@List.drop_eq_getElem_cons
abbrev eJ:=@Int.le_of_lt
abbrev fJ:=@List.drop_drop
abbrev fK:=@Bool.and_false
abbrev so:=@Array.getElem?_setIfInBounds_self_of_lt
abbrev m9:=@Int.tmod_eq_emod_of_nonneg
abbrev lT:=@List.getElem?_cons_succ
abbrev il:=@Nat.mod_eq_of_lt
abbrev gT:=@List.drop_zero
abbrev im:=@List.length_set
abbrev iX:=@List.cons_append
abbrev na:=@Int.ediv_ediv_of_nonneg
abbrev jR:=@decide_eq_true_eq
abbrev qe:=@List.drop_append_of_le_length
abbrev oJ:=@List.getElem?_append_left
abbrev ff:=@Nat.add_mul
abbrev nb:=@List.drop_of_length_le
abbrev sq:=@Nat.Coprime.mul_dvd_of_dvd_of_dvd
abbrev iY:=@Nat.min_eq_left
abbrev gn:=@Nat.add_zero
abbrev qf:=@List.getElem?_append_right
abbrev gU:=@Int.mul_comm
abbrev lU:=@Bool.false_eq_true
abbrev jT:=@Option.some.inj
abbrev jU:=@Nat.zero_lt_one
abbrev ng:=@List.mem_of_mem_take
abbrev dT:=@if_false
abbrev nh:=@Array.length_toList
abbrev oL:=@List.length_replicate
abbrev iq:=@Nat.beq_refl
abbrev oM:=@List.length_filter_le
abbrev ni:=@Array.all_eq_true'
abbrev iZ:=@Nat.succ_mul
abbrev ja:=@Nat.le_trans
abbrev sr:=@Int.fdiv_eq_ediv_of_nonneg
abbrev ss:=@Int.tdiv_eq_ediv_of_nonneg
abbrev vo:=@Array.getElem?_setIfInBounds_ne
abbrev oN:=@List.replicate_succ
abbrev qg:=@List.set_append_right
abbrev oO:=@Bool.not_eq_false'
abbrev kF:=@Bool.and_true
abbrev qh:=@List.mem_cons_of_mem
abbrev su:=@List.getElem?_replicate
abbrev lp:=@Bool.eq_iff_iff
abbrev lq:=@Option.map_none
abbrev lr:=@List.take_left'
abbrev lu:=@List.mem_append
abbrev jq:=@Nat.zero_mul
abbrev kx:=@Int.emod_emod
abbrev mQ:=@List.ext_getElem
abbrev mR:=@List.all_eq_true
abbrev wu:=@List.findIdx_lt_length_of_exists
abbrev mS:=@Nat.zero_lt_succ
abbrev lv:=@List.take_take
abbrev qw:=@Array.getElem?_modify
abbrev eA:=@if_true
abbrev oy:=@List.set_cons_zero
abbrev wv:=@Int.mul_le_mul_of_nonneg_right
abbrev oz:=@Bool.not_eq_true'
abbrev tw:=@List.getElem?_cons_zero
abbrev gu:=@Prod.ext
abbrev oA:=@List.drop_append
abbrev mT:=@Int.mul_nonneg
abbrev oC:=@List.drop_length
abbrev jr:=@Array.ext'
abbrev lx:=@List.map_map
abbrev qx:=@Nat.eq_zero_or_pos
abbrev ly:=@Nat.mul_comm
abbrev qy:=@BitVec.toNat_ofNat
abbrev qz:=@List.filter_append
abbrev lz:=@Nat.pow_succ
abbrev oD:=@Bool.or_eq_true
abbrev tx:=@List.getElem?_toArray
abbrev wx:=@Int.add_mul_emod_self_left
abbrev mU:=@List.cons.inj
abbrev qA:=@List.length_range
abbrev tz:=@BitVec.ofInt_natCast
abbrev lA:=@Int.mul_one
abbrev oE:=@Bool.not_false
abbrev qB:=@List.any_eq_true
abbrev tA:=@List.flatten_append
abbrev oF:=@Bool.not_true
abbrev qC:=@Int.emod_nonneg
abbrev tB:=@Int.emod_lt_of_pos
abbrev AV:=@Array.eq_empty_of_size_eq_zero
abbrev lB:=@Nat.blt_eq
abbrev tC:=@Option.toList_some
abbrev AW:=@List.eq_nil_iff_forall_not_mem
abbrev AX:=@Nat.and_two_pow_sub_one_eq_mod
abbrev qD:=@List.range_succ
abbrev mV:=@Nat.one_mul
abbrev AY:=@Int.mul_le_mul_of_nonneg_left
abbrev tD:=@Function.comp_def
abbrev tE:=@List.flatten_cons
abbrev wy:=@Int.emod_add_mul_ediv
abbrev oG:=@Nat.add_comm
abbrev qE:=@List.drop_take
abbrev oH:=@Nat.sub_self
abbrev tF:=@List.range'_succ
abbrev wz:=@Bool.or_eq_false_iff
abbrev tG:=@BitVec.toNat_and
abbrev wA:=@List.findIdx_getElem
abbrev tH:=@List.filter_cons
abbrev AZ:=@Array.toList_setIfInBounds
abbrev qF:=@Nat.le_of_dvd
abbrev wD:=@List.getD_cons_zero
abbrev wE:=@Array.toList_append
abbrev A0:=@Array.getElem?_eq_getElem
abbrev A1:=@Nat.add_mul_mod_self_left
abbrev wF:=@Int.sub_emod_right
abbrev wG:=@Option.isNone_some
abbrev wH:=@Option.isNone_none
abbrev wI:=@Option.toList_none
abbrev wJ:=@List.zip_cons_cons
abbrev A2:=@List.length_erase_of_mem
abbrev ky:=@Iff.rfl
abbrev tJ:=@Nat.mul_le_mul
abbrev tK:=@List.take_zero
abbrev wK:=@Nat.lt_trichotomy
abbrev wL:=@List.getElem?_set
abbrev wM:=@Int.mul_left_comm
abbrev qG:=@Int.mul_add
abbrev qH:=@Int.add_mul
abbrev A3:=@Int.ediv_eq_zero_of_lt
abbrev qI:=@Nat.add_mod
abbrev A4:=@List.drop_eq_nil_of_le
abbrev tL:=@mem_cons
abbrev tM:=@Nat.add_assoc
abbrev wN:=@List.getElem_map
abbrev A5:=@List.length_singleton
abbrev A6:=@List.mem_of_mem_erase
abbrev II:=@List.findIdx_eq_length_of_false
abbrev tN:=@Int.emod_def
abbrev tO:=@Nat.le_of_lt
abbrev A7:=@List.mem_of_mem_drop
abbrev wO:=@Int.natCast_mul
abbrev A8:=@Int.emod_emod_of_dvd
abbrev wP:=@Int.ediv_nonneg
abbrev wQ:=@Nat.not_lt_zero
abbrev tP:=@List.map_nil
abbrev A9:=@Int.toNat_of_nonneg
abbrev Ba:=@List.map_congr_left
abbrev tQ:=@Nat.mul_one
abbrev Bb:=@Int.add_emod_right
abbrev Bc:=@List.getElem_range
abbrev Bd:=@List.mem_cons_self
abbrev Be:=@List.set_cons_succ
abbrev wR:=@Nat.dvd_trans
abbrev Bf:=@List.size_toArray
abbrev Bg:=@Nat.lt_succ_of_lt
abbrev Bh:=@List.foldl_append
abbrev Bi:=@List.nodup_append
abbrev Bj:=@List.ext_getElem?
abbrev Bk:=@List.findIdx_cons
abbrev tR:=@Nat.ble_eq
abbrev tT:=@beq_iff_eq
abbrev wS:=@Nat.le_of_eq
abbrev wT:=@Nat.mul_succ
theorem Odt{p:Prop}[Decidable p](h:decide p=true):p:=of_decide_eq_true h
theorem Odf{p:Prop}[Decidable p](h:decide p=false):Not p:=of_decide_eq_false h
namespace Cr
def gQ (a:Int):Prop:=0<=a/\a<18446744073709551616
def Ws (xs:List Int):Prop:=∀ x∈xs,gQ x
def val:List Int->Int
 | []=>0
 | x::xs=>x+18446744073709551616*val xs
def aT:Nat->Int->List Int
 | 0,_=>[]
 | n+1,N=>N%18446744073709551616::aT n (N/18446744073709551616)
def pw:Nat->Int
 | 0=>1
 | n+1=>18446744073709551616*pw n
theorem vX (n:Nat):0<pw n:=by
 induction n with
 | zero=>decide
 | succ n a=>simp only[pw];omega
theorem rH (n:Nat) (N:Int):(aT n N).length=n:=by
 induction n generalizing N with
 | zero=>rfl
 | succ n a=>simp[aT,a]
theorem jB (n:Nat) (N:Int):Ws (aT n N):=by
 induction n generalizing N with
 | zero=>intro x h;cases h
 | succ n a =>intro x h;simp only[aT,tL] at h;rcases h with rfl|h;exact⟨aa,aa⟩;exact a _ x h
theorem eD {xs:List Int} (h:Ws xs):0<=val xs:=by
 induction xs with
 | nil=>decide
 | cons x xs d =>have a:=h x au;have e:=d (fun y b=>h y (by simp[b]));simp only[val];have:=a.1;omega
theorem zb {a:List Int} (h:Ws a):val a<pw a.length:=by
 induction a with
 | nil=>decide
 | cons x a e =>have b:=h x au;have f:=e (fun y d=>h y (by simp[d]));simp only[val,pw,bG];have:=b.2;omega
theorem tf (n:Nat) (N:Int):val (aT n N)=N%pw n:=by
 induction n generalizing N with
 | zero=>simp[aT,val,pw,Int.emod_one]
 | succ n g =>simp only[aT,val,pw,g];have e:=vX n;rw[<- wy N 18446744073709551616];generalize i:N/18446744073709551616=q;generalize j:N%18446744073709551616=r;have f:0<=r/\r<18446744073709551616:=aa;have a:(r+18446744073709551616*q)%18446744073709551616=r:=aa;have b:(r+18446744073709551616*q)/18446744073709551616=q:=aa;rw[a,b];have c:q=q%pw n+pw n*(q/pw n):=(wy q (pw n)).symm;have h:=qC q (by omega:pw n≠0);have d:=tB q e;generalize k:q%pw n=s at *;generalize q/pw n=t at *;subst c;rw[show r+18446744073709551616*(s+pw n*t)=(r+18446744073709551616*s)+18446744073709551616*pw n*t from by rw[qG,dy];omega];rw[wx];exact (dd aa aa).symm
theorem sQ {xs:List Int} (h:Ws xs):aT xs.length (val xs)=xs:=by
 induction xs with
 | nil=>rfl
 | cons x xs g =>have d:=h x au;have e:=g (fun y f=>h y (by simp[f]));simp only[val,aT,bG];obtain⟨a,b⟩:=d;rw[show (x+18446744073709551616*val xs)%18446744073709551616=x from by omega,show (x+18446744073709551616*val xs)/18446744073709551616=val xs from by omega,e]
theorem val_inj {a b:List Int} (d:Ws a) (e:Ws b) (c:a.length=b.length) (h:val a=val b):a=b:=by rw[<- sQ d,<- sQ e,c,h]
def nD:List Int->List Int->Int->List Int × Int
 | a::us,b::vs,k=>((a-b-k)%18446744073709551616::(nD us vs (if a<b+k then 1 else 0)).1,(nD us vs (if a<b+k then 1 else 0)).2)
 | _,_,k=>([],k)
def pS:List Int->List Int->Int->List Int × Int
 | a::us,b::vs,k=>((a+b+k)%18446744073709551616::(pS us vs ((a+b+k)/18446744073709551616)).1,(pS us vs ((a+b+k)/18446744073709551616)).2)
 | _,_,k=>([],k)
theorem Uv:∀ (e d:List Int) (k:Int),e.length=d.length->Ws e->Ws d->(k=0\/k=1) ->
  (nD e d k).1.length=e.length/\Ws (nD e d k).1/\((nD e d k).2=0\/(nD e d k).2=1)/\val (nD e d k).1=val e-val d-k+pw e.length*(nD e d k).2:=by
 intro e;induction e with
 | nil =>
  intro d k h _ _ j;cases d with
  | nil=>refine⟨rfl,fun x h=>(nomatch h),j,?_⟩;simp[nD,val,pw];omega
  | cons b d=>simp at h
 | cons a e n =>
  intro d k h g i j;cases d with
  | nil=>simp at h
  | cons b d =>obtain⟨o,p⟩:=g a au;obtain⟨q,r⟩:=i b au;obtain⟨g1,g2,l,m⟩:=n d (if a<b+k then 1 else 0) (by simpa using h) (fun y f=>g y (by simp[f])) (fun y f=>i y (by simp[f])) (by split<;>simp);refine⟨by simp[nD,g1],?_,l,?_⟩;intro x hx;simp only[nD,tL] at hx;rcases hx with rfl|hx;exact⟨aa,aa⟩;exact g2 x hx;simp only[nD,val,bG,pw,m];generalize (nD e d (if a<b+k then 1 else 0)).2=c at *;rw[dy];generalize pw e.length*c=pc at *;split<;>omega
theorem R1:∀ (e d:List Int) (k:Int),e.length=d.length->Ws e->Ws d->(k=0\/k=1) ->
  (pS e d k).1.length=e.length/\Ws (pS e d k).1/\((pS e d k).2=0\/(pS e d k).2=1)/\val (pS e d k).1=val e+val d+k-pw e.length*(pS e d k).2:=by
 intro e;induction e with
 | nil =>
  intro d k h _ _ j;cases d with
  | nil=>refine⟨rfl,fun x h=>(nomatch h),j,?_⟩;simp[pS,val,pw]
  | cons b d=>simp at h
 | cons a e n =>
  intro d k h g i j;cases d with
  | nil=>simp at h
  | cons b d =>obtain⟨o,p⟩:=g a au;obtain⟨q,r⟩:=i b au;obtain⟨g1,g2,l,m⟩:=n d ((a+b+k)/18446744073709551616) (by simpa using h) (fun y f=>g y (by simp[f])) (fun y f=>i y (by simp[f])) aa;refine⟨by simp[pS,g1],?_,l,?_⟩;intro x hx;simp only[pS,tL] at hx;rcases hx with rfl|hx;exact⟨aa,aa⟩;exact g2 x hx;simp only[pS,val,bG,pw,m];generalize (pS e d ((a+b+k)/18446744073709551616)).2=c at *;rw[dy];generalize pw e.length*c=pc at *;omega
theorem Pr {us vs:List Int} (f:us.length=vs.length) (c:Ws us) (d:Ws vs):(nD us vs 0).1=aT us.length (val us-val vs)/\(nD us vs 0).2=if val us<val vs then 1 else 0:=by obtain⟨e,b,h3,a⟩:=Uv us vs 0 f c d (.inl rfl);have i:=vX us.length;have j:=eD b;have g:=zb b;rw[e] at g;have k:=eD c;have l:=zb c;have m:=eD d;have h:=zb d;rw[<- f] at h;constructor;refine val_inj b (jB _ _) (by rw[e,rH]) ?_;rw[tf,a];rcases h3 with h3|h3;rw[h3] at a ⊢;rw[dd aa aa];omega;rw[h3] at a ⊢;rw[show val us-val vs-0+pw us.length*1=val us-val vs+pw us.length from by omega];rw[<- Bb,dd aa aa];rcases h3 with h3|h3;rw[h3] at a ⊢;rw[ah aa];rw[h3] at a ⊢;rw[aj aa]
theorem NK {us vs:List Int} (f:us.length=vs.length) (d:Ws us) (e:Ws vs):(pS us vs 0).1=aT us.length (val us+val vs):=by obtain⟨c,a,h3,b⟩:=R1 us vs 0 f d e (.inl rfl);have h:=vX us.length;have i:=eD a;have g:=zb a;rw[c] at g;refine val_inj a (jB _ _) (by rw[c,rH]) ?_;rw[tf,b];rcases h3 with h3|h3;rw[h3] at b ⊢;rw[dd aa aa];omega;rw[h3] at b ⊢;rw[show val us+val vs+0-pw us.length*1=val us+val vs-pw us.length from by omega];rw[<- wF,dd aa aa]
class Md (M:Int) where
 n:Nat
 rinv:Int
 gt:1<M
 IQ:2*M<=pw n
 inv:(pw n*rinv)%M=1
structure Zm (M:Int) where
 v:Int
 nn:0<=v
 lt:v<M
theorem Zm.ext {M:Int} {a b:Zm M} (h:a.v=b.v):a=b:=by cases a;cases b;simp at h;subst h;rfl
instance {M : Int} : DecidableEq (Zm M) := fun a b =>
 if h:a.v=b.v then isTrue (Zm.ext h) else isFalse (fun e=>h (by rw[e]))
section
variable {M:Int} [Md M]
theorem UJ:0<M:=by have:=Md.gt (M:=M);omega
def zm (a:Int):Zm M:=⟨a%M,qC _ (by have:=UJ (M:=M);omega),tB _ UJ⟩
instance : Add (Zm M) := ⟨fun a b => zm (a.v + b.v)⟩
instance : Mul (Zm M) := ⟨fun a b => zm (a.v * b.v)⟩
instance : Neg (Zm M) := ⟨fun a => zm (-a.v)⟩
instance : Sub (Zm M) := ⟨fun a b => zm (a.v - b.v)⟩
instance : Zero (Zm M) := ⟨zm 0⟩
instance : One (Zm M) := ⟨zm 1⟩
theorem Ay (a:Int):(zm a:Zm M).v=a%M:=rfl
theorem P5 (a b:Zm M):(a+b).v=(a.v+b.v)%M:=rfl
theorem xg (a b:Zm M):(a*b).v=(a.v*b.v)%M:=rfl
theorem J1 (a:Zm M):(-a).v=(-a.v)%M:=rfl
theorem RE (a b:Zm M):(a-b).v=(a.v-b.v)%M:=rfl
theorem uv:(0:Zm M).v=0:=by show (0:Int)%M=0;simp
theorem Gl:(1:Zm M).v=1:=by show (1:Int)%M=1;exact dd aa Md.gt
omit [Md M] in
theorem RN (a:Zm M):a.v%M=a.v:=dd a.nn a.lt
theorem jf (a:Zm M):zm a.v=a:=Zm.ext (RN a)
theorem uw (a b:Int):(zm a+zm b:Zm M)=zm (a+b):=Zm.ext (by simp[P5,Ay])
theorem ux (a b:Int):(zm a*zm b:Zm M)=zm (a*b):=Zm.ext (by simp[xg,Ay,<- dJ])
theorem CP (a b:Int):(zm a-zm b:Zm M)=zm (a-b):=Zm.ext (by simp[RE,Ay])
theorem Hh (a:Int):(-zm a:Zm M)=zm (-a):=Zm.ext (by
 rw[J1,Ay,Ay];have h:=tN a M
 rw[show -(a%M)=-a+M*(a/M) by omega,wx])
theorem Zd {a b:Int} (h:a%M=b%M):(zm a:Zm M)=zm b:=Zm.ext h
theorem PW:(zm 0:Zm M)=0:=rfl
def R2:Zm M:=zm (pw (Md.n M))
def XN:Zm M:=zm (Md.rinv M)
theorem RZ:(R2:Zm M)*XN=1:=by unfold R2 XN;rw[ux];exact Zm.ext (by rw[Ay,Gl];exact Md.inv)
def enc (x:Zm M):List Int:=aT (Md.n M) (x*R2).v
def dec (c:List Int):Zm M:=zm (val c)*XN
def Canon (M:Int) [Md M] (d:List Int):Prop:=d.length=Md.n M/\Ws d/\val d<M
theorem rK (a b c:Zm M):a*b*c=a*(b*c):=Zm.ext (by
 simp only[xg]
 rw[dJ,kx,<- dJ,dJ a.v,kx,<- dJ,dy])
theorem xf (a b:Zm M):a*b=b*a:=Zm.ext (by simp only[xg,gU])
theorem zJ (a:Zm M):a*1=a:=Zm.ext (by rw[xg,Gl,lA,RN])
theorem Ze:M<pw (Md.n M):=by have:=Md.IQ (M:=M);have:=UJ (M:=M);omega
theorem rB (x:Zm M):(enc x).length=Md.n M:=rH _ _
theorem e5 (x:Zm M):Ws (enc x):=jB _ _
theorem DB (x:Zm M):val (enc x)=(x*R2).v:=by unfold enc;rw[tf,dd (x*R2).nn (by have:=(x*R2).lt;have:=Ze (M:=M);omega)]
theorem cC (x:Zm M):Canon M (enc x):=⟨rB x,e5 x,by rw[DB];exact (x*R2).lt⟩
theorem dM (x:Zm M):dec (enc x)=x:=by unfold dec;rw[DB,jf,rK,RZ,zJ]
theorem yo (a:List Int):dec a*R2=(zm (val a):Zm M):=by unfold dec;rw[rK,xf XN,RZ,zJ]
theorem N8 {a:List Int} (h:Canon M a):enc (dec a:Zm M)=a:=by obtain⟨d,b,f⟩:=h;unfold enc;rw[yo,Ay,dd (eD b) f,<- d];exact sQ b
theorem N9 {x y:Zm M} (h:enc x=enc y):x=y:=by rw[<- dM x,<- dM y,h]
theorem FJ {x:Zm M} {N:Int} (h:x*R2=zm N):enc x=aT (Md.n M) (N%M):=by unfold enc;rw[h,Ay]
theorem Kp (a b c:Zm M):(a+b)*c=a*c+b*c:=by rw[<- jf a,<- jf b,<- jf c];simp only[uw,ux,qH]
theorem Xh (a b c:Zm M):(a-b)*c=a*c-b*c:=by rw[<- jf a,<- jf b,<- jf c];simp only[CP,ux,Int.sub_mul]
theorem Zw {a b:List Int}:enc (dec a+dec b:Zm M)=aT (Md.n M) ((val a+val b)%M) :=
 FJ (by rw[Kp,yo,yo,uw])
theorem Oa {a b:List Int}:enc (dec a-dec b:Zm M)=aT (Md.n M) ((val a-val b)%M) :=
 FJ (by rw[Xh,yo,yo,CP])
theorem Zx {a b:List Int}:enc (dec a*dec b:Zm M)=aT (Md.n M) (val a*val b*Md.rinv M%M) :=
 FJ (by
  rw[rK,yo,xf (dec a)];show zm (val b)*(zm (val a)*zm (Md.rinv M))=_
  rw[ux,ux,<- dy,gU (val b)])
theorem Lx (n:Nat):aT n 0=replicate n 0:=by
 induction n with
 | zero=>rfl
 | succ n a=>simp[aT,a,oN]
theorem KH:enc (0:Zm M)=replicate (Md.n M) 0:=by unfold enc;rw[show (0:Zm M)*R2=0 from Zm.ext (by rw[xg,uv];simp),uv,Lx]
theorem acd {N:Int}:enc (zm N:Zm M)=aT (Md.n M) (N*pw (Md.n M)%M) :=
 FJ (by unfold R2;rw[ux])
end
end Cr
theorem ae {p:Prop}(h:p:=by decide):p:=h
namespace Cr
def Mp:Int:=4002409555221667393417789825735904156556882819939007885332058136124031650490837864442687629129015664037894272559787
def Mr:Int:=52435875175126190479447740508185965837690552500527637822603658699938581184513
instance : Md Mp where
 n:=6
 rinv:=3231460744492646417066832100176244795738767926513225105051837195607029917124509527734802654356338138714468589979680
 gt:=ae
 IQ:=ae
 inv:=ae
instance : Md Mr where
 n:=4
 rinv:=12549076656233958353659347336803947287922716146853412054870763148006372261952
 gt:=ae
 IQ:=ae
 inv:=ae
abbrev Fp:=Zm Mp
abbrev Fr:=Zm Mr
abbrev Hi (a:Int):Fp:=zm a
abbrev jj (a:Int):Fr:=zm a
end Cr
open Go Go.RowKit Cr
namespace Go.Eng
inductive Kd where
 | int (k:IntKind)
 | bool
 | str
 | fp
 | fr
 | pair (a b:Kd)
 | arr (n:Nat) (e:Kd)
 | sl (e:Kd)
 | ptr (e:Kd)
 | fn (f:Nat)
 | cap (c e:Kd)
 | pq
 | mp
abbrev aA:Kd->Type
 | .int _=>Int
 | .bool=>Bool
 | .str=>ByteArray
 | .fp=>Fp
 | .fr=>Fr
 | .pair a b=>aA a × aA b
 | .arr _ e=>List (aA e)
 | .sl e=>List (aA e)
 | .ptr e=>aA e
 | .fn _=>Unit
 | .cap c e=>aA c × aA e
 | .pq=>Bool
 | .mp=>Unit
def width:Kd->Nat
 | .fp=>6
 | .fr=>4
 | .pair a b=>width a+width b
 | .arr n e=>n*width e
 | _=>1
def Kd.eq?:(a b:Kd)->Option (PLift (a=b))
 | .int k,.int l=>if h:k=l then some ⟨h▸rfl⟩ else none
 | .bool,.bool=>some ⟨rfl⟩
 | .str,.str=>some ⟨rfl⟩
 | .fp,.fp=>some ⟨rfl⟩
 | .fr,.fr=>some ⟨rfl⟩
 | .pair a b,.pair g i=>match a.eq? g,b.eq? i with
  | some ⟨h⟩,some ⟨d⟩=>some ⟨h▸d▸rfl⟩
  | _,_=>none
 | .arr n e,.arr m c=>if h:n=m then match e.eq? c with
  | some ⟨d⟩=>some ⟨h▸d▸rfl⟩
  | none=>none
  else none
 | .sl e,.sl c=>match e.eq? c with
  | some ⟨h⟩=>some ⟨h▸rfl⟩
  | none=>none
 | .ptr e,.ptr c=>match e.eq? c with
  | some ⟨h⟩=>some ⟨h▸rfl⟩
  | none=>none
 | .fn f,.fn j=>if h:f=j then some ⟨h▸rfl⟩ else none
 | .cap a b,.cap g i=>match a.eq? g,b.eq? i with
  | some ⟨h⟩,some ⟨d⟩=>some ⟨h▸d▸rfl⟩
  | _,_=>none
 | .pq,.pq=>some ⟨rfl⟩
 | .mp,.mp=>some ⟨rfl⟩
 | _,_=>none
def zeroOf:(e:Kd)->aA e
 | .int _=>(0:Int)
 | .bool=>false
 | .str=>ByteArray.empty
 | .fp=>(0:Fp)
 | .fr=>(0:Fr)
 | .pair a b=>(zeroOf a,zeroOf b)
 | .arr n e=>replicate n (zeroOf e)
 | .sl _=>[]
 | .ptr e=>zeroOf e
 | .fn _=>()
 | .cap c e=>(zeroOf c,zeroOf e)
 | .pq=>false
 | .mp=>()
abbrev Mem:=Nat->Option (List Value)
def Mem.le (M a:Mem):Prop:=∀ b l,M b=some l->a b=some l
def dY {α:Type} (R:α->List Value->Prop):List α->List Value->Prop
 | [],a=>a=[]
 | x::xs,a=>∃ b c,a=b++c/\R x b/\dY R xs c
def mo {d:Type} (R:d->List Value->Prop) (c:Nat) (M:Mem) (b o:Nat) (a:List d):Prop :=
 ∃ l,(l≠[]->M b=some l)/\o+a.length*c<=l.length/\dY R a ((l.drop o).take (a.length*c))
def Rd (M:Mem):(e:Kd)->aA e->List Value->Prop
 | .int k,x,h=>h=[Value.int k x]
 | .bool,x,h=>h=[Value.bool x]
 | .str,x,h=>h=[Value.string x]
 | .fp,x,h=>h=(enc (M:=Mp) x).map (Value.int .u64)
 | .fr,x,h=>h=(enc (M:=Mr) x).map (Value.int .u64)
 | .pair a b,x,h=>∃ m q,h=m++q/\Rd M a x.1 m/\Rd M b x.2 q
 | .arr n e,xs,h=>xs.length=n/\dY (Rd M e) xs h
 | .sl e,xs,h=>(xs=[]/\∃ a j,h=[Value.slice a 0 j]/\(a=none->j=0)) \/
  ∃ b o j,h=[Value.slice (some ⟨b,o,none⟩) xs.length j]/\xs.length<=j/\mo (Rd M e) (width e) M b o xs
 | .ptr e,x,h=>∃ b o,h=[Value.pointer (some ⟨b,o,none⟩)]/\mo (Rd M e) (width e) M b o [x]
 | .fn f,_,h=>h=[Value.func (.func f) ⟨[]⟩ ⟨[]⟩]
 | .cap c e,x,h=>∃ g l b o,h=[Value.func g ⟨[]⟩ ⟨l++[Value.pointer (some ⟨b,o,none⟩)]⟩]/\Rd M c x.1 [Value.func g ⟨[]⟩ ⟨l⟩]/\mo (Rd M e) (width e) M b o [x.2]
 | .pq,x,h=>∃ p,h=[Value.pointer p]/\p.isSome=x
 | .mp,_,h=>∃ b,h=[Value.map (some b)]/\M b=some []
theorem eg {f:Type} {R d:f->List Value->Prop} (h:∀ x a,R x a->d x a):∀ {b:List f} {a:List Value},dY R b a->dY d b a:=by
 intro b;induction b with
 | nil=>intro a j;exact j
 | cons x b k=>intro a ⟨l,m,e,g,i⟩;exact⟨l,m,e,h _ _ g,k i⟩
theorem c9 {M E:Mem} (w:Mem.le M E):∀ {e:Kd} {x:aA e} {d:List Value},Rd M e x d->Rd E e x d:=by
 intro e;induction e with
 | int k=>intro x d h;exact h
 | bool=>intro x d h;exact h
 | str=>intro x d h;exact h
 | fp=>intro x d h;exact h
 | fr=>intro x d h;exact h
 | pair a b y A=>intro x d ⟨F,G,e,i,j⟩;exact⟨F,G,e,y i,A j⟩
 | arr n e u=>intro x d ⟨i,j⟩;exact⟨i,eg (fun _ _=>u) j⟩
 | sl e u =>intro x d h;rcases h with h|⟨b,o,cap,i,j,l,p,r,s⟩;exact .inl h;exact .inr ⟨b,o,cap,i,j,l,fun t=>w _ _ (p t),r,eg (fun _ _=>u) s⟩
 | ptr e u=>intro x d ⟨b,o,i,l,p,r,s⟩;exact⟨b,o,i,l,fun t=>w _ _ (p t),r,eg (fun _ _=>u) s⟩
 | fn f=>intro x d h;exact h
 | cap c e C D=>intro x d ⟨g,m,b,o,i,j,l,p,r,s⟩;exact⟨g,m,b,o,i,C j,l,fun t=>w _ _ (p t),r,eg (fun _ _=>D) s⟩
 | pq=>intro x d h;exact h
 | mp=>intro x d ⟨b,i,j⟩;exact⟨b,i,w _ _ j⟩
theorem fY {d:Type} {R:d->List Value->Prop} {c:Nat} (h:∀ x a,R x a->a.length=c):∀ {xs:List d} {a:List Value},dY R xs a->a.length=xs.length*c:=by
 intro xs;induction xs with
 | nil=>intro a j;have e:a=[]:=j;subst e;simp
 | cons x xs k=>intro a ⟨l,m,e,f,g⟩;subst e;simp[h _ _ f,k g,iZ];omega
theorem bV {M:Mem}:∀ {e:Kd} {x:aA e} {d:List Value},Rd M e x d->d.length=width e:=by
 intro e;induction e with
 | int k=>intro x d h;have e:d=_:=h;subst e;rfl
 | bool=>intro x d h;have e:d=_:=h;subst e;rfl
 | str=>intro x d h;have e:d=_:=h;subst e;rfl
 | fp=>intro x d h;have e:d=_:=h;subst e;rw[bU];exact rB (M:=Mp) x
 | fr=>intro x d h;have e:d=_:=h;subst e;rw[bU];exact rB (M:=Mr) x
 | pair a b q r=>intro x d ⟨y,z,e,j,l⟩;subst e;simp[q j,r l,width]
 | arr n e m=>intro x d ⟨j,l⟩;rw[fY (fun _ _=>m) l,j];rfl
 | sl e m =>intro x d h;rcases h with ⟨_,a,cap,e,_⟩|⟨b,o,cap,j,_⟩;subst e;rfl;subst j;rfl
 | ptr e m=>intro x d ⟨b,o,j,_⟩;subst j;rfl
 | fn f=>intro x d h;have e:d=_:=h;subst e;rfl
 | cap c e t u=>intro x d ⟨g,s,b,o,j,_⟩;subst j;rfl
 | pq=>intro x d ⟨p,j,_⟩;subst j;rfl
 | mp=>intro x d ⟨b,j,_⟩;subst j;rfl
theorem yd {d:Type} {R:d->List Value->Prop} {p:Value->Prop} (h:∀ x a,R x a->∀ v∈a,p v):∀ {xs:List d} {a:List Value},dY R xs a->∀ v∈a,p v:=by
 intro xs;induction xs with
 | nil=>intro a j;have e:a=[]:=j;subst e;intro v c;cases c
 | cons x xs k =>intro a ⟨l,m,e,f,i⟩ v c;subst e;rcases List.mem_append.1 c with g|g;exact h _ _ f v g;exact k i v g
theorem vm {M:Mem}:∀ {e:Kd} {x:aA e} {i:List Value},Rd M e x i->∀ v∈i,v.oneCell'=true:=by
 intro e;induction e with
 | int k=>intro x i h;have e:i=_:=h;subst e;intro v d;simp at d;subst d;rfl
 | bool=>intro x i h;have e:i=_:=h;subst e;intro v d;simp at d;subst d;rfl
 | str=>intro x i h;have e:i=_:=h;subst e;intro v d;simp at d;subst d;rfl
 | fp=>intro x i h;have e:i=_:=h;subst e;intro v d;obtain⟨y,_,rfl⟩:=mem_map.1 d;rfl
 | fr=>intro x i h;have e:i=_:=h;subst e;intro v d;obtain⟨y,_,rfl⟩:=mem_map.1 d;rfl
 | pair a b q r =>intro x i ⟨z,A,e,j,l⟩ v d;subst e;rcases List.mem_append.1 d with g|g;exact q j v g;exact r l v g
 | arr n e m=>intro x i ⟨j,l⟩;exact yd (fun _ _=>m) l
 | sl e m =>intro x i h;rcases h with ⟨_,a,cap,e,_⟩|⟨b,o,cap,j,_⟩;subst e;intro v d;simp at d;subst d;rfl;subst j;intro v d;simp at d;subst d;rfl
 | ptr e m=>intro x i ⟨b,o,j,_⟩;subst j;intro v d;simp at d;subst d;rfl
 | fn f=>intro x i h;have e:i=_:=h;subst e;intro v d;simp at d;subst d;rfl
 | cap c e t u=>intro x i ⟨g,s,b,o,j,_⟩;subst j;intro v d;simp at d;subst d;rfl
 | pq=>intro x i ⟨p,j,_⟩;subst j;intro v d;simp at d;subst d;rfl
 | mp=>intro x i ⟨b,j,_⟩;subst j;intro v d;simp at d;subst d;rfl
theorem ze {f:Type} {R:f->List Value->Prop}:∀ {xs c:List f} {b a:List Value},dY R xs b->dY R c a->dY R (xs++c) (b++a):=by
 intro xs;induction xs with
 | nil=>intro c b a h d;have e:b=[]:=h;subst e;exact d
 | cons x xs j=>intro c b a ⟨k,l,e,g,i⟩ d;subst e;exact⟨k,l++a,au,g,j i d⟩
theorem gX {j:Type} {R:j->List Value->Prop} {c:Nat} (h:∀ x a,R x a->a.length=c):∀ (n:Nat) {xs:List j} {a:List Value},dY R xs a ->
  dY R (xs.take n) (a.take (n*c))/\dY R (xs.drop n) (a.drop (n*c)):=by
 intro n;induction n with
 | zero=>intro xs a d;rw[jq];exact⟨rfl,d⟩
 | succ n l =>
  intro xs a d;cases xs with
  | nil=>have e:a=[]:=d;subst e;rw[List.take_nil,List.drop_nil,List.take_nil,List.drop_nil];exact⟨rfl,rfl⟩
  | cons x xs =>obtain⟨m,o,e,f,k⟩:=d;have g:=h _ _ f;subst e;obtain⟨g1,g2⟩:=l k;rw[iZ,oG (n*c),<- g,List.take_length_add_append,List.drop_length_add_append];rw[<- g] at g1 g2;exact⟨⟨m,_,rfl,f,g1⟩,g2⟩
theorem ye {f:Type} {R:f->List Value->Prop} {c:Nat} (h:∀ x a,R x a->a.length=c) {b:List f} {a:List Value} (l:dY R b a) {i:Nat} (k:i<b.length) (d:f) :
  R (b.getD i d) ((a.drop (i*c)).take c):=by
 have j:=(gX h i l).2;rw[lS k] at j;obtain⟨o,p,e,g,m⟩:=j;rw[e,<- h _ _ g];simp[bz k];exact g
theorem pn {b:Type} {R:b->List Value->Prop} {x:b} {a:List Value} (h:R x a):dY R [x] a:=⟨a,[],au,h,rfl⟩
theorem nU {b:Type} {R:b->List Value->Prop} {x:b} {a:List Value} (h:dY R [x] a):R x a:=by obtain⟨i,g,e,d,f⟩:=h;have c:g=[]:=f;subst c;subst e;simpa using d
theorem NH {k:Type} {R:k->List Value->Prop} {c:Nat} (h:∀ x a,R x a->a.length=c) {xs d:List k} {a e:List Value} (g:dY R xs a) (j:dY R d e) (i:Nat) :
  dY R (xs.take i++(d++xs.drop (i+d.length))) (a.take (i*c)++(e++a.drop (i*c+e.length))):=by
 have m:=fY h j;have l:=(gX h i g).1;have f:=(gX h (i+d.length) g).2;rw[ff,<- m] at f;exact ze l (ze j f)
theorem uZ {M:Mem} {k:IntKind}:∀ {xs:List Int} {a:List Value},dY (Rd M (.int k)) xs a↔a=xs.map (Value.int k):=by
 intro xs;induction xs with
 | nil=>intro a;exact ky
 | cons x xs c =>intro a;constructor;rintro⟨g,h,e,f,b⟩;have d:g=[Value.int k x]:=f;rw[c] at b;subst e d b;rfl;rintro rfl;exact⟨[Value.int k x],xs.map (Value.int k),rfl,rfl,c.2 rfl⟩
def iA:Kd->List Value
 | .int k=>[.int k 0]
 | .bool=>[.bool false]
 | .str=>[.string ByteArray.empty]
 | .fp=>replicate 6 (.int .u64 0)
 | .fr=>replicate 4 (.int .u64 0)
 | .pair a b=>iA a++iA b
 | .arr n e=>(replicate n (iA e)).flatten
 | .sl _=>[.slice none 0 0]
 | .fn f=>[.func (.func f) ⟨[]⟩ ⟨[]⟩]
 | _=>[.pointer none]
def zk:Kd->Bool
 | .pair a b=>zk a&&zk b
 | .arr _ e=>zk e
 | .ptr _ | .fn _ | .cap _ _ | .mp=>false
 | _=>true
theorem yf {M:Mem}:∀ {e:Kd},zk e=true->Rd M e (zeroOf e) (iA e):=by
 intro e;induction e with
 | int k=>intro _;exact rfl
 | bool=>intro _;exact rfl
 | str=>intro _;exact rfl
 | fp=>intro _;show _=(enc (M:=Mp) (0:Fp)).map _;rw[KH];rfl
 | fr=>intro _;show _=(enc (M:=Mr) (0:Fr)).map _;rw[KH];rfl
 | pair a b g i=>intro h;simp only[zk,aQ] at h;exact⟨_,_,rfl,g h.1,i h.2⟩
 | arr n e d =>
  intro l;have d:=d l;clear l;refine⟨oL,?_⟩;show dY _ (replicate n (zeroOf e)) (replicate n (iA e)).flatten;induction n with
  | zero=>exact rfl
  | succ n j=>exact⟨_,_,rfl,d,j⟩
 | sl e d=>intro _;exact .inl ⟨rfl,none,0,rfl,fun _=>rfl⟩
 | ptr e d=>intro h;simp[zk] at h
 | fn f=>intro h;simp[zk] at h
 | cap c e m o=>intro h;simp[zk] at h
 | pq=>intro _;exact⟨none,rfl,rfl⟩
 | mp=>intro h;simp[zk] at h
def B3:Value->Value->Bool
 | .int k n,.int c m=>decide (k=c)&&decide (n=0)&&decide (m=0)
 | .bool false,.bool false=>true
 | .string a,.string b=>beq a.size 0&&beq b.size 0
 | .slice none 0 0,.slice none 0 0=>true
 | _,_=>false
def nt:List Value->List Value->Bool
 | [],[]=>true
 | a::c,b::d=>B3 a b&&nt c d
 | _,_=>false
theorem JB {a:ByteArray} (h:a.size=0):a=ByteArray.empty:=by
 cases a with
 | mk d =>have:d.size=0:=h;have:=AV this;subst this;rfl
theorem Lp {a b:Value} (h:B3 a b=true):a=b:=by unfold B3 at h;split at h;simp at h;obtain⟨⟨rfl,rfl⟩,rfl⟩:=h;rfl;rfl;simp only[aQ] at h;rw[JB (fa h.1),JB (fa h.2)];rfl;cases h
theorem AI:∀ {a b:List Value},nt a b=true->a=b:=by
 intro a;induction a with
 | nil=>intro b h;cases b with
  | nil=>rfl
  | cons _ _=>simp[nt] at h
 | cons x a c=>intro b h;cases b with
  | nil=>simp[nt] at h
  | cons y b=>simp[nt] at h;rw[Lp h.1,c h.2]
def p8:Kd->Bool
 | .int _ | .fp | .fr=>true
 | .pair a b=>p8 a&&p8 b
 | .arr _ e=>p8 e
 | _=>false
abbrev IV:=IntKind × Int
def iv (p:IV):Value:=.int p.1 p.2
def fl:(e:Kd)->aA e->List IV
 | .int k,x=>[(k,x)]
 | .fp,x=>(enc (M:=Mp) x).map fun a=>(.u64,a)
 | .fr,x=>(enc (M:=Mr) x).map fun a=>(.u64,a)
 | .pair a b,x=>fl a x.1++fl b x.2
 | .arr _ e,c=>(c.map (fl e)).flatten
 | _,_=>[]
def kl:Kd->List IntKind
 | .int k=>[k]
 | .fp=>replicate 6 .u64
 | .fr=>replicate 4 .u64
 | .pair a b=>kl a++kl b
 | .arr n e=>(replicate n (kl e)).flatten
 | _=>[]
theorem CS {M:Mem}:∀ {e:Kd} {x:aA e} {c:List Value},p8 e=true->Rd M e x c->c=(fl e x).map iv/\(fl e x).map Prod.fst=kl e:=by
 intro e;induction e with
 | int y=>intro x c _ h;exact⟨h,rfl⟩
 | fp =>intro x c _ h;have g:=bV (e:=.fp) h;have h:c=(enc (M:=Mp) x).map (Value.int .u64):=h;rw[h,bU] at g;refine⟨by rw[h];simp only[fl,lx];rfl,?_⟩;simp only[fl,lx,tD,List.map_const',g,kl,width]
 | fr =>intro x c _ h;have g:=bV (e:=.fr) h;have h:c=(enc (M:=Mr) x).map (Value.int .u64):=h;rw[h,bU] at g;refine⟨by rw[h];simp only[fl,lx];rfl,?_⟩;simp only[fl,lx,tD,List.map_const',g,kl,width]
 | pair a b i j =>intro x c d ⟨w,p,e,k,l⟩;simp[p8] at d;rw[e,(i d.1 k).1,(j d.2 l).1];exact⟨by simp[fl],by simp[fl,kl,(i d.1 k).2,(j d.2 l).2]⟩
 | arr n e q =>
  intro f c d ⟨k,l⟩;have d:p8 e=true:=d;have m:∀ (f:List (aA e)) (c:List Value),dY (Rd M e) f c->c=((f.map (fl e)).flatten).map iv/\((f.map (fl e)).flatten).map Prod.fst=(replicate f.length (kl e)).flatten:=by
   intro f;induction f with
   | nil=>intro c h;exact⟨h,rfl⟩
   | cons x f o =>intro c ⟨w,p,e,g1,g2⟩;obtain⟨r,s⟩:=q d g1;obtain⟨t,u⟩:=o p g2;refine⟨by rw[e,r,t];simp,?_⟩;rw[eI,tE,de,s,u,bG,oN,tE]
  have:=m f c l;rw[show length (α:=aA e) f=n from k] at this;exact this
 | _=>intro x c d;simp[p8] at d
theorem acq {M:Mem}:∀ {e:Kd} {x y:aA e} {f d:List Value},p8 e=true->Rd M e x f->Rd M e y d->fl e x=fl e y->x=y:=by
 intro e;have j:∀ {l m:List Int},l.map (fun a=>(IntKind.u64,a))=m.map (fun a=>(IntKind.u64,a))->l=m:=fun h=>List.map_inj_right (fun _ _ h=>(Prod.mk.inj h).2) |>.1 h;induction e with
 | int Q=>intro x y f d c _ _ h;simp[fl] at h;exact h
 | fp=>intro x y f d c _ _ h;exact N9 (M:=Mp) (j h)
 | fr=>intro x y f d c _ _ h;exact N9 (M:=Mr) (j h)
 | pair a b t u =>intro x y f d c ⟨O,D,E,o,s⟩ ⟨N,C,F,g1,g2⟩ h;simp[p8] at c;have k:=congrArg length ((CS c.1 o).2.trans (CS c.1 g1).2.symm);simp only[bU] at k;simp only[fl] at h;obtain⟨q,z⟩:=List.append_inj h k;exact gu (t c.1 o g1 q) (u c.2 s g2 z)
 | arr n e H =>
  intro i g f d c ⟨o,s⟩ ⟨g1,g2⟩ h;have c:p8 e=true:=c;have r:∀ (i g:List (aA e)) (f d:List Value),dY (Rd M e) i f->dY (Rd M e) g d->i.length=g.length->(i.map (fl e)).flatten=(g.map (fl e)).flatten->i=g:=by
   intro i;induction i with
   | nil=>intro g f d _ _ p _;cases g with
    | nil=>rfl
    | cons _ _=>simp at p
   | cons x i w =>
    intro g f d ⟨O,D,E,q,z⟩ G p h;cases g with
    | nil=>simp at p
    | cons y g =>obtain⟨N,C,F,A,L⟩:=G;have k:=congrArg length ((CS c q).2.trans (CS c A).2.symm);simp only[bU] at k;simp only[eI,tE] at h;obtain⟨I,K⟩:=List.append_inj h k;rw[H c q A I,w g D C z L (by simpa using p) K]
  exact r i g f d s g2 (by rw[o,g1]) h
 | _=>intro x y f d c;simp[p8] at c
def KO {a:Type} (f:a->a->Bool):List a->List a->Bool
 | [],[]=>true
 | x::b,y::c=>f x y&&KO f b c
 | _,_=>false
def mC:(e:Kd)->aA e->aA e->Bool
 | .int _,x,y=>decide ((x:Int)=y)
 | .bool,x,y=>decide ((x:Bool)=y)
 | .str,x,y=>decide ((x:ByteArray)=y)
 | .fp,x,y=>decide ((x:Fp)=y)
 | .fr,x,y=>decide ((x:Fr)=y)
 | .pair a b,x,y=>mC a x.1 y.1&&mC b x.2 y.2
 | .arr _ e,d,f=>KO (mC e) d f
 | .sl e,d,f=>KO (mC e) d f
 | .ptr e,x,y=>mC e x y
 | .fn _,_,_=>true
 | .cap c e,x,y=>mC c x.1 y.1&&mC e x.2 y.2
 | .pq,x,y=>decide ((x:Bool)=y)
 | .mp,_,_=>true
theorem Oe {c:Type} {f:c->c->Bool} (h:∀ x y,f x y=true↔x=y):∀ (b a:List c),KO f b a=true↔b=a:=by
 intro b;induction b with
 | nil=>intro a;cases a<;>simp[KO]
 | cons x b d=>intro a;cases a with
  | nil=>simp[KO]
  | cons y a=>simp[KO,h,d]
theorem CU:∀ {e:Kd} (x y:aA e),mC e x y=true↔x=y:=by
 intro e;induction e with
 | int k=>intro x y;exact ik
 | bool=>intro x y;exact ik
 | str=>intro x y;exact ik
 | fp=>intro x y;exact ik
 | fr=>intro x y;exact ik
 | pair a b j l=>intro x y;simp only[mC,aQ,j,l];exact⟨fun ⟨g,i⟩=>gu g i,fun h=>by rw[h];exact⟨rfl,rfl⟩⟩
 | arr n e d=>intro x y;exact Oe d x y
 | sl e d=>intro x y;exact Oe d x y
 | ptr e d=>intro x y;exact d x y
 | fn f=>intro x y;exact⟨fun _=>rfl,fun _=>rfl⟩
 | cap c e m o=>intro x y;simp only[mC,aQ,m,o];exact⟨fun ⟨g,i⟩=>gu g i,fun h=>by rw[h];exact⟨rfl,rfl⟩⟩
 | pq=>intro x y;exact ik
 | mp=>intro x y;exact⟨fun _=>rfl,fun _=>rfl⟩
def Wd (f:TypeId->Option Kd):List Field->Option Kd
 | []=>none
 | [x]=>match f x.type with
  | some (.arr 6 (.int .u64))=>some .fp
  | some (.arr 4 (.int .u64))=>some .fr
  | _=>none
 | x::r=>match f x.type,kdTail f r with
  | some a,some b=>some (.pair a b)
  | _,_=>none
where
 kdTail (f:TypeId->Option Kd):List Field->Option Kd
  | []=>none
  | [x]=>f x.type
  | x::r=>match f x.type,kdTail f r with
   | some a,some b=>some (.pair a b)
   | _,_=>none
def EB (P:Program):Nat->TypeId->Option Kd
 | 0,_=>none
 | d+1,t=>match P.underlying t with
  | some (.int k)=>some (.int k)
  | some .bool=>some .bool
  | some .string=>some .str
  | some (.array n e)=>match EB P d e with
   | some a=>some (.arr n a)
   | none=>none
  | some (.slice e)=>match EB P d e with
   | some a=>some (.sl a)
   | none=>none
  | some (.struct b)=>Wd (EB P d) b.toList
  | _=>none
inductive Cell where
 | v (x:Value)
 | T
 | F
 | ints (k:IntKind) (n:Nat) (xs:List Int)
 | row (e:Kd) (n:Nat) (xs:List (aA e))
 | ptr (id off:Nat)
 | pe (id base i c:Nat)
 | sl (id base off len c:Nat)
 | ro (e:Kd) (xs:List (aA e))
 | rp (e:Kd) (xs:List (aA e)) (i off:Nat)
 | fv (e:Kd) (x:aA e)
 | clo (f:Nat) (ids:List Nat)
 | rn (e:Kd) (xs:List (aA e))
 | junk
inductive TV where
 | one (c:Cell)
 | agg (cs:List Cell)
inductive SV where
 | is (x:TV)
 | tup (l:List TV)
 | undef
 | junk
structure ay where
 m:Nat->Option Nat
 n:Nat->Nat
 M:Mem
instance : CoeFun ay (fun _ => Nat -> Option Nat) := ⟨ay.m⟩
def Cell.size:Cell->Nat
 | .ints _ n _=>n
 | .row e n _=>n*width e
 | _=>1
def iB (d:ay):List Nat->List Value->Prop
 | [],a=>a=[]
 | i::l,a=>∃ b c,d i=some b/\iB d l c/\a=c++[.pointer (some ⟨b,0,none⟩)]
def Cell.rel (ρ:ay):Cell->List Value->Prop
 | .v x,d=>d=[x]/\x.oneCell'=true
 | .T,d=>d=[.bool true]
 | .F,d=>d=[.bool false]
 | .ints k n g,d=>g.length=n/\d=g.map (Value.int k)
 | .row e n g,d=>g.length=n/\dY (Rd ρ.M e) g d
 | .ptr id off,d=>∃ b,ρ id=some b/\d=[.pointer (some ⟨b,off,none⟩)]
 | .pe id base i c,d=>∃ b,ρ id=some b/\d=[.pointer (some ⟨b,base+i*c,none⟩)]
 | .sl id base off len c,d=>(len=0/\d=[.slice none 0 0]) \/
  ∃ b o h,ρ id=some b/\len<=h/\(o=base+off*c\/h=0)/\o+h*c<=ρ.n id/\d=[.slice (some ⟨b,o,none⟩) len h]
 | .ro e g,d=>Rd ρ.M (.sl e) g d
 | .rp e g i off,d=>∃ b o,mo (Rd ρ.M e) (width e) ρ.M b o g/\i<g.length/\d=[.pointer (some ⟨b,o+(i*width e+off),none⟩)]
 | .fv e x,d=>Rd ρ.M e x d/\d.length=1
 | .clo f l,d=>∃ j,iB ρ l j/\d=[.func (.func f) ⟨[]⟩ ⟨j⟩]
 | .rn e g,d=>Rd ρ.M (.sl e) g d/\∃ a n c,d=[.slice (some a) n c]
 | .junk,d=>∃ x,d=[x]/\x.oneCell'=true
def ax (ρ:ay):List Cell->List Value->Prop
 | [],a=>a=[]
 | c::cs,a=>∃ b d,a=b++d/\c.rel ρ b/\ax ρ cs d
def cy:List Cell->Nat
 | []=>0
 | c::a=>c.size+cy a
def TV.cells:TV->List Cell
 | .one c=>[c]
 | .agg a=>a
def TV.rel (ρ:ay):TV->Value->Prop
 | .one c,v=>c.rel ρ [v]
 | .agg a,v=>∃ l,v=.agg ⟨l⟩/\ax ρ a l
def eM (c:ay):List TV->List Value->Prop
 | [],a=>a=[]
 | t::d,a=>∃ x b,a=x::b/\t.rel c x/\eM c d b
def SV.rel (ρ:ay):SV->Value->Prop
 | .is x,v=>x.rel ρ v
 | .tup l,v=>∃ a,v=.tuple ⟨a⟩/\eM ρ l a
 | .undef,v=>v=Go.undef
 | .junk,_=>True
structure ay.le (ρ ρ':ay):Prop where
 id:∀ id b,ρ id=some b->ρ' id=some b/\ρ'.n id=ρ.n id
 mem:Mem.le ρ.M ρ'.M
theorem Mem.le_refl (M:Mem):Mem.le M M:=fun _ _ h=>h
theorem ay.le_refl (ρ:ay):ay.le ρ ρ:=⟨fun _ _ h=>⟨h,rfl⟩,Mem.le_refl _⟩
theorem ay.le_trans {a b c:ay} (h:ay.le a b) (k:ay.le b c):ay.le a c :=
 ⟨fun _ _ e=>⟨(k.id _ _ (h.id _ _ e).1).1,((k.id _ _ (h.id _ _ e).1).2).trans (h.id _ _ e).2⟩,fun _ _ e=>k.mem _ _ (h.mem _ _ e)⟩
theorem kg {e:Kd} {M a:Mem} (h:Mem.le M a) {b o:Nat} {c:List (aA e)} (j:mo (Rd M e) (width e) M b o c):mo (Rd a e) (width e) a b o c:=by obtain⟨l,d,f,g⟩:=j;exact⟨l,fun i=>h _ _ (d i),f,eg (fun _ _=>c9 h) g⟩
theorem Kz {d a:ay} (h:ay.le d a):∀ {l:List Nat} {c:List Value},iB d l c->iB a l c:=by
 intro l;induction l with
 | nil=>intro c k;exact k
 | cons i l m=>intro c ⟨b,n,f,g,j⟩;exact⟨b,n,(h.id _ _ f).1,m g,j⟩
theorem Cell.fi {ρ ρ':ay} (h:ay.le ρ ρ') {c:Cell} {s:List Value} (a:c.rel ρ s):c.rel ρ' s:=by
 cases c with
 | ptr id p=>obtain⟨b,d,e⟩:=a;exact⟨b,(h.id _ _ d).1,e⟩
 | pe id g i c=>obtain⟨b,d,e⟩:=a;exact⟨b,(h.id _ _ d).1,e⟩
 | sl id g p len c =>rcases a with a|⟨b,o,r,d,j,m,t,e⟩;exact .inl a;exact .inr ⟨b,o,r,(h.id _ _ d).1,j,m,by rw[(h.id _ _ d).2];exact t,e⟩
 | row e n q=>exact⟨a.1,eg (fun _ _=>c9 h.mem) a.2⟩
 | ro e q=>exact c9 (e:=.sl e) h.mem a
 | rp e q i p=>obtain⟨b,o,j,m⟩:=a;exact⟨b,o,kg h.mem j,m⟩
 | fv e x=>exact⟨c9 h.mem a.1,a.2⟩
 | clo f l=>obtain⟨u,j,m⟩:=a;exact⟨u,Kz h j,m⟩
 | rn e q=>exact⟨c9 (e:=.sl e) h.mem a.1,a.2⟩
 | v x=>exact a
 | T=>exact a
 | F=>exact a
 | ints k n q=>exact a
 | junk=>exact a
theorem dW {ρ ρ':ay} (h:ay.le ρ ρ') {a:List Cell}:∀ {b:List Value},ax ρ a b->ax ρ' a b:=by
 induction a with
 | nil=>intro b d;exact d
 | cons c a i=>intro b d;obtain⟨j,k,e,f,g⟩:=d;exact⟨j,k,e,Cell.fi h f,i g⟩
theorem TV.fi {ρ ρ':ay} (h:ay.le ρ ρ') {x:TV} {v:Value} (a:x.rel ρ v):x.rel ρ' v:=by
 cases x with
 | one c=>exact Cell.fi h a
 | agg d=>obtain⟨l,e,b⟩:=a;exact⟨l,e,dW h b⟩
theorem NF {d a:ay} (h:ay.le d a) {l:List TV}:∀ {b:List Value},eM d l b->eM a l b:=by
 induction l with
 | nil=>intro b c;exact c
 | cons t k i=>intro b c;obtain⟨x,j,e,f,g⟩:=c;exact⟨x,j,e,TV.fi h f,i g⟩
theorem SV.fi {ρ ρ':ay} (h:ay.le ρ ρ') {x:SV} {v:Value} (a:x.rel ρ v):x.rel ρ' v:=by
 cases x with
 | is x=>exact TV.fi h a
 | tup l=>obtain⟨c,e,b⟩:=a;exact⟨c,e,NF h b⟩
 | undef=>exact a
 | junk=>trivial
theorem Cell.Aa {s:ay} {c:Cell} {h:List Value} (a:c.rel s h):h.length=c.size:=by
 cases c with
 | ints k n j=>obtain⟨m,p⟩:=a;subst p;simpa[Cell.size] using m
 | row e n j=>obtain⟨m,p⟩:=a;rw[fY (fun _ _=>bV) p,m];rfl
 | ptr id g=>obtain⟨b,q,e⟩:=a;subst e;rfl
 | pe id d i c=>obtain⟨b,q,e⟩:=a;subst e;rfl
 | sl id d g len c=>rcases a with ⟨_,e⟩|⟨b,o,r,q,_,_,_,e⟩<;>(subst e;rfl)
 | ro e j=>exact bV (e:=.sl e) a
 | rp e j i g=>obtain⟨b,o,_,_,e⟩:=a;subst e;rfl
 | fv e x=>exact a.2
 | clo f l=>obtain⟨t,_,e⟩:=a;subst e;rfl
 | rn e j=>exact bV (e:=.sl e) a.1
 | junk=>obtain⟨x,e,_⟩:=a;subst e;rfl
 | v x=>obtain⟨e,_⟩:=a;subst e;rfl
 | T=>have e:h=_:=a;subst e;rfl
 | F=>have e:h=_:=a;subst e;rfl
theorem gw {ρ:ay} {b:List Cell}:∀ {a:List Value},ax ρ b a->a.length=cy b:=by
 induction b with
 | nil=>intro a d;have e:a=[]:=d;subst e;rfl
 | cons c b h=>intro a d;obtain⟨i,j,e,f,g⟩:=d;subst e;simp[Cell.Aa f,h g,cy]
theorem Cell.Ig {t:ay} {c:Cell} {m:List Value} (d:c.rel t m):∀ x∈m,x.oneCell'=true:=by
 cases c with
 | ints k n p =>obtain⟨u,s⟩:=d;subst s;intro x a;obtain⟨y,_,rfl⟩:=mem_map.1 a;rfl
 | row e n p=>exact yd (fun _ _=>vm) d.2
 | ptr id j=>obtain⟨b,q,e⟩:=d;subst e;intro x a;simp at a;subst a;rfl
 | pe id g i c=>obtain⟨b,q,e⟩:=d;subst e;intro x a;simp at a;subst a;rfl
 | sl id g j len c=>rcases d with ⟨_,e⟩|⟨b,o,r,q,_,_,_,e⟩<;>(subst e;intro x a;simp at a;subst a;rfl)
 | ro e p=>exact vm (e:=.sl e) d
 | rp e p i j=>obtain⟨b,o,_,_,e⟩:=d;subst e;intro x a;simp at a;subst a;rfl
 | fv e x=>exact vm d.1
 | clo f l=>obtain⟨w,_,e⟩:=d;subst e;intro x a;simp at a;subst a;rfl
 | rn e p=>exact vm (e:=.sl e) d.1
 | junk=>obtain⟨y,e,h⟩:=d;subst e;intro x a;simp at a;subst a;exact h
 | v y=>obtain⟨e,h⟩:=d;subst e;intro x a;simp at a;subst a;exact h
 | T=>have e:m=_:=d;subst e;intro x a;simp at a;subst a;rfl
 | F=>have e:m=_:=d;subst e;intro x a;simp at a;subst a;rfl
theorem Bw {k:ay} {b:List Cell}:∀ {a:List Value},ax k b a->∀ x∈a,x.oneCell'=true:=by
 induction b with
 | nil=>intro a d x f;have e:a=[]:=d;subst e;cases f
 | cons c b j =>intro a d x f;obtain⟨l,m,e,g,i⟩:=d;subst e;rcases List.mem_append.1 f with h|h;exact Cell.Ig g x h;exact j i x h
theorem gv {i:ay} {f j:List Cell}:∀ {d a:List Value},ax i f d->ax i j a->ax i (f++j) (d++a):=by
 induction f with
 | nil=>intro d a g h;have e:d=[]:=g;subst e;exact h
 | cons c f m =>intro d a g h;obtain⟨n,o,e,k,l⟩:=g;subst e;exact⟨n,o++a,au,k,m l h⟩
theorem TV.xo {d:ay} {x:TV} {v:Value} (a:x.rel d v):∃ l,v.cells=⟨l⟩/\ax d x.cells l:=by
 cases x with
 | one c =>have b:=Cell.Ig (c:=c) a v au;refine⟨[v],?_,[v],[],au,a,rfl⟩;cases v<;>simp_all [Value.cells,Value.oneCell']
 | agg g=>obtain⟨l,e,f⟩:=a;subst e;exact⟨l,rfl,f⟩
def nA:List Value->TypeId->Nat × Nat->Obj
 | [],t,_=>.map #[] t
 | v::l,t,fr=>.cells ⟨v::l⟩ t fr
theorem xS {l:List Value} (h:l≠[]) (t:TypeId) (fr:Nat × Nat):nA l t fr=.cells ⟨l⟩ t fr:=by
 cases l with
 | nil=>exact absurd rfl h
 | cons v l=>rfl
def b6 (w:World) (b n:Nat) (l:List Value):Prop :=
 ∃ (a:List Value) (c:TypeId) (fr:Nat × Nat),w.heap[b]?=some (.cells ⟨l++a⟩ c fr)/\(l++a).length=n/\(fr=(0,0)\/n<=fr.1)
abbrev cD:=Nat->SV
abbrev bA:=Nat->Option (List Cell)
structure cw where
 w:World
 ids:List (Nat × Nat)
 gl:Nat->Option (Sigma aA):=fun _=>none
 M:Mem:=fun _=>none
 num:Nat × Nat->Nat
 top:Nat
def cW (w:World) (b:Nat):Nat:=match w.heap[b]? with
 | some (.cells c _ _)=>c.size
 | _=>0
def cw.own (W:cw) (b:Nat):Bool:=W.ids.any fun p=>p.2==b
def cw.aY (W:cw) (b:Nat):Prop:=W.w.heap.size<=b\/W.own b=true
structure kW (W:cw) (w:World):Prop where
 os:w.os=W.w.os
 tape:w.tape=W.w.tape
 output:w.output=W.w.output
 size:W.w.heap.size<=w.heap.size
 block:∀ k,k<W.w.heap.size->W.own k=false->w.heap[k]?=W.w.heap[k]?
theorem kW.refl (W:cw):kW W W.w:=⟨rfl,rfl,rfl,aE _,fun _ _ _=>rfl⟩
theorem kW.drew {W:cw} {w:World} (h:kW W w):kW W { w with drawn:=w.drawn+1 }:=⟨h.os,h.tape,h.output,h.size,h.block⟩
theorem kW.below {W:cw} {w:World} (h:kW W w) (e:W.ids=[]):Below W.w.heap.size W.w w :=
 ⟨h.os,h.tape,h.output,h.size,fun k d=>h.block k d (by simp[cw.own,e])⟩
theorem b6.lt {w:World} {b n:Nat} {l:List Value} (h:b6 w b n l):b<w.heap.size:=by obtain⟨a,c,fr,h,_⟩:=h;rcases bN b w.heap.size with h'|h';exact h';simp[eh h'] at h
theorem b6.cell {w:World} {b n:Nat} {l:List Value} (h:b6 w b n l) {i:Nat} {x:Value} (a:l[i]?=some x):w.cell? ⟨b,i,none⟩=some x:=by
 obtain⟨c,e,fr,h,_⟩:=h;simp only[World.cell?,h];have d:i<l.length:=by rcases bN i l.length with h'|h';exact h';simp[dQ h'] at a
 simp[oJ d,a]
theorem b6.frozen {w:World} {b n:Nat} {l:List Value} (h:b6 w b n l) {i:Nat} (d:i<n):w.frozen? ⟨b,i,none⟩=false:=by obtain⟨a,c,fr,h,_,hf⟩:=h;simp only[World.frozen?,h];rcases hf with rfl|hf;simp;simp;omega
theorem b6.len {w:World} {b n:Nat} {l:List Value} (h:b6 w b n l):l.length<=n:=by obtain⟨f,g,fr,_,h,_⟩:=h;simp at h;omega
def xH (n:Nat):List Int:=replicate n 0
structure Out where
 val:SV
 new:List (Nat × List Cell):=[]
 wr:List (Nat × List Cell):=[]
 pre:List Prop:=[]
abbrev Spec:=cw->Nat->List SV->bA->Option Out
def Bm:Nat->Nat->Nat
 | 0,n=>n
 | m+1,n=>m+1+n
theorem Hm (m n:Nat):Bm m n=m+n:=by cases m<;>simp[Bm]
abbrev P0:=(e:Kd) × Nat × List (aA e)
def kX:Cell->Option P0
 | .ints k n a=>some ⟨.int k,n,a⟩
 | .row e n a=>some ⟨e,n,a⟩
 | _=>none
def jn:(e:Kd)->Nat->List (aA e)->Cell
 | .int k,n,xs=>.ints k n xs
 | e,n,xs=>.row e n xs
def cellsOf:(e:Kd)->aA e->List Cell
 | .int k,x=>[.v (.int k x)]
 | .bool,x=>[.v (.bool x)]
 | .str,x=>[.v (.string x)]
 | .fp,x=>[.row .fp 1 [x]]
 | .fr,x=>[.row .fr 1 [x]]
 | .pair a b,x=>cellsOf a x.1++cellsOf b x.2
 | .arr n e,xs=>[jn e n xs]
 | .sl e,xs=>[.ro e xs]
 | .ptr e,x=>[.rp e [x] 0 0]
 | .fn f,_=>[.v (.func (.func f) ⟨[]⟩ ⟨[]⟩)]
 | .cap c e,x=>[.fv (.cap c e) x]
 | .pq,x=>[.fv .pq x]
 | .mp,x=>[.fv .mp x]
def zeroCells:Kd->List Cell
 | .int k=>[.v (.int k 0)]
 | .bool=>[.F]
 | .str=>[.v (.string ByteArray.empty)]
 | .fp=>[.row .fp 1 [(0:Fp)]]
 | .fr=>[.row .fr 1 [(0:Fr)]]
 | .pair a b=>zeroCells a++zeroCells b
 | .arr n e=>[jn e n (replicate n (zeroOf e))]
 | .sl _=>[.v (.slice none 0 0)]
 | .fn f=>[.v (.func (.func f) ⟨[]⟩ ⟨[]⟩)]
 | _=>[.v (.pointer none)]
def fU:List Cell->Nat->Option (List Cell × List Cell)
 | cs,0=>some ([],cs)
 | [],_+1=>none
 | c::cs,n+1=>match kX c with
  | some ⟨e,m,d⟩=>match blt (n+1) (m*width e) with
   | true=>match beq ((n+1)/width e*width e) (n+1) with
    | true=>some ([jn e ((n+1)/width e) (d.take ((n+1)/width e))],jn e (m-(n+1)/width e) (d.drop ((n+1)/width e))::cs)
    | false=>none
   | false=>match fU cs (n+1-m*width e) with
    | some (a,b)=>some (c::a,b)
    | none=>none
  | none=>match fU cs n with
   | some (a,b)=>some (c::a,b)
   | none=>none
def mb (b:List Cell) (a n:Nat):Option (List Cell) :=
 match fU b a with
 | some (_,r)=>match fU r n with
  | some (m,_)=>some m
  | none=>none
 | none=>none
def vZ:List Cell->Nat->Option (List Cell × P0 × Nat × List Cell)
 | [],_=>none
 | c::d,b=>match kX c with
  | some s=>match blt b (width s.1) with
   | true=>some ([],s,b,d)
   | false=>match blt b (s.2.1*width s.1) with
    | true=>some ([],s,b,d)
    | false=>match vZ d (b-s.2.1*width s.1) with
     | some (a,e,q,r)=>some (c::a,e,q,r)
     | none=>none
  | none=>match b with
   | 0=>none
   | b+1=>match vZ d b with
    | some (a,e,q,r)=>some (c::a,e,q,r)
    | none=>none
def EU (e:List Cell) (d:Nat) (c:List Cell):Option (List Cell) :=
 match fU e d with
 | some (a,r)=>match fU r (cy c) with
  | some (_,b)=>some (a++(c++b))
  | none=>none
 | none=>none
def oc {a b:Kd} (h:a=b) (c:List (aA a)):List (aA b):=h▸c
def Fy {a b:Kd} (h:a=b) (x:aA a):aA b:=h▸x
def tj (e:Kd):List Cell->Option (aA e × List Cell)
 | []=>none
 | c::r=>match kX c with
  | some ⟨d,n,f⟩=>match d.eq? e with
   | some ⟨h⟩=>match n with
    | 0=>none
    | 1=>some (Fy h (f.getD 0 (zeroOf d)),r)
    | m+2=>some (Fy h (f.getD 0 (zeroOf d)),jn d (m+1) (f.drop 1)::r)
   | none=>none
  | none=>none
def FX (e:Kd) (d:List Cell):Option (aA e × List Prop × List Cell):=match tj e d with
 | some (x,r)=>some (x,[],r)
 | none=>none
def mc (k:IntKind):List Cell->Nat->Option (List Int × List Cell)
 | cs,0=>some ([],cs)
 | [],_+1=>none
 | .ints d n c::r,m+1=>match decide (d=k) with
  | true=>match beq n (m+1) with
   | true=>some (c,r)
   | false=>match blt (m+1) n with
    | true=>some (c.take (m+1),.ints d (n-(m+1)) (c.drop (m+1))::r)
    | false=>match mc k r (m+1-n) with
     | some (f,e)=>some (c++f,e)
     | none=>none
  | false=>none
 | .v (.int d x)::r,m+1=>match decide (d=k),mc k r m with
  | true,some (f,e)=>some (x::f,e)
  | _,_=>none
 | .row .fp 1 c::r,m+1=>match decide (k=.u64)&&beq (m+1) 6 with
  | true=>some (enc (M:=Mp) (c.getD 0 0),r)
  | false=>none
 | .row .fr 1 c::r,m+1=>match decide (k=.u64)&&beq (m+1) 4 with
  | true=>some (enc (M:=Mr) (c.getD 0 0),r)
  | false=>none
 | _::_,_+1=>none
def Hq:(e:Kd)->Nat->List Cell->Option (List (aA e) × List Cell)
 | .int k,n,c=>mc k c n
 | _,_,_=>none
def Rn (e:Kd) (n:Nat):List Cell->Option (List (aA e) × List Cell)
 | []=>none
 | c::r=>match kX c with
  | some ⟨g,d,f⟩=>match g.eq? e with
   | some ⟨h⟩=>match beq d n with
    | true=>some (oc h f,r)
    | false=>match blt n d with
     | true=>some (oc h (f.take n),jn g (d-n) (f.drop n)::r)
     | false=>none
   | none=>none
  | none=>none
def pN {g:Type} (f:List Cell->Option (g × List Prop × List Cell)):Nat->List Cell->Option (List g × List Prop × List Cell)
 | 0,d=>some ([],[],d)
 | n+1,d=>match f d with
  | some (x,p,r)=>match pN f n r with
   | some (j,h,i)=>some (x::j,p++h,i)
   | none=>none
  | none=>none
def uV (e:Kd) (g:List Cell) (d f len c:Nat):Option (List (aA e) × List Prop) :=
 match vZ g d with
 | some (_,⟨i,n,j⟩,q,_)=>match i.eq? e,beq q 0&&beq c (width e) with
  | some ⟨h⟩,true=>some (((oc h j).drop f).take len,[f+len<=n])
  | _,_=>none
 | none=>none
def uU {h:Type} (f:List Cell->Option (h × List Prop × List Cell)) (w:Nat) (i:List Cell) (d g len c:Nat):Option (List h × List Prop) :=
 match beq c w,fU i (d+g*c) with
 | true,some (_,r)=>match pN f len r with
  | some (k,j,_)=>some (k,j)
  | none=>none
 | _,_=>none
def fz (B:bA):(e:Kd)->List Cell->Option (aA e × List Prop × List Cell)
 | .int k,cs=>match cs with
  | .v (.int w x)::r=>match decide (w=k) with
   | true=>some (x,[],r)
   | false=>none
  | cs=>FX (.int k) cs
 | .bool,cs=>match cs with
  | .v (.bool x)::r=>some (x,[],r)
  | .T::r=>some (true,[],r)
  | .F::r=>some (false,[],r)
  | cs=>FX .bool cs
 | .str,cs=>match cs with
  | .v (.string x)::r=>some (x,[],r)
  | cs=>FX .str cs
 | .fp,cs=>match tj .fp cs with
  | some (x,r)=>some (x,[],r)
  | none=>match mc .u64 cs 6 with
   | some (u,r)=>some (dec (M:=Mp) u,[Canon Mp u],r)
   | none=>none
 | .fr,cs=>match tj .fr cs with
  | some (x,r)=>some (x,[],r)
  | none=>match mc .u64 cs 4 with
   | some (u,r)=>some (dec (M:=Mr) u,[Canon Mr u],r)
   | none=>none
 | .pair a b,cs=>match tj (.pair a b) cs with
  | some (x,r)=>some (x,[],r)
  | none=>match fz B a cs with
   | some (x,p,r)=>match fz B b r with
    | some (y,q,z)=>some ((x,y),p++q,z)
    | none=>none
   | none=>none
 | .arr n e,cs=>match tj (.arr n e) cs with
  | some (x,r)=>some (x,[],r)
  | none=>match Rn e n cs with
   | some (j,r)=>some (j,[],r)
   | none=>match Hq e n cs with
    | some (j,r)=>some (j,[],r)
    | none=>pN (fz B e) n cs
 | .sl e,cs=>match tj (.sl e) cs with
  | some (x,r)=>some (x,[],r)
  | none=>match cs with
   | .ro o j::r=>match o.eq? e with
    | some ⟨h⟩=>some (oc h j,[],r)
    | none=>none
   | .v (.slice none 0 0)::r=>some ([],[],r)
   | .sl id m t len c::r=>match B id with
    | some (d::s)=>match uV e (d::s) m t len c with
     | some (j,p)=>some (j,p,r)
     | none=>match uU (fz B e) (width e) (d::s) m t len c with
      | some (j,p)=>some (j,p,r)
      | none=>none
    | _=>none
   | _=>none
 | .ptr e,cs=>match cs with
  | .rp o j i 0::r=>match o.eq? e with
   | some ⟨h⟩=>some (Fy (a:=o) (b:=e) h (j.getD i (zeroOf o)),[],r)
   | none=>none
  | .ptr id 0::r=>match B id with
   | some (d::s)=>match fz B e (d::s) with
    | some (x,p,[])=>some (x,p,r)
    | _=>none
   | _=>none
  | _=>none
 | .fn f,cs=>match cs with
  | .v (.func (.func g) ⟨[]⟩ ⟨[]⟩)::r=>match decide (g=f) with
   | true=>some ((),[],r)
   | false=>none
  | .clo g []::r=>match decide (g=f) with
   | true=>some ((),[],r)
   | false=>none
  | _=>none
 | .cap c e,cs=>match cs with
  | .fv o x::r=>match o.eq? (.cap c e) with
   | some ⟨h⟩=>some (Fy (a:=o) (b:=.cap c e) h x,[],r)
   | none=>none
  | .clo g (i::l)::r=>match B i with
   | some (d::s)=>match fz B e (d::s) with
    | some (y,q,[])=>match fz B c [.clo g l] with
     | some (x,p,[])=>some ((x,y),p++q,r)
     | _=>none
    | _=>none
   | _=>none
  | _=>none
 | .pq,cs=>match cs with
  | .fv .pq x::r=>some (x,[],r)
  | .ptr _ _::r=>some (true,[],r)
  | .pe _ _ _ _::r=>some (true,[],r)
  | .rp _ _ _ _::r=>some (true,[],r)
  | .v (.pointer none)::r=>some (false,[],r)
  | _=>none
 | .mp,cs=>match cs with
  | .fv .mp x::r=>some (x,[],r)
  | _=>none
def oY:bA:=fun _=>none
def bZ (P:Program) (t:TypeId):Bool :=
 match P.underlying t with
 | some (.struct _)|some (.array _ _)=>true
 | _=>false
def LP:Value->Cell
 | .bool true=>.T
 | .bool false=>.F
 | x=>.v x
def xF (P:Program) (t:TypeId):Option (List Cell) :=
 match P.info? t with
 | some { zero:=some z,.. }=>match EB P 20 t with
  | some a=>match nt z.cells.toList (iA a)&&zk a with
   | true=>some (zeroCells a)
   | false=>none
  | none=>match z.cells.toList.all (·.oneCell') with
   | true=>some (z.cells.toList.map LP)
   | false=>none
 | _=>none
def py (a:Bool) (b:List Cell):Option TV :=
 match a with
 | true=>some (.agg b)
 | false=>match b with
  | [c]=>match kX c with
   | some ⟨e,_,f⟩=>match cellsOf e (f.getD 0 (zeroOf e)) with
    | [d]=>some (.one d)
    | _=>none
   | none=>some (.one c)
  | _=>none
def aF (d:BinOp) (k:IntKind) (x y:Int):Int :=
 let a:=BitVec.ofInt k.bits x;let b:=BitVec.ofInt k.bits y;match d with
 | .and=>k.wrap (a &&& b).toNat
 | .or=>k.wrap (a ||| b).toNat
 | .xor=>k.wrap (a ^^^ b).toNat
 | _=>k.wrap (a &&& ~~~b).toNat
def Ll (c:BinOp) (k:IntKind) (a b:Int):Option (Value × List Prop) :=
 match c with
 | .add=>some (.int k (k.wrap (a+b)),[])
 | .sub=>some (.int k (k.wrap (a-b)),[])
 | .mul=>some (.int k (k.wrap (a*b)),[])
 | .quo=>some (.int k (k.wrap (a.tdiv b)),[b≠0])
 | .rem=>some (.int k (a.tmod b),[b≠0])
 | .and=>some (.int k (aF .and k a b),[])
 | .or=>some (.int k (aF .or k a b),[])
 | .xor=>some (.int k (aF .xor k a b),[])
 | .andNot=>some (.int k (aF .andNot k a b),[])
 | .eql=>some (.bool (a==b),[])
 | .neq=>some (.bool (a != b),[])
 | .lss=>some (.bool (decide (a<b)),[])
 | .leq=>some (.bool (decide (a<=b)),[])
 | .gtr=>some (.bool (decide (a>b)),[])
 | .geq=>some (.bool (decide (a>=b)),[])
 | _=>none
def Mu (c:BinOp) (k:IntKind) (a b:Int):Option Value :=
 match c with
 | .shl=>some (.int k (k.wrap (a*2^(min b.toNat k.bits))))
 | .shr=>some (.int k (a.fdiv (2^(min b.toNat k.bits))))
 | _=>none
def sE (P:Program) (a:TypeId->Bool):Nat->Nat->List Field->Bool
 | o,n,[]=>beq o n
 | o, n, f :: b => f.name != "_" && a f.type && beq f.offset o && sE P a (o + P.cellsOf f.type) n b
def ns (P:Program):Nat->TypeId->Bool
 | 0,_=>false
 | d+1,t=>match P.underlying t with
  | some (.int _)=>beq (P.cellsOf t) 1
  | some (.array n e)=>match beq (P.cellsOf t) (n*P.cellsOf e) with
   | true=>ns P d e
   | false=>false
  | some (.struct a)=>sE P (ns P d) 0 (P.cellsOf t) a.toList && !P.stoodInHeld t
  | _=>false
def OK (i:Int) (n:Nat):Bool:=match i with
 | .ofNat m=>blt m n
 | _=>false
def ret (x:SV):Option Out:=some { val:=x }
def fA (x:Value):Option Out:=some { val:=.is (.one (.v x)) }
def sD (P:Program) (t:TypeId) (f:Nat):Option Field :=
 match P.underlying t with
 | some (.struct a)=>a[f]?
 | _=>none
def rC (a:Nat->Option (Nat × Nat)):List Cell->List (Nat × SV)->Option (List Cell)
 | cs,[]=>some cs
 | cs,(i,.is x)::r=>match a i with
  | some (c,d)=>match beq (cy x.cells) d with
   | true=>match EU cs c x.cells with
    | some b=>rC a b r
    | none=>none
   | false=>none
  | none=>none
 | _,_=>none
def vJ (P:Program) (t:TypeId):Nat->Option (Nat × Nat) :=
 match P.underlying t with
 | some (.struct a)=>fun i=>match a[i]? with
  | some f=>some (f.offset,P.cellsOf f.type)
  | none=>none
 | some (.array _ e)=>fun i=>some (i*P.cellsOf e,P.cellsOf e)
 | _=>fun _=>none
def xE:List SV->Option Out
 | [x]=>ret x
 | _=>none
def RX:List SV->Option Out
 | [.is (.one .T),x,_]=>ret x
 | [.is (.one .F),_,y]=>ret y
 | [.is (.one (.v (.bool c))),.is (.one (.v (.bool x))),.is (.one (.v (.bool y)))]=>fA (.bool (bif c then x else y))
 | _=>none
def MZ (P:Program) (id:Nat) (t:TypeId):Option Out :=
 match xF P t with
 | some a=>some { val:=.is (.one (.ptr id 0)),new:=[(id,a)] }
 | none=>none
def XE (id:Nat):List SV->Option Out
 | [.is x]=>some { val:=.is (.one (.ptr id 0)),new:=[(id,x.cells)] }
 | _=>none
def rep {a:Type}:Nat->List a->List a
 | 0,_=>[]
 | n+1,l=>l++rep n l
def yi (P:Program) (e:TypeId) (n:Nat) (a:List Cell):List Cell × List Prop :=
 match EB P 20 e with
 | some b=>match pN (fz oY b) n a with
  | some (d,c,[])=>([jn b n d],c)
  | _=>(a,[])
 | none=>(a,[])
def Bu (P:Program) (t:TypeId) (a:List Cell):List Cell × List Prop :=
 match P.underlying t with
 | some (.array n e)=>yi P e n a
 | _=>(a,[])
def M1 (P:Program) (t:TypeId) (b:List Nat) (c:List SV):Option Out :=
 match bZ P t,beq b.length c.length,xF P t with
 | true,true,some d=>match rC (vJ P t) d (b.zip c) with
  | some a=>some { val:=.is (.agg (Bu P t a).1),pre:=(Bu P t a).2 }
  | none=>none
 | _,_,_=>none
def ya (P:Program) (id:Nat) (t:TypeId) (len:Nat) (b:List Nat) (c:List SV):Option Out :=
 match P.underlying t,beq b.length c.length with
 | some (.slice e),true=>match xF P e,blt (len*P.cellsOf e) 16777217&&blt 0 (P.cellsOf e)&&beq (cy ((xF P e).getD [])) (P.cellsOf e) with
  | some f,true=>match rC (fun i=>some (i*P.cellsOf e,P.cellsOf e)) (rep len f) (b.zip c) with
   | some a=>match (yi P e len a).1 with
    | []=>none
    | d::g=>some { val:=.is (.one (.sl id 0 0 len (P.cellsOf e))),new:=[(id,d::g)],pre:=(yi P e len a).2 }
   | none=>none
  | _,_=>none
 | _,_=>none
def zj (e:Kd) (n:Nat) (c:List (aA e)) (j q a:Nat) (b:Bool):Option (TV × List Prop) :=
 match ble (q+a) (width e) with
 | true=>match mb (cellsOf e (c.getD j (zeroOf e))) q a with
  | some m=>match py b m with
   | some x=>some (x,[j<n])
   | none=>none
  | none=>none
 | false=>match beq q 0&&b&&beq (a/width e*width e) a with
  | true=>some (.agg [jn e (a/width e) ((c.drop j).take (a/width e))],[j+a/width e<=n])
  | false=>none
def BB (e:Kd) (n:Nat) (b:List (aA e)) (j q:Nat) (a:List Cell):Option (List (aA e) × List Prop) :=
 match EU (cellsOf e (b.getD j (zeroOf e))) q a with
 | some c=>match fz oY e c with
  | some (y,d,[])=>some (b.set j y,(j<n)::d)
  | _=>none
 | none=>none
def Ga (P:Program) (t:TypeId) (b:List Cell) (a i c:Nat):Option Out :=
 match vZ b a with
 | some (_,⟨e,n,d⟩,q,_)=>match beq c (width e) with
  | true=>match zj e n d (Bm (q/c) i) (q%c) (P.cellsOf t) (bZ P t) with
   | some (x,p)=>some { val:=.is x,pre:=p }
   | none=>none
  | false=>none
 | none=>none
def vl (b:Nat) (g:List Cell) (d i c:Nat) (f:List Cell):Option Out :=
 match vZ g d with
 | some (a,⟨e,n,h⟩,q,r)=>match beq c (width e) with
  | true=>match BB e n h (Bm (q/c) i) (q%c) f with
   | some (j,p)=>some { val:=.undef,wr:=[(b,a++(jn e n j::r))],pre:=p }
   | none=>none
  | false=>none
 | none=>none
def Rw (b:List Cell) (a:Nat):Nat:=match vZ b a with
 | some (_,s,_,_)=>width s.1
 | none=>0
def RU (P:Program) (t:TypeId) (k:List SV) (B:bA):Option Out :=
 match k with
 | [.is (.one (.ptr b a))]=>match B b with
  | some (c::g)=>match mb (c::g) a (P.cellsOf t) with
   | some m=>match py (bZ P t) m with
    | some x=>ret (.is x)
    | none=>none
   | none=>Ga P t (c::g) a 0 (Rw (c::g) a)
  | _=>none
 | [.is (.one (.pe b f i c))]=>match B b with
  | some (d::j)=>Ga P t (d::j) f i c
  | _=>none
 | [.is (.one (.rp e h i a))]=>match zj e h.length h (Bm (a/width e) i) (a%width e) (P.cellsOf t) (bZ P t) with
  | some (x,p)=>some { val:=.is x,pre:=p }
  | none=>none
 | _=>none
def afF (b:List Cell) (a:Nat):Bool:=match vZ b a with
 | some (_,s,_,_)=>blt 1 s.2.1
 | none=>false
def Ao (b:Nat) (e:List Cell) (d:Nat) (c:List Cell):Option Out :=
 match EU e d c with
 | some a=>some { val:=.undef,wr:=[(b,a)] }
 | none=>none
def MD (b:Nat) (d:List Cell) (a:Nat) (c:List Cell):Option Out :=
 match afF d a with
 | true=>match vl b d a 0 (Rw d a) c with
  | some o=>some o
  | none=>Ao b d a c
 | false=>match Ao b d a c with
  | some o=>some o
  | none=>vl b d a 0 (Rw d a) c
def M7 (P:Program) (t:TypeId) (h:List SV) (B:bA):Option Out :=
 match h with
 | [.is (.one (.ptr b e)),.is x]=>match B b,beq (cy x.cells) (P.cellsOf t) with
  | some (c::f),true=>MD b (c::f) e x.cells
  | _,_=>none
 | [.is (.one (.pe b a i c)),.is x]=>match B b,beq (cy x.cells) (P.cellsOf t) with
  | some (d::g),true=>vl b (d::g) a i c x.cells
  | _,_=>none
 | _=>none
def Aw (P:Program) (t:TypeId) (f:Nat) (h:List SV):Option Out :=
 match sD P t f with
 | some g=>match beq (P.cellsOf g.type) 0,h with
  | false,[.is (.one (.ptr b a))]=>ret (.is (.one (.ptr b (a+g.offset))))
  | false,[.is (.one (.pe b d i c))]=>ret (.is (.one (.pe b (d+g.offset) i c)))
  | false,[.is (.one (.rp e j i a))]=>ret (.is (.one (.rp e j i (a+g.offset))))
  | _,_=>none
 | none=>none
def isConst:Operand->Bool
 | .const _=>true
 | _=>false
def WW:(e:Kd)->List (aA e)->Nat->Nat->Nat->Nat->Nat->Option Cell
 | .arr m b,d,i,a,c,n,j=>match beq a 0&&beq (width b) c&&ble n m with
  | true=>some (.rp b (d.getD i []) j 0)
  | false=>none
 | _,_,_,_,_,_,_=>none
def Ax (P:Program) (t:TypeId) (f:Bool) (k:List SV):Option Out :=
 match P.underlying t,k with
 | some (.array n e),[.is (.one (.ptr b a)),.is (.one (.v (.int _ i)))] =>
  match f with
  | true=>match OK i n with
   | true=>ret (.is (.one (.ptr b (a+i.toNat*P.cellsOf e))))
   | false=>none
  | false=>some { val:=.is (.one (.pe b a i.toNat (P.cellsOf e))),pre:=[0<=i/\i<(n:Int)] }
 | some (.array n e),[.is (.one (.pe b d j c)),.is (.one (.v (.int _ i)))] =>
  match f,OK i n with
  | true,true=>ret (.is (.one (.pe b (d+i.toNat*P.cellsOf e) j c)))
  | _,_=>none
 | some (.array n e),[.is (.one (.rp g h j a)),.is (.one (.v (.int _ i)))] =>
  match f with
  | true=>match OK i n with
   | true=>ret (.is (.one (.rp g h j (a+i.toNat*P.cellsOf e))))
   | false=>none
  | false=>match WW g h j a (P.cellsOf e) n i.toNat with
   | some c=>some { val:=.is (.one c),pre:=[0<=i/\i<(n:Int)] }
   | none=>none
 | some (.slice e),[.is (.one (.sl b d a len c)),.is (.one (.v (.int _ i)))] =>
  match beq c (P.cellsOf e) with
  | true=>some { val:=.is (.one (.pe b d (Bm a i.toNat) c)),pre:=[0<=i/\i<(len:Int)] }
  | false=>none
 | some (.slice e),[.is (.one (.ro g h)),.is (.one (.v (.int _ i)))] =>
  match beq (width g) (P.cellsOf e) with
  | true=>some { val:=.is (.one (.rp g h i.toNat 0)),pre:=[0<=i/\i<(h.length:Int)] }
  | false=>none
 | _,_=>none
def jE (s:ByteArray):List Int:=s.data.toList.map fun b=>(b.toNat:Int)
def M4 (P:Program) (t:TypeId) (b:Bool) (f:List SV):Option Out :=
 match P.underlying t,f with
 | some (.array n e),[.is (.agg d),.is (.one (.v (.int _ i)))]=>match b with
  | true=>match OK i n,mb d (i.toNat*P.cellsOf e) (P.cellsOf e) with
   | true,some m=>match py (bZ P e) m with
    | some x=>ret (.is x)
    | none=>none
   | _,_=>none
  | false=>match d with
   | [c]=>match kX c with
    | some ⟨a,m,g⟩=>match beq (width a) (P.cellsOf e)&&ble n m,py (bZ P e) (cellsOf a (g.getD i.toNat (zeroOf a))) with
     | true,some x=>some { val:=.is x,pre:=[0<=i/\i<(n:Int)] }
     | _,_=>none
    | none=>none
   | _=>none
 | some .string,[.is (.one (.v (.string x))),.is (.one (.v (.int _ i)))]=>some { val:=.is (.one (.v (.int .u8 ((jE x).getD i.toNat 0)))),pre:=[0<=i/\i<(x.size:Int)] }
 | _,_=>none
def M3 (P:Program) (t:TypeId) (f:Nat) (c:List SV):Option Out :=
 match sD P t f,c with
 | some a,[.is (.agg b)]=>match mb b a.offset (P.cellsOf a.type) with
  | some m=>match py (bZ P a.type) m with
   | some x=>ret (.is x)
   | none=>none
  | none=>none
 | _,_=>none
def Fg (i:Nat):List SV->Option Out
 | [.tup l]=>match l[i]? with
  | some x=>ret (.is x)
  | none=>none
 | _=>none
def HS:BinOp->Bool
 | .shl | .shr=>true
 | _=>false
def Zc (P:Program) (t:TypeId) (d:Bool) (b c:List Cell):Option Out :=
 match ns P 20 t,EB P 20 t with
 | true,some a=>match fz oY a b,fz oY a c,p8 a&&bZ P t && !P.eqGuardType P.depth t&&beq (width a) (P.cellsOf t) with
  | some (x,e,[]),some (y,f,[]),true=>some { val:=.is (.one (.v (.bool (bif d then !mC a x y else mC a x y)))),pre:=e++f }
  | _,_,_=>none
 | _,_=>none
def vq:Cell->Option Bool
 | .T=>some true
 | .F=>some false
 | .v (.bool b)=>some b
 | _=>none
def Lm:Cell->Bool
 | .ptr _ _ | .pe _ _ _ _ | .rp _ _ _ _=>true
 | _=>false
def HR:Cell->Bool
 | .v (.pointer none)=>true
 | _=>false
def XD (P:Program) (e:BinOp) (t:TypeId) (h:List SV):Option Out :=
 match h with
 | [.is (.one (.v (.int k a))),.is (.one (.v (.int k' b)))] =>
  match HS e with
  | true=>match Mu e k a b with
   | some x=>some { val:=.is (.one (.v x)),pre:=[0<=b] }
   | none=>none
  | false=>match decide (k=k'),Ll e k a b with
   | true,some (x,p)=>some { val:=.is (.one (.v x)),pre:=p }
   | _,_=>none
 | [.is (.agg f),.is (.agg g)]=>match e with
  | .eql=>Zc P t false f g
  | .neq=>Zc P t true f g
  | _=>none
 | [.is (.one c),.is (.one d)]=>match P.underlying t with
  | some .bool=>match vq c,vq d,e with
   | some a,some b,.eql=>fA (.bool (a==b))
   | some a,some b,.neq=>fA (.bool (!(a==b)))
   | _,_,_=>none
  | some (.pointer _)=>match HR d with
   | true=>match Lm c,e with
    | true,.eql=>ret (.is (.one .F))
    | true,.neq=>ret (.is (.one .T))
    | false,.eql=>match c with
     | .fv .pq x=>fA (.bool (!x))
     | .v (.pointer none)=>ret (.is (.one .T))
     | _=>none
    | false,.neq=>match c with
     | .fv .pq x=>fA (.bool x)
     | .v (.pointer none)=>ret (.is (.one .F))
     | _=>none
    | _,_=>none
   | false=>none
  | _=>none
 | _=>none
def xUn (b:UnOp) (d:List SV):Option Out :=
 match b,d with
 | .not,[.is (.one .T)]=>ret (.is (.one .F))
 | .not,[.is (.one .F)]=>ret (.is (.one .T))
 | .not,[.is (.one (.v (.bool a)))]=>fA (.bool (!a))
 | .neg,[.is (.one (.v (.int k a)))]=>fA (.int k (k.wrap (0-a)))
 | .xor,[.is (.one (.v (.int k a)))]=>fA (.int k (aF .xor k (if k.signed then -1 else k.max) a))
 | _,_=>none
def Bq (n:Nat) (b a c:Option Operand) (d:List SV):Option (Int × Int × Option Int × List Prop) :=
 match b,a,c,d with
 | none,none,none,[]=>some (0,n,none,[])
 | none,some _,none,[.is (.one (.v (.int _ h)))]=>some (0,h,none,[0<=h/\h<=(n:Int)])
 | some _,none,none,[.is (.one (.v (.int _ l)))]=>some (l,n,none,[0<=l/\l<=(n:Int)])
 | some _,some _,none,[.is (.one (.v (.int _ l))),.is (.one (.v (.int _ h)))]=>some (l,h,none,[0<=l/\l<=h/\h<=(n:Int)])
 | none,some _,some _,[.is (.one (.v (.int _ h))),.is (.one (.v (.int _ m)))]=>some (0,h,some m,[0<=h/\h<=m/\m<=(n:Int)])
 | some _,some _,some _,[.is (.one (.v (.int _ l))),.is (.one (.v (.int _ h))),.is (.one (.v (.int _ m)))]=>some (l,h,some m,[0<=l/\l<=h/\h<=m/\m<=(n:Int)])
 | _,_,_,_=>none
def M6 (P:Program) (t:TypeId) (g f i:Option Operand) (o:List SV) (B:bA):Option Out :=
 match P.underlying t,o with
 | some (.array n e),.is (.one (.ptr b a))::r =>
  match B b,Bq n g f i r with
  | some (c::m),some (l,h,_,p)=>match ble (a+n*P.cellsOf e) (cy (c::m)) with
   | true=>some { val:=.is (.one (.sl b a l.toNat (h-l).toNat (P.cellsOf e))),pre:=p }
   | false=>none
  | _,_=>none
 | some (.slice e),.is (.one (.sl b d a len c))::r =>
  match Bq len g f i r,beq c (P.cellsOf e) with
  | some (l,h,_,p),true=>some { val:=.is (.one (.sl b d (Bm a l.toNat) (h-l).toNat c)),pre:=p }
  | _,_=>none
 | some (.slice e),.is (.one (.ro j k))::r =>
  match Bq k.length g f i r,beq (width j) (P.cellsOf e) with
  | some (l,h,_,p),true=>some { val:=.is (.one (.ro j ((k.drop l.toNat).take (h-l).toNat))),pre:=p }
  | _,_=>none
 | _,_=>none
def XF (P:Program) (a:Array TypeId) (b:List SV):Option Out :=
 match (a[0]?).bind P.underlying,b with
 | some (.slice _),[.is (.one (.sl _ _ _ n _))]=>fA (.int .i64 n)
 | some (.slice _),[.is (.one (.ro _ c))]=>fA (.int .i64 c.length)
 | some (.slice _),[.is (.one (.v (.slice none 0 0)))]=>fA (.int .i64 0)
 | some .string,[.is (.one (.v (.string s)))]=>fA (.int .i64 s.size)
 | _,_=>none
def bytesOf (P:Program) (t:TypeId):Nat:=match P.info? t with
 | some i=>i.bytes
 | none=>0
def FH (P:Program) (e:TypeId):Option Kd :=
 match P.info? e,EB P 20 e with
 | some { zero:=some z,.. },some a=>match nt z.cells.toList (iA a)&&zk a&&beq (width a) (P.cellsOf e)&&blt 0 (width a) with
  | true=>some a
  | false=>none
 | _,_=>none
def RV (P:Program) (id:Nat) (t:TypeId) (b:List SV):Option Out :=
 match P.underlying t,b with
 | some (.slice e),[.is (.one (.v (.int _ l))),.is (.one (.v (.int _ c)))]=>match FH P e with
  | some a=>some { val:=.is (.one (.sl id 0 0 l.toNat (width a))),new:=[(id,[jn a c.toNat (replicate c.toNat (zeroOf a))])],pre:=[0<=l/\l<=c/\(bytesOf P e:Int)*c<=281474976710656/\c<=9223372036854775807] }
  | none=>none
 | _,_=>none
def Dx (B:bA) (g:Kd):SV->Option (Nat × List (aA g) × List Prop)
 | .is (.one (.sl id a f m c))=>match B id with
  | some (d::i)=>match uV g (d::i) a f m c with
   | some (b,p)=>some (m,b,p)
   | none=>match uU (fz oY g) (width g) (d::i) a f m c with
    | some (b,p)=>some (m,b,p)
    | none=>none
  | _=>none
 | .is (.one (.ro e b))=>match e.eq? g with
  | some ⟨h⟩=>some (b.length,oc h b,[])
  | none=>none
 | .is (.one (.v (.slice none 0 0)))=>some (0,[],[])
 | _=>none
def ID (P:Program) (id:Nat) (k:Array TypeId) (l:List SV) (B:bA):Option Out :=
 match k.toList,l with
 | [t,j],[.is (.one d),x]=>match beq t j,P.underlying t with
  | true,some (.slice e)=>match FH P e with
   | some a=>match Dx B a x,d with
    | some (m,b,p),.sl i 0 0 len c=>match B i,beq c (width a) with
     | some [f],true=>match kX f with
      | some ⟨g,n,xs⟩=>match g.eq? a with
       | some ⟨h⟩=>some { val:=.is (.one (.sl id 0 0 (len+m) c)),new:=[(id,[jn a (len+m) ((oc h xs).take len++b)])],wr:=[(i,[])],pre:=p++[len<=n,(len+m)*bytesOf P e<=140737488355328,len+m<=4611686018427387904] }
       | none=>none
      | none=>none
     | _,_=>none
    | some (m,b,p),.v (.slice none 0 0)=>some { val:=.is (.one (.sl id 0 0 m (width a))),new:=[(id,[jn a m b])],pre:=p++[m*bytesOf P e<=140737488355328,m<=4611686018427387904] }
    | _,_=>none
   | none=>none
  | _,_=>none
 | _,_=>none
def RS (P:Program) (j:Array TypeId) (k:List SV) (B:bA):Option Out :=
 match j.toList,k with
 | [t,_],[.is (.one (.sl i f off len c)),x]=>match P.underlying t with
  | some (.slice e)=>match B i,beq c (P.cellsOf e)&&(P.info? e).isSome with
   | some (d::h),true=>match vZ (d::h) f with
    | some (a,⟨g,n,xs⟩,q,r)=>match Dx B g x,beq q 0&&beq c (width g) with
     | some (m,l,p),true=>some { val:=.is (.one (.v (.int .i64 (Nat.min m len)))),wr:=[(i,a++(jn g n (xs.take off++(l.take (Nat.min m len)++xs.drop (off+Nat.min m len)))::r))],pre:=p++[off+len<=n] }
     | _,_=>none
    | none=>none
   | _,_=>none
  | _=>none
 | _,_=>none
def Ff (P:Program) (id:Nat) (s d:TypeId) (h:List SV) (B:bA):Option Out :=
 match P.underlying s,P.underlying d,h with
 | some (.int _),some (.int k),[.is (.one (.v (.int _ a)))]=>fA (.int k (k.wrap a))
 | some .string,some (.slice e),[.is (.one (.v (.string x)))]=>match P.underlying e with
  | some (.int .u8)=>some { val:=.is (.one (.sl id 0 0 x.size 1)),new:=[(id,[.ints .u8 x.size (jE x)])] }
  | _=>none
 | some (.slice _),some (.slice e),[.is (.one (.sl i b f (len+1) c))]=>match beq s d,P.underlying e,B i with
  | true,some (.int .u8),some (k::g)=>some { val:=.is (.one (.sl i b f (len+1) c)),wr:=[(i,k::g)] }
  | _,_,_=>none
 | _,_,_=>none
def XG:List SV->Option Out
 | [.is (.one c)]=>match Lm c with
  | true=>ret (.is (.one c))
  | false=>none
 | _=>none
def XC (P:Program) (t:TypeId) (h:List SV):Option Out :=
 match P.underlying t,h with
 | some (.array n e),[.is (.one (.sl b a d len c))]=>match blt 0 n&&beq c (P.cellsOf e) with
  | true=>some { val:=.is (.one (.pe b a d c)),pre:=[n<=len] }
  | false=>none
 | some (.array n e),[.is (.one (.ro f g))]=>match blt 0 n&&beq (width f) (P.cellsOf e) with
  | true=>some { val:=.is (.one (.rp f g 0 0)),pre:=[n<=g.length] }
  | false=>none
 | _,_=>none
def uu (P:Program) (t:TypeId):Bool:=(P.info? t).isSome&&(P.underlying t).isSome&&(bZ P t||beq (P.cellsOf t) 1)
def lf (P:Program) (t:TypeId):Bool :=
 match P.underlying t with
 | some (.array _ e)=>uu P e
 | some (.slice e)=>uu P e
 | some (.struct a)=>a.all fun f=>uu P f.type
 | some _=>true
 | none=>false
def aiK (P:Program):Op->Bool
 | .load t _=>uu P t
 | .store t _ _=>uu P t
 | .fieldAddr t _ _ | .indexAddr t _ _ | .index t _ _ | .field t _ _ | .build t _ | .buildSlice t _ _ | .slice t _ _ _ _=>lf P t
 | _=>true
def Ht:(a:Kd)->aA a->Option (FuncId × List SV)
 | .fn f,_=>some (f,[])
 | .cap c e,x=>match Ht c x.1 with
  | some (f,l)=>some (f,l++[.is (.one (.rp e [x.2] 0 0))])
  | none=>none
 | _,_=>none
def Hv:List Nat->List SV
 | []=>[]
 | i::l=>Hv l++[.is (.one (.ptr i 0))]
def yj:List SV->List Nat->Option (List Nat)
 | [],l=>some l
 | .is (.one (.ptr i 0))::a,l=>yj a (i::l)
 | _,_=>none
def CN (fn:Fn) (first:Array Operand) (a:List SV):Option Out :=
 match fn,first.size,yj a [] with
 | .func f,0,some []=>fA (.func (.func f) ⟨[]⟩ ⟨[]⟩)
 | .func f,0,some l=>ret (.is (.one (.clo f l)))
 | _,_,_=>none
def Zb (P:Program) (e:FuncId->Option Spec) (g:cw) (id:Nat) (c:Call) (d:List SV) (B:bA):Option Out :=
 match c.callee,d with
 | .value (.func f),_::args=>match e f with
  | some F=>F g id args B
  | none=>none
 | .value _,.is (.one (.v (.func (.func f) ⟨[]⟩ ⟨[]⟩)))::args=>match e f with
  | some F=>F g id args B
  | none=>none
 | .value _,.is (.one (.fv h x))::args=>match Ht h x with
  | some (f,l)=>match e f with
   | some F=>F g id (args++l) B
   | none=>none
  | none=>none
 | .value _,.is (.one (.clo f l))::args=>match e f with
  | some F=>F g id (args++Hv l) B
  | none=>none
 | .builtin .len,d=>XF P c.argTypes d
 | .builtin .append,d=>ID P id c.argTypes d B
 | .builtin .copy,d=>RS P c.argTypes d B
 | .builtin .max,[.is (.one (.v (.int k a))),.is (.one (.v (.int _ b)))]=>fA (.int k (if b>a then b else a))
 | .builtin .min,[.is (.one (.v (.int k a))),.is (.one (.v (.int _ b)))]=>fA (.int k (if b<a then b else a))
 | _,_=>none
def norm (W:cw) (s:SV):SV :=
 match s with
 | .is (.one (.v (.pointer (some ⟨g,0,none⟩))))=>match W.gl g with
  | some ⟨e,x⟩=>.is (.one (.rp e [x] 0 0))
  | none=>s
 | s=>s
def Fh (P:Program) (k:FuncId->Option Spec) (l:cw) (id:Nat) (o:Op) (a:List SV) (B:bA):Option Out :=
 match aiK P o with
 | false=>none
 | true=>match o with
 | .move _=>xE a
 | .assign _=>xE a
 | .pick _ _ _=>RX a
 | .alloc t=>MZ P id t
 | .box _ _=>XE id a
 | .build t e=>M1 P t (e.toList.map (·.1)) a
 | .buildSlice t n e=>ya P id t n (e.toList.map (·.1)) a
 | .load t _=>RU P t a B
 | .store t _ _=>M7 P t a B
 | .nilCheck _=>XG a
 | .fieldAddr t _ f=>Aw P t f a
 | .indexAddr t _ i=>Ax P t (isConst i) a
 | .index t _ i=>M4 P t (isConst i) a
 | .field t _ f=>M3 P t f a
 | .extract _ i=>Fg i a
 | .binOp b t _ _ _=>XD P b t a
 | .unOp b _ _=>xUn b a
 | .convert s d _=>Ff P id s d a B
 | .sliceToArrayPointer t _=>XC P t a
 | .makeSlice t _ _=>RV P id t a
 | .slice t _ h g j=>M6 P t h g j a B
 | .makeFunc fn first _=>CN fn first a
 | .call c=>Zb P k l id c a B
 | _=>none
def At:SV->SV
 | .is (.one (.rn e a))=>.is (.one (.ro e a))
 | s=>s
def M5 (P:Program) (a:BinOp) (t:TypeId) (b:List SV):Option Out :=
 match b with
 | [.is (.one c),.is (.one (.v (.slice none 0 0)))]=>match P.underlying t,a with
  | some (.slice _),.eql=>match c with
   | .rn _ _=>ret (.is (.one .F))
   | .v (.slice none 0 0)=>ret (.is (.one .T))
   | _=>none
  | some (.slice _),.neq=>match c with
   | .rn _ _=>ret (.is (.one .T))
   | .v (.slice none 0 0)=>ret (.is (.one .F))
   | _=>none
  | _,_=>none
 | _=>none
def VX:Option Out->Option Out
 | some { val:=.is (.one (.sl i 0 0 k _)),new:=[(j,[cell])],wr:=wr,pre:=pre } =>
  match beq i j&&wr.all (fun p=>p.2.isEmpty),kX cell with
  | true,some ⟨e,_,a⟩=>some { val:=.is (.one (.ro e a)),new:=[],wr:=wr,pre:=(a.length=k)::pre }
  | _,_=>none
 | _=>none
def abD (a:FuncId->Option Spec) (c:Call):Bool:=match c.callee,c.argTypes.toList with
 | .builtin .append,t::_=>(a (1000000+t)).isSome
 | _,_=>false
def isStr (P:Program) (t:TypeId):Bool:=match P.underlying t with
 | some .string=>true
 | _=>false
def Wa (P:Program) (t:TypeId):Bool:=match P.underlying t with
 | some (.int .u8)=>true
 | _=>false
def Uu (P:Program) (t:TypeId):Option IntKind :=
 match P.underlying t with
 | some (.struct a)=>match a.toList with
  | [f,g]=>match P.underlying g.type with
   | some (.int k) => match isStr P f.type && f.name != "_" && g.name != "_" && beq f.offset 0 && beq g.offset 1 && beq (P.cellsOf f.type) 1 && beq (P.cellsOf g.type) 1 && !P.stoodInHeld t && !P.eqGuardType P.depth t with
    | true=>some k
    | false=>none
   | _=>none
  | _=>none
 | _=>none
def RT (P:Program) (t:TypeId) (c:Bool) (a b:List Cell):Option Out :=
 match Uu P t with
 | some k=>match fz oY (.pair .str (.int k)) a,fz oY (.pair .str (.int k)) b with
  | some (x,d,[]),some (y,e,[])=>some { val:=.is (.one (.v (.bool (bif c then !(mC (.pair .str (.int k)) x y) else mC (.pair .str (.int k)) x y)))),pre:=d++e }
  | _,_=>none
 | none=>none
def IE (P:Program) (t:TypeId):Bool:=match P.info? t with
 | some { zero:=some (.agg _),.. }=>true
 | _=>false
def RW (P:Program) (o:Op) (a:List SV) (B:bA):Option Out :=
 match o with
 | .makeMap _ none=>match a with
  | []=>ret (.is (.one (.fv .mp ())))
  | _=>none
 | .lookup t _ _ true=>match P.underlying t,a with
  | some (.map k e),[.is (.one (.fv .mp _)),.is (.one (.v (.string _)))]=>match isStr P k&&IE P e,xF P e with
   | true,some b=>some { val:=.tup [.agg b,.one .F] }
   | _,_=>none
  | _,_=>none
 | .slice t _ i g j=>match P.underlying t,a with
  | some .string,.is (.one (.v (.string s)))::r=>match Bq s.size i g j r with
   | some (l,h,none,p)=>some { val:=.is (.one (.v (.string (s.extract l.toNat h.toNat)))),pre:=p }
   | _=>none
  | _,_=>none
 | .binOp f t _ _ _=>match a with
  | [.is (.one (.v (.string x))),.is (.one (.v (.string y)))]=>match isStr P t,f with
   | true,.eql=>fA (.bool (decide (x=y)))
   | true,.neq=>fA (.bool (!decide (x=y)))
   | _,_=>none
  | [.is (.agg b),.is (.agg c)]=>match f with
   | .eql=>RT P t false b c
   | .neq=>RT P t true b c
   | _=>none
  | _=>none
 | .convert s d _=>match P.underlying s,isStr P d,a with
  | some (.slice e),true,[x]=>match Wa P e,Dx B (.int .u8) x with
   | true,some (_,m,p)=>some { val:=.is (.one (.v (.string (strOfNums m)))),pre:=p }
   | _,_=>none
  | _,_,_=>none
 | _=>none
def XI (P:Program) (d:FuncId->Option Spec) (a:cw) (id:Nat) (o:Op) (b:List SV) (B:bA):Option Out :=
 match o with
 | .move _=>xE b
 | .assign _=>xE b
 | .call c=>match abD d c with
  | true=>VX (Fh P d a id (.call c) (b.map fun s=>At (norm a s)) B)
  | false=>Fh P d a id (.call c) (b.map fun s=>At (norm a s)) B
 | .binOp e t x y f=>match M5 P e t b with
  | some out=>some out
  | none=>Fh P d a id (.binOp e t x y f) (b.map fun s=>At (norm a s)) B
 | o=>Fh P d a id o (b.map fun s=>At (norm a s)) B
def xop (P:Program) (c:FuncId->Option Spec) (b:cw) (id:Nat) (o:Op) (a:List SV) (B:bA):Option Out :=
 match RW P o (a.map fun s=>At (norm b s)) B with
 | some out=>some out
 | none=>XI P c b id o a B
theorem bJ {ρ:ay} {c:Cell} {b:List Value} (h:c.rel ρ b):ax ρ [c] b:=⟨b,[],(bq _).symm,h,rfl⟩
theorem cT {ρ:ay} {c:Cell} {d:List Value} (h:ax ρ [c] d):c.rel ρ d:=by obtain⟨j,g,e,f,b⟩:=h;have b:g=[]:=b;subst b;subst e;simpa using f
theorem kz {ρ:ay} {c:Cell} {s:P0} {d:List Value} (h:kX c=some s) (b:c.rel ρ d):s.2.2.length=s.2.1/\dY (Rd ρ.M s.1) s.2.2 d/\c.size=s.2.1*width s.1:=by cases c<;>simp[kX] at h;subst h;exact⟨b.1,uZ.2 b.2,by simp[Cell.size,width]⟩;subst h;exact⟨b.1,b.2,rfl⟩
theorem fR {ρ:ay} {e:Kd} {n:Nat} {xs:List (aA e)} {d:List Value} (c:xs.length=n) (h:dY (Rd ρ.M e) xs d):(jn e n xs).rel ρ d:=by
 cases e with
 | int k=>exact⟨c,uZ.1 h⟩
 | _=>exact⟨c,h⟩
theorem QQ {e:Kd} {n:Nat} {b:List (aA e)}:(jn e n b).size=n*width e:=by cases e<;>simp[jn,Cell.size,width]
theorem jk {ρ:ay}:∀ {e:Kd} {x:aA e} {d:List Value},Rd ρ.M e x d->ax ρ (cellsOf e x) d:=by
 intro e;induction e with
 | int k=>intro x d h;exact bJ ⟨h,rfl⟩
 | bool=>intro x d h;exact bJ ⟨h,rfl⟩
 | str=>intro x d h;exact bJ ⟨h,rfl⟩
 | fp=>intro x d h;exact bJ ⟨rfl,pn h⟩
 | fr=>intro x d h;exact bJ ⟨rfl,pn h⟩
 | pair a b l m=>intro x d ⟨s,t,e,g,j⟩;subst e;exact gv (l g) (m j)
 | arr n e p=>intro x d ⟨g,j⟩;exact bJ (fR g j)
 | sl e p=>intro x d h;exact bJ h
 | ptr e p =>intro x d ⟨b,o,g,j⟩;exact bJ ⟨b,o,j,au,by rw[g];simp⟩
 | fn f=>intro x d h;exact bJ ⟨h,rfl⟩
 | cap c e q r=>intro x d h;exact bJ ⟨h,bV h⟩
 | pq=>intro x d h;exact bJ ⟨h,bV (e:=.pq) h⟩
 | mp=>intro x d h;exact bJ ⟨h,bV (e:=.mp) h⟩
theorem JU {ρ:ay}:∀ {e:Kd},zk e=true->ax ρ (zeroCells e) (iA e):=by
 intro e;induction e with
 | int k=>intro _;exact bJ ⟨rfl,rfl⟩
 | bool=>intro _;exact bJ rfl
 | str=>intro _;exact bJ ⟨rfl,rfl⟩
 | fp=>intro h;exact bJ ⟨rfl,pn (yf (e:=.fp) h)⟩
 | fr=>intro h;exact bJ ⟨rfl,pn (yf (e:=.fr) h)⟩
 | pair a b d g=>intro h;simp only[zk,aQ] at h;exact gv (d h.1) (g h.2)
 | arr n e i=>intro h;exact bJ (fR oL (yf (M:=ρ.M) (e:=.arr n e) h).2)
 | sl e i=>intro _;exact bJ ⟨rfl,rfl⟩
 | ptr e i=>intro h;simp[zk] at h
 | fn f=>intro h;simp[zk] at h
 | cap c e j l=>intro h;simp[zk] at h
 | pq=>intro _;exact bJ ⟨rfl,rfl⟩
 | mp=>intro h;simp[zk] at h
theorem fL {m n:Nat} (h:blt m n=true):m<n:=by simpa[lB] using h
theorem wU {m n:Nat} (h:blt m n=false):n<=m:=by
 rcases bN m n with h'|h'
 ·have:blt m n=true:=by simpa[lB] using h'
  rw[this] at h;cases h
 exact h'
theorem beq_true {m n:Nat} (h:beq m n=true):m=n:=fa h
theorem r8 {ρ:ay}:∀ (f:List Cell) (n:Nat) (a b:List Cell) (l:List Value),fU f n=some (a,b)->ax ρ f l->ax ρ a (l.take n)/\ax ρ b (l.drop n)/\n<=l.length:=by
 intro f;induction f with
 | nil =>
  intro n a b l h k;cases n with
  | zero=>simp only[fU,az,aI] at h;obtain⟨rfl,rfl⟩:=h;exact⟨by simp[ax],by simpa using k,a2 _⟩
  | succ n=>simp[fU] at h
 | cons c f C =>
  intro n a b l h k;cases n with
  | zero=>simp only[fU,az,aI] at h;obtain⟨rfl,rfl⟩:=h;exact⟨by simp[ax],by simpa using k,a2 _⟩
  | succ n =>
   obtain⟨A,i,e,j,t⟩:=k;subst e;have d:=Cell.Aa j;simp only[fU] at h;split at h
   ·rename_i e m G u;obtain⟨g1,g2,s⟩:=kz u j;simp only at g1 g2 s;rw[s] at d;split at h
    ·rename_i g;have g:=fL g;split at h
     ·rename_i y;have y:=beq_true y;simp only[az,aI] at h;obtain⟨rfl,rfl⟩:=h;obtain⟨o,p⟩:=gX (fun _ _=>bV) ((n+1)/width e) g2;rw[y] at o p;have E:(n+1)/width e<=m:=by
       rcases bN m ((n+1)/width e) with h'|h';have:=fb (width e) (tO h');omega;exact h'
      refine⟨bJ (fR (by simp;omega) ?_),⟨A.drop (n+1),i,?_,fR (by simp;omega) p,t⟩,by simp;omega⟩;rw[lR aa];exact o;rw[qe aa]
     simp at h
    rename_i g;have g:=wU g;split at h;rename_i q r z;simp only[az,aI] at h;obtain⟨rfl,rfl⟩:=h;obtain⟨o,p,F⟩:=C _ q r i z t;refine⟨⟨A,i.take (n+1-m*width e),?_,j,o⟩,?_,?_⟩;rw[List.take_append,d,bQ aa];rw[oA,d,nb aa];simpa using p;simp only[bb,d];omega;simp at h
   ·rename_i u;have D:c.size=1:=by cases c<;>simp[kX] at u<;>rfl
    split at h
    ·rename_i q r z;simp only[az,aI] at h;obtain⟨rfl,rfl⟩:=h;obtain⟨g1,g2,s⟩:=C n q r i z t;rw[D] at d;match A,d with
     | [x],_=>exact⟨⟨[x],i.take n,au,j,g1⟩,by simpa using g2,by simp;omega⟩
    simp at h
theorem wg {ρ:ay} {d m:List Cell} {b n:Nat} {l:List Value} (h:mb d b n=some m) (f:ax ρ d l) :
  ax ρ m ((l.drop b).take n)/\b+n<=l.length:=by
 unfold mb at h;cases e:fU d b with
 | none=>rw[e] at h;simp at h
 | some p =>
  obtain⟨a,r⟩:=p;rw[e] at h;simp only at h;cases c:fU r n with
  | none=>rw[c] at h;simp at h
  | some o =>obtain⟨k,q⟩:=o;rw[c] at h;simp only[az] at h;subst h;obtain⟨_,g2,s⟩:=r8 d b a r l e f;obtain⟨g,_,j⟩:=r8 r n k q _ c g2;refine⟨g,?_⟩;simp at j;omega
theorem EV {ρ:ay} {g d e:List Cell} {b:Nat} {l u:List Value} (h:EU g b d=some e) (o:ax ρ g l) (k:ax ρ d u) :
  ax ρ e (l.take b++(u++l.drop (b+u.length)))/\b+u.length<=l.length:=by
 unfold EU at h;cases j:fU g b with
 | none=>rw[j] at h;simp at h
 | some p =>
  obtain⟨a,r⟩:=p;rw[j] at h;simp only at h;cases c:fU r (cy d) with
  | none=>rw[c] at h;simp at h
  | some s =>obtain⟨q,t⟩:=s;rw[c] at h;simp only[az] at h;subst h;obtain⟨g1,g2,y⟩:=r8 g b a r l j o;obtain⟨z,m,n⟩:=r8 r _ q t _ c g2;have f:=gw k;rw[<- f] at m n;refine⟨gv g1 (gv k ?_),?_⟩;simpa[fJ] using m;simp at n;omega
theorem wa {ρ:ay}:∀ {j:List Cell} {b:Nat} {a r:List Cell} {s:P0} {q:Nat} {l:List Value},vZ j b=some (a,s,q,r)->ax ρ j l ->
  ∃ d m g,l=d++(m++g)/\d.length+q=b/\ax ρ a d/\ax ρ r g/\s.2.2.length=s.2.1/\dY (Rd ρ.M s.1) s.2.2 m:=by
 intro j;induction j with
 | nil=>intro b a r s q l h;simp[vZ] at h
 | cons c j D =>
  intro b a r s q l h H;obtain⟨i,E,e,k,n⟩:=H;subst e;have f:=Cell.Aa k;simp only[vZ] at h;split at h;rename_i Q o;obtain⟨g1,g2,G⟩:=kz o k;split at h;simp only[az,aI] at h;obtain⟨rfl,rfl,rfl,rfl⟩:=h;exact⟨[],i,E,rfl,au,rfl,n,g1,g2⟩;split at h;simp only[az,aI] at h;obtain⟨rfl,rfl,rfl,rfl⟩:=h;exact⟨[],i,E,rfl,au,rfl,n,g1,g2⟩;rename_i C;have C:=wU C;split at h;rename_i F A L N p;simp only[az,aI] at h;obtain⟨rfl,rfl,rfl,rfl⟩:=h;obtain⟨d,m,g,e,K,t,u,y,z⟩:=D p n;refine⟨i++d,m,g,by rw[e];simp,?_,⟨i,d,rfl,k,t⟩,u,y,z⟩;simp only[bb,f,G];omega;simp at h
  ·rename_i o;have I:c.size=1:=by cases c<;>simp[kX] at o<;>rfl
   split at h;simp at h;rename_i O ;split at h;rename_i F A L N p;simp only[az,aI] at h;obtain⟨rfl,rfl,rfl,rfl⟩:=h;obtain⟨d,m,g,e,K,t,u,y,z⟩:=D p n;refine⟨i++d,m,g,by rw[e];simp,?_,⟨i,d,rfl,k,t⟩,u,y,z⟩;simp only[bb,f,I];omega;simp at h
theorem qJ {a:Kd} (xs:List (aA a)):oc rfl xs=xs:=rfl
theorem wW {a:Kd} (x:aA a):Fy rfl x=x:=rfl
theorem S2 {ρ:ay} {e:Kd} {b r:List Cell} {x:aA e} {l:List Value} (h:tj e b=some (x,r)) (A:ax ρ b l):∃ g i,l=g++i/\Rd ρ.M e x g/\ax ρ r i:=by
 cases b with
 | nil=>simp[tj] at h
 | cons c b =>
  obtain⟨F,d,o,s,f⟩:=A;subst o;simp only[tj] at h;split at h
  ·rename_i G n k t;obtain⟨g1,g2,q⟩:=kz t s;simp only at g1 g2 q;split at h
   ·rename_i u _;subst u;split at h;simp at h
    ·rename_i z;simp only[az,aI,wW] at h;obtain⟨rfl,rfl⟩:=h;match k,g1 with
     | [y],_=>exact⟨F,d,rfl,nU g2,f⟩
    ·rename_i m z;simp only[az,aI,wW] at h;obtain⟨rfl,rfl⟩:=h;match k,g1 with
     | y::H,g1 =>obtain⟨E,j,p,C,D⟩:=g2;subst p;exact⟨E,j++d,au,C,⟨j,d,rfl,fR (by simpa using g1) D,f⟩⟩
   simp at h
  simp at h
theorem WV {ρ:ay} {e:Kd} {n:Nat} {d r:List Cell} {i:List (aA e)} {l:List Value} (h:Rn e n d=some (i,r)) (y:ax ρ d l):∃ m o,l=m++o/\i.length=n/\dY (Rd ρ.M e) i m/\ax ρ r o:=by
 cases d with
 | nil=>simp[Rn] at h
 | cons c d =>obtain⟨f,g,p,s,k⟩:=y;subst p;simp only[Rn] at h;split at h;rename_i j C D t;obtain⟨g1,g2,q⟩:=kz t s;simp only at g1 g2 q;split at h;rename_i u _;subst u;split at h;rename_i b;have b:=beq_true b;simp only[az,aI,qJ] at h;obtain⟨rfl,rfl⟩:=h;exact⟨f,g,rfl,aa,g2,k⟩;split at h;rename_i b;have b:=fL b;simp only[az,aI,qJ] at h;obtain⟨rfl,rfl⟩:=h;obtain⟨z,A⟩:=gX (fun _ _=>bV) n g2;exact⟨f.take (n*width j),f.drop (n*width j)++g,by rw[<- cB,dR],by simp;omega,z,⟨_,g,rfl,fR (by simp;omega) A,k⟩⟩;simp at h;simp at h;simp at h
theorem wh {ρ:ay} {k:IntKind}:∀ {p:List Cell} {n:Nat} {xs:List Int} {r:List Cell} {l:List Value},mc k p n=some (xs,r)->ax ρ p l ->
  ∃ o,l=xs.map (Value.int k)++o/\xs.length=n/\ax ρ r o:=by
 intro p;induction p with
 | nil =>
  intro n xs r l h t;cases n with
  | zero=>simp only[mc,az,aI] at h;obtain⟨rfl,rfl⟩:=h;exact⟨l,rfl,rfl,t⟩
  | succ n=>simp[mc] at h
 | cons c p E =>
  intro n xs r l h t;cases n with
  | zero=>simp only[mc,az,aI] at h;obtain⟨rfl,rfl⟩:=h;exact⟨l,rfl,rfl,t⟩
  | succ m =>
   obtain⟨G,q,e,s,j⟩:=t;subst e;unfold mc at h;split at h;rename_i H;cases H;simp at h
   ·rename_i F N D C i b f;simp only[br] at b;obtain⟨rfl,rfl⟩:=b;obtain rfl:m=i:=by simpa using f
    obtain⟨L,rfl⟩:=s;split at h;rename_i d;simp at d;subst d;split at h;rename_i g;have g:=beq_true g;simp only[az,aI] at h;obtain⟨rfl,rfl⟩:=h;exact⟨q,rfl,aa,j⟩;split at h;rename_i g;have g:=fL g;simp only[az,aI] at h;obtain⟨rfl,rfl⟩:=h;refine⟨(D.drop (m+1)).map (Value.int F)++q,?_,by simp;omega,⟨_,q,rfl,⟨by simp;omega,rfl⟩,j⟩⟩;rw[<- cB,<- de,dR];rename_i g;have g:=wU g;split at h;rename_i K I u;simp only[az,aI] at h;obtain⟨rfl,rfl⟩:=h;obtain⟨o,e,z,A⟩:=E u j;exact⟨o,by rw[e];simp,by simp[z];omega,A⟩;simp at h;simp at h
   ·rename_i F y C i b f;simp only[br] at b;obtain⟨rfl,rfl⟩:=b;obtain rfl:m=i:=by simpa using f
    obtain⟨rfl,_⟩:=s;split at h;rename_i K I d u;simp at d;subst d;simp only[az,aI] at h;obtain⟨rfl,rfl⟩:=h;obtain⟨o,e,z,A⟩:=E u j;exact⟨o,by rw[e];simp,by simp[z],A⟩;simp at h
   ·rename_i D C i b f;simp only[br] at b;obtain⟨rfl,rfl⟩:=b;obtain rfl:m=i:=by simpa using f
    split at h;rename_i d;simp only[aQ,jR] at d;obtain⟨rfl,d⟩:=d;have d:=beq_true d;simp only[az,aI] at h;obtain⟨rfl,rfl⟩:=h;obtain⟨g1,g2⟩:=s;obtain⟨y,rfl⟩:=List.length_eq_one_iff.1 g1;have this:G=(enc (M:=Mp) y).map (Value.int .u64):=nU (R:=Rd ρ.M _) (x:=y) g2;rw[this,wD];exact⟨q,rfl,by rw[d];exact rB (M:=Mp) y,j⟩;simp at h
   ·rename_i D C i b f;simp only[br] at b;obtain⟨rfl,rfl⟩:=b;obtain rfl:m=i:=by simpa using f
    split at h;rename_i d;simp only[aQ,jR] at d;obtain⟨rfl,d⟩:=d;have d:=beq_true d;simp only[az,aI] at h;obtain⟨rfl,rfl⟩:=h;obtain⟨g1,g2⟩:=s;obtain⟨y,rfl⟩:=List.length_eq_one_iff.1 g1;have this:G=(enc (M:=Mr) y).map (Value.int .u64):=nU (R:=Rd ρ.M _) (x:=y) g2;rw[this,wD];exact⟨q,rfl,by rw[d];exact rB (M:=Mr) y,j⟩;simp at h
   simp at h
theorem M8 {ρ:ay} {e:Kd} {n:Nat} {d r:List Cell} {xs:List (aA e)} {l:List Value} (h:Hq e n d=some (xs,r)) (j:ax ρ d l):∃ f b,l=f++b/\xs.length=n/\dY (Rd ρ.M e) xs f/\ax ρ r b:=by
 cases e with
 | int k =>obtain⟨b,e,g,i⟩:=wh (xs:=xs) h j;exact⟨_,b,e,g,uZ.2 rfl,i⟩
 | _=>simp[Hq] at h
theorem L3 {s:Type} {ρ:ay} {R:s->List Value->Prop} {f:List Cell->Option (s × List Prop × List Cell)}
  (C:∀ d x g r l,f d=some (x,g,r)->(∀ p∈g,p)->ax ρ d l->∃ b i,l=b++i/\R x b/\ax ρ r i) :
  ∀ (n:Nat) (d:List Cell) (j:List s) (g:List Prop) (r:List Cell) (l:List Value),pN f n d=some (j,g,r)->(∀ p∈g,p)->ax ρ d l->∃ b i,l=b++i/\j.length=n/\dY R j b/\ax ρ r i:=by
 intro n;induction n with
 | zero =>intro d j g r l h k o;simp only[pN,az,aI] at h;obtain⟨rfl,rfl,rfl⟩:=h;exact⟨[],l,rfl,rfl,rfl,o⟩
 | succ n D =>intro d j g r l h k o;simp only[pN] at h;split at h;rename_i x p N z;split at h;rename_i Q L O A;simp only[az,aI] at h;obtain⟨rfl,rfl,rfl⟩:=h;obtain⟨b,i,u,E,F⟩:=C _ _ _ _ _ z (fun q m=>k q (gS _ m)) o;obtain⟨t,K,y,G,H,I⟩:=D _ _ _ _ _ A (fun q m=>k q (ij _ m)) F;exact⟨b++t,K,by rw[u,y];simp,by simp[G],⟨b,t,rfl,E,H⟩,I⟩;simp at h;simp at h
structure Sees (B:bA) (ρ:ay) (M:Mem):Prop where
 mem:Mem.le ρ.M M
 blk:∀ i cs b,B i=some cs->cs≠[]->ρ i=some b->∃ l r,ax ρ cs l/\(l++r≠[]->M b=some (l++r))/\(l++r).length=ρ.n i
theorem l9 (ρ:ay):Sees oY ρ ρ.M:=⟨Mem.le_refl _,fun _ _ _ h=>by simp[oY] at h⟩
theorem xu {ρ:ay} {e:Kd} {o:List Cell} {b d len c:Nat} {k:List (aA e)} {s:List Prop} {l:List Value} (h:uV e o b d len c=some (k,s)) (E:∀ p∈s,p) (G:ax ρ o l) :
  k.length=len/\c=width e/\b+d*c+len*c<=l.length/\dY (Rd ρ.M e) k ((l.drop (b+d*c)).take (len*c)):=by
 unfold uV at h;split at h
 ·rename_i a f n U q r H;split at h
  ·rename_i _ A C g;subst A;simp only[aQ] at g;have F:=beq_true g.1;have z:=beq_true g.2;subst F z;simp only[az,aI,qJ] at h;obtain⟨rfl,rfl⟩:=h;have D:d+len<=n:=E _ au;obtain⟨K,m,T,e,N,O,Q,I,j⟩:=wa H G;simp only at I j;have i:=fY (fun _ _=>bV) j;have t:=(gX (fun _ _=>bV) d j).2;have u:=(gX (fun _ _=>bV) len t).1;have y:K.length=b:=aa;have L:d*width f+len*width f<=m.length:=by rw[i,<- ff];exact fb _ aa
   refine⟨by simp;omega,rfl,by rw[e];simp;omega,?_⟩;have:(l.drop (b+d*width f)).take (len*width f)=(m.drop (d*width f)).take (len*width f):=by rw[e,oA,nb aa,dH,y,show b+d*width f-b=d*width f by omega,qe aa,lR (by simp;omega)]
   rw[this];exact u
  simp at h
 simp at h
theorem xt {o:Type} {ρ:ay} {R:o->List Value->Prop} {f:List Cell->Option (o × List Prop × List Cell)} {w:Nat} (E:∀ x t,R x t->t.length=w)
  (u:∀ g x i r l,f g=some (x,i,r)->(∀ p∈i,p)->ax ρ g l->∃ k m,l=k++m/\R x k/\ax ρ r m)
  {g:List Cell} {b d len c:Nat} {n:List o} {i:List Prop} {l:List Value} (h:uU f w g b d len c=some (n,i)) (z:∀ p∈i,p) (C:ax ρ g l) :
  n.length=len/\c=w/\b+d*c+len*c<=l.length/\dY R n ((l.drop (b+d*c)).take (len*c)):=by
 unfold uU at h;split at h;rename_i a r j D;have j:=beq_true j;subst j;split at h;rename_i K H I A;simp only[az,aI] at h;obtain⟨rfl,rfl⟩:=h;obtain⟨_,g2,F⟩:=r8 _ _ _ _ _ D C;obtain⟨k,m,e,q,s,G⟩:=L3 u _ _ _ _ _ _ A z g2;have y:=fY E s;rw[q] at y;refine⟨q,rfl,?_,?_⟩;have:=congrArg length e;simp at this;omega;rw[e,lR aa,bQ aa];exact s;simp at h;simp at h
theorem Ih {ρ:ay} {i f g len c:Nat} {j:List Value} (h:(Cell.sl i f g len c).rel ρ j):(len=0/\j=[.slice none 0 0]) \/
  ∃ b o d,ρ i=some b/\len<=d/\(o=f+g*c\/d=0)/\o+d*c<=ρ.n i/\j=[.slice (some ⟨b,o,none⟩) len d]:=h
theorem YO {ρ:ay} {M:Mem} {e:Kd} {i d f len c:Nat} {q:List Value} {k:List (aA e)} {m:List Cell} {B:bA} (y:Sees B ρ M) (t:B i=some m) (p:m≠[]) (h:(Cell.sl i d f len c).rel ρ q)
  (E:∀ l,ax ρ m l->k.length=len/\c=width e/\d+f*c+len*c<=l.length/\dY (Rd M e) k ((l.drop (d+f*c)).take (len*c))) (j:k.length=len):Rd M (.sl e) k q:=by
 rcases Ih h with ⟨s,n⟩|⟨b,o,g,z,A,ho,I,n⟩;subst s;exact .inl ⟨dP j,none,0,n,fun _=>rfl⟩
 ·obtain⟨l,r,D,u,C⟩:=y.blk i m b t p z;obtain⟨F,G,K,H⟩:=E l D;subst F;rcases qx k.length with hz|hz;exact .inl ⟨dP hz,_,g,by rw[n,hz],fun h=>by cases h⟩
  ·have ho:o=d+f*c:=by
    rcases ho with ho|ho;exact ho;omega
   subst ho G;refine .inr ⟨b,_,g,n,A,l++r,u,by simp;omega,?_⟩;rw[qe aa,lR (by simp;omega)];exact H
theorem iy {B:bA} {ρ:ay} {M:Mem} (K:Sees B ρ M):∀ (e:Kd) (D:List Cell) (x:aA e) (F:List Prop) (r:List Cell) (l:List Value),fz B e D=some (x,F,r)->(∀ p∈F,p)->ax ρ D l ->
  ∃ H E,l=H++E/\Rd M e x H/\ax ρ r E:=by
 intro e;have hd:∀ (e:Kd) (D:List Cell) (x:aA e) (r:List Cell) (l:List Value),tj e D=some (x,r)->ax ρ D l->∃ H E,l=H++E/\Rd M e x H/\ax ρ r E:=by intro e D x r l h j;obtain⟨H,E,u,t,m⟩:=S2 h j;exact⟨H,E,u,c9 K.mem t,m⟩
 have hh:∀ (e:Kd) (D:List Cell) (x:aA e) (F:List Prop) (r:List Cell) (l:List Value),FX e D=some (x,F,r)->ax ρ D l->∃ H E,l=H++E/\Rd M e x H/\ax ρ r E:=by intro e D x F r l h j;unfold FX at h;split at h;rename_i y Y s;simp only[az,aI] at h;obtain⟨rfl,_,rfl⟩:=h;exact hd e D _ _ l s j;simp at h
 induction e with
 | int k =>intro D x F r l h G j;unfold fz at h;split at h;rename_i k' y Y;split at h;rename_i hk;simp at hk;subst hk;simp only[az,aI] at h;obtain⟨rfl,_,rfl⟩:=h;obtain⟨A,C,e,⟨t,_⟩,m⟩:=j;exact⟨A,C,e,t,m⟩;simp at h;exact hh (.int k) _ _ F _ _ h j
 | bool =>intro D x F r l h G j;unfold fz at h;split at h;simp only[az,aI] at h;obtain⟨rfl,_,rfl⟩:=h;obtain⟨A,C,e,⟨t,_⟩,m⟩:=j;exact⟨A,C,e,t,m⟩;simp only[az,aI] at h;obtain⟨rfl,_,rfl⟩:=h;obtain⟨A,C,e,t,m⟩:=j;exact⟨A,C,e,t,m⟩;simp only[az,aI] at h;obtain⟨rfl,_,rfl⟩:=h;obtain⟨A,C,e,t,m⟩:=j;exact⟨A,C,e,t,m⟩;exact hh .bool _ _ F _ _ h j
 | str =>intro D x F r l h G j;unfold fz at h;split at h;simp only[az,aI] at h;obtain⟨rfl,_,rfl⟩:=h;obtain⟨A,C,e,⟨t,_⟩,m⟩:=j;exact⟨A,C,e,t,m⟩;exact hh .str _ _ F _ _ h j
 | fp =>intro D x F r l h G j;unfold fz at h;split at h;rename_i s;simp only[az,aI] at h;obtain⟨rfl,_,rfl⟩:=h;exact hd _ _ _ _ _ s j;split at h;rename_i ws Y s;simp only[az,aI] at h;obtain⟨rfl,rfl,rfl⟩:=h;obtain⟨E,e,t,m⟩:=wh s j;have hc:Canon Mp ws:=G _ au;exact⟨_,E,e,by show _=_;rw[N8 hc],m⟩;simp at h
 | fr =>intro D x F r l h G j;unfold fz at h;split at h;rename_i s;simp only[az,aI] at h;obtain⟨rfl,_,rfl⟩:=h;exact hd _ _ _ _ _ s j;split at h;rename_i ws Y s;simp only[az,aI] at h;obtain⟨rfl,rfl,rfl⟩:=h;obtain⟨E,e,t,m⟩:=wh s j;have hc:Canon Mr ws:=G _ au;exact⟨_,E,e,by show _=_;rw[N8 hc],m⟩;simp at h
 | pair a b x2 x3 =>intro D x F r l h G j;unfold fz at h;split at h;rename_i s;simp only[az,aI] at h;obtain⟨rfl,_,rfl⟩:=h;exact hd _ _ _ _ _ s j;split at h;rename_i y p r1 t;split at h;rename_i z q r2 m;simp only[az,aI] at h;obtain⟨rfl,rfl,rfl⟩:=h;obtain⟨H,E,u,N,O⟩:=x2 _ _ _ _ _ t (fun q s=>G q (gS _ s)) j;obtain⟨l3,l4,e2,I,U⟩:=x3 _ _ _ _ _ m (fun q s=>G q (ij _ s)) O;exact⟨H++l3,l4,by rw[u,e2];simp,⟨H,l3,rfl,N,I⟩,U⟩;simp at h;simp at h
 | arr n e ih =>intro D x F r l h G j;unfold fz at h;split at h;rename_i s;simp only[az,aI] at h;obtain⟨rfl,_,rfl⟩:=h;exact hd _ _ _ _ _ s j;split at h;rename_i s;simp only[az,aI] at h;obtain⟨rfl,_,rfl⟩:=h;obtain⟨H,E,u,N,O,I⟩:=WV s j;exact⟨H,E,u,⟨N,eg (fun _ _=>c9 K.mem) O⟩,I⟩;split at h;rename_i s;simp only[az,aI] at h;obtain⟨rfl,_,rfl⟩:=h;obtain⟨H,E,u,N,O,I⟩:=M8 s j;exact⟨H,E,u,⟨N,eg (fun _ _=>c9 K.mem) O⟩,I⟩;obtain⟨H,E,u,N,O,I⟩:=L3 (R:=Rd M e) (fun D x F r l=>ih D x F r l) _ _ _ _ _ _ h G j;exact⟨H,E,u,⟨N,O⟩,I⟩
 | sl e ih =>
  intro D x F r l h G j;unfold fz at h;split at h;rename_i s;simp only[az,aI] at h;obtain⟨rfl,_,rfl⟩:=h;exact hd _ _ _ _ _ s j
  ·split at h;rename_i Q xs Y _;split at h;rename_i he _;subst he;simp only[az,aI,qJ] at h;obtain⟨rfl,_,rfl⟩:=h;obtain⟨A,C,u,t,m⟩:=j;exact⟨A,C,u,c9 (e:=.sl Q) K.mem t,m⟩;simp at h;simp only[az,aI] at h;obtain⟨rfl,_,rfl⟩:=h;obtain⟨A,C,u,⟨t,_⟩,m⟩:=j;exact⟨A,C,u,.inl ⟨rfl,none,0,t,fun _=>rfl⟩,m⟩
   ·rename_i id x6 x8 len c Y _;obtain⟨A,C,u,t,m⟩:=j;split at h
    ·rename_i d W Z;split at h
     ·rename_i xs p s;simp only[az,aI] at h;obtain⟨rfl,rfl,rfl⟩:=h;refine⟨A,C,u,?_,m⟩;have hx:∀ l,ax ρ (d::W) l->_:=fun l X=>xu s G X;by_cases T:∃ l,ax ρ (d::W) l;obtain⟨V,L⟩:=T;refine YO K Z au t (fun l X=>?_) (hx V L).1;obtain⟨N,O,I,U⟩:=hx l X;exact⟨N,O,I,eg (fun _ _=>c9 K.mem) U⟩
      ·rcases Ih t with ⟨h0,e0⟩|⟨b,o,cap,hb,X,ho,hn,e0⟩
       ·subst h0;have:xs=[]:=by
         unfold uV at s;split at s;split at s;simp only[az,aI] at s;rw[<- s.1];simp;simp at s;simp at s
        exact .inl ⟨this,none,0,e0,fun _=>rfl⟩
       obtain⟨V,r0,L,_⟩:=K.blk id (d::W) b Z au hb;exact (T ⟨V,L⟩).elim
     ·split at h
      ·rename_i xs p s;simp only[az,aI] at h;obtain⟨rfl,rfl,rfl⟩:=h;refine⟨A,C,u,?_,m⟩;have hx:∀ l,ax ρ (d::W) l->_:=fun l X=>xt (R:=Rd M e) (fun _ _=>bV) (fun D x F r l=>ih D x F r l) s G X;by_cases T:∃ l,ax ρ (d::W) l;obtain⟨V,L⟩:=T;exact YO K Z au t (fun l X=>hx l X) (hx V L).1
       ·rcases Ih t with ⟨h0,e0⟩|⟨b,o,cap,hb,X,ho,hn,e0⟩
        ·subst h0;have:xs=[]:=by
          unfold uU at s;split at s;split at s;rename_i x0;simp only[pN,az,aI] at s x0;rw[<- s.1,<- x0.1];simp at s;simp at s
         exact .inl ⟨this,none,0,e0,fun _=>rfl⟩
        obtain⟨V,r0,L,_⟩:=K.blk id (d::W) b Z au hb;exact (T ⟨V,L⟩).elim
      simp at h
    simp at h
   simp at h
 | ptr e ih =>
  intro D x F r l h G j;unfold fz at h;split at h
  ·rename_i Q xs i Y ;split at h
   ·rename_i he _;subst he;simp only[az,aI,wW] at h;obtain⟨rfl,_,rfl⟩:=h;obtain⟨A,C,u,⟨b,o,t,m,h3⟩,h4⟩:=j;refine⟨A,C,u,⟨b,o+i*width Q,by rw[h3];rfl,?_⟩,h4⟩;obtain⟨l',N,O,I⟩:=t;have x7:i*width Q+width Q<=xs.length*width Q:=by
     have:=fb (width Q) (show i+1<=xs.length from m);rw[ff,mV] at this;exact this
    refine⟨l',fun hn=>K.mem _ _ (N hn),by simp only[bG,eG];omega,pn (c9 K.mem ?_)⟩;have:=ye (fun _ _=>bV) I m (zeroOf Q);rw[qE,fJ,lv,show min (width Q) (xs.length*width Q-i*width Q)=width Q by omega] at this;simpa using this
   simp at h
  rename_i id Y ;split at h;rename_i d W Z;split at h;rename_i y p s;simp only[az,aI] at h;obtain⟨rfl,rfl,rfl⟩:=h;obtain⟨A,C,u,⟨b,hb,t⟩,m⟩:=j;obtain⟨V,r0,N,O,_⟩:=K.blk id (d::W) b Z au hb;obtain⟨H,E,e2,I,U⟩:=ih _ _ _ _ _ s G N;have U:E=[]:=U;subst U;rw[bq] at e2;subst e2;refine⟨A,C,u,⟨b,0,t,V++r0,O,by simp[bV I],pn ?_⟩,m⟩;rw[gT,A5,mV,<- bV I,List.take_left];exact I;simp at h;simp at h;simp at h
 | fn f =>intro D x F r l h G j;unfold fz at h;split at h;split at h;rename_i hg;simp at hg;subst hg;simp only[az,aI] at h;obtain⟨_,_,rfl⟩:=h;obtain⟨A,C,u,⟨t,_⟩,m⟩:=j;exact⟨A,C,u,t,m⟩;simp at h;split at h;rename_i hg;simp at hg;subst hg;simp only[az,aI] at h;obtain⟨_,_,rfl⟩:=h;obtain⟨A,C,u,⟨us,h0,t⟩,m⟩:=j;have h0:us=[]:=h0;subst h0;exact⟨A,C,u,t,m⟩;simp at h;simp at h
 | cap c e x4 x5 =>intro D x F r l h G j;unfold fz at h;split at h;rename_i Q y Y;split at h;rename_i he _;subst he;simp only[az,aI,wW] at h;obtain⟨rfl,_,rfl⟩:=h;obtain⟨A,C,u,t,m⟩:=j;exact⟨A,C,u,c9 K.mem t.1,m⟩;simp at h;rename_i g i l' Y;split at h;rename_i d W Z;split at h;rename_i y q s;split at h;rename_i x' p hx;simp only[az,aI] at h;obtain⟨rfl,rfl,rfl⟩:=h;obtain⟨A,C,u,⟨us,⟨b,vs,hb,x1,eu⟩,t⟩,m⟩:=j;obtain⟨V,r0,N,O,_⟩:=K.blk i (d::W) b Z au hb;obtain⟨H,E,e2,I,U⟩:=x5 _ _ _ _ _ s (fun q s=>G q (ij _ s)) N;have U:E=[]:=U;subst U;rw[bq] at e2;subst e2;obtain⟨l3,l4,e3,k5,k6⟩:=x4 _ _ _ _ _ hx (fun q s=>G q (gS _ s)) (bJ (c:=.clo g l') ⟨vs,x1,rfl⟩);have k6:l4=[]:=k6;subst k6;rw[bq] at e3;subst e3 eu;refine⟨A,C,u,⟨.func g,vs,b,0,t,k5,V++r0,O,by simp[bV I],pn ?_⟩,m⟩;rw[gT,A5,mV,<- bV I,List.take_left];exact I;simp at h;simp at h;simp at h;simp at h
 | pq =>intro D x F r l h G j;unfold fz at h;split at h;simp only[az,aI] at h;obtain⟨rfl,_,rfl⟩:=h;obtain⟨A,C,u,t,m⟩:=j;exact⟨A,C,u,t.1,m⟩;simp only[az,aI] at h;obtain⟨rfl,_,rfl⟩:=h;obtain⟨A,C,u,⟨b,_,t⟩,m⟩:=j;exact⟨A,C,u,⟨_,t,rfl⟩,m⟩;simp only[az,aI] at h;obtain⟨rfl,_,rfl⟩:=h;obtain⟨A,C,u,⟨b,_,t⟩,m⟩:=j;exact⟨A,C,u,⟨_,t,rfl⟩,m⟩;simp only[az,aI] at h;obtain⟨rfl,_,rfl⟩:=h;obtain⟨A,C,u,⟨b,o,_,_,t⟩,m⟩:=j;exact⟨A,C,u,⟨_,t,rfl⟩,m⟩;simp only[az,aI] at h;obtain⟨rfl,_,rfl⟩:=h;obtain⟨A,C,u,⟨t,_⟩,m⟩:=j;exact⟨A,C,u,⟨none,t,rfl⟩,m⟩;simp at h
 | mp =>intro D x F r l h G j;unfold fz at h;split at h;simp only[az,aI] at h;obtain⟨_,_,rfl⟩:=h;obtain⟨A,C,u,t,m⟩:=j;exact⟨A,C,u,c9 (e:=.mp) (x:=x) K.mem t.1,m⟩;simp at h
theorem n3 {ρ:ay} {f:Bool} {m:List Cell} {x:TV} {l:List Value} (h:py f m=some x) (p:ax ρ m l) (t:f=false->l.length=1) :
  (f=true->x.rel ρ (.agg ⟨l⟩))/\(f=false->∃ v,l=[v]/\x.rel ρ v):=by
 cases f with
 | true=>simp[py] at h;subst h;exact⟨fun _=>⟨l,rfl,p⟩,(fun h=>nomatch h)⟩
 | false =>
  refine⟨(fun h=>nomatch h),fun _=>?_⟩;have s:=t rfl;match l,s with
  | [v],_ =>
   refine⟨v,rfl,?_⟩;simp only[py] at h;split at h
   ·rename_i c;have o:=cT p;split at h
    ·rename_i e n j g;obtain⟨g1,g2,r⟩:=kz g o;simp only at g1 g2 r;split at h
     ·rename_i q d;simp at h;subst h;have b:=fY (fun _ _=>bV) g2;have k:j.length=1:=by
       rcases bN j.length 2 with h'|h';rcases qx j.length with h0|h0;rw[h0] at b;simp at b;omega
       ·exfalso;have:1=j.length*width e:=by simpa using b
        rcases qx (width e) with h0|h0;rw[h0] at this;omega;have:=tJ h' h0;omega
      match j,k with
      | [y],_ =>have:=jk (nU g2);have d:cellsOf e y=[q]:=d;rw[d] at this;exact cT this
     simp at h
    simp at h;subst h;exact o
   simp at h
theorem DF {P:Program} {w:World} {b N c n:Nat} {l:List Value} (h:b6 w b N l) (i:c+n<=l.length) :
  (loadCells ⟨b,c,none⟩ n).run P w=.ok ⟨(l.drop c).take n⟩ w:=by
 have e:((l.drop c).take n).length=n:=by simp;omega
 have:=run_loadCells_list (P:=P) (w:=w) ⟨b,c,none⟩ ((l.drop c).take n) (fun j v f=>by
  have d:(⟨b,c,none⟩:Addr).add j=⟨b,c+j,none⟩:=by unfold Addr.add;split;rename_i g;subst g;rfl;rfl
  rw[d];refine h.cell ?_;rw[fI] at f;split at f;simpa using f
  ·cases f)
 rw[e] at this;simpa using this
theorem ld (b off j:Nat):(⟨b,off,none⟩:Addr).add j=⟨b,off+j,none⟩:=by unfold Addr.add;split;rename_i c;subst c;rfl;rfl
theorem jA {P:Program} {w:World} {t:TypeId} {d:TypeDesc} (h:P.underlying t=some d):(isAgg t).run P w=.ok (bZ P t) w:=by unfold isAgg underlying bZ;simp only[Sem.run_bind,run_program,Result.andThen_ok,h,Sem.run_pure];cases d<;>rfl
theorem pk {P:Program} {w:World} {t:TypeId} {i:TypeInfo} (h:P.info? t=some i):(typeInfo t).run P w=.ok i w:=by unfold typeInfo;simp only[Sem.run_bind,run_program,Result.andThen_ok,h,Sem.run_pure]
theorem cE {P:Program} {w:World} {t:TypeId} {i:TypeInfo} (h:P.info? t=some i):(Go.sizeOf t).run P w=.ok (P.cellsOf t) w:=by unfold Go.sizeOf;simp only[Sem.run_bind,pk h,Result.andThen_ok,Sem.run_pure];simp[Program.cellsOf,h]
theorem lQ {P:Program} {t:TypeId} {d:TypeDesc} (h:P.underlying t=some d):∃ i,P.info? t=some i:=by
 unfold Program.underlying at h;cases b:P.info? t with
 | none=>simp[b] at h
 | some i=>exact⟨i,rfl⟩
theorem bm {P:Program} {w:World} {t:TypeId} {d:TypeDesc} (h:P.underlying t=some d):(underlying t).run P w=.ok d w:=by unfold underlying;simp only[Sem.run_bind,run_program,Result.andThen_ok,h,Sem.run_pure]
theorem pb {P:Program} {b N off:Nat}:∀ (c:List Value) (i:Nat) (w:World) (l:List Value),b6 w b N l->off+i+c.length<=l.length->(∀ v∈c,v.oneCell'=true) ->
  ∃ d,(storeCells ⟨b,off,none⟩ c i).run P w=.ok () d/\b6 d b N (l.take (off+i)++(c++l.drop (off+i+c.length)))/\d.heap.size=w.heap.size /\
   (∀ n,n≠b->d.heap[n]?=w.heap[n]?)/\d.os=w.os/\d.tape=w.tape/\d.output=w.output:=by
 intro c;induction c with
 | nil =>intro i w l h r _;exact⟨w,by simp[storeCells],by simpa using h,rfl,fun _ _=>rfl,rfl,rfl,rfl⟩
 | cons x c L =>
  intro i w l h r f;have m:off+i<l.length:=by simp at r;omega
  have g:=h.cell (i:=off+i) (x:=l[off+i]) (by simp[m]);have q:=h.frozen (i:=off+i) (fe m h.len);have p:b6 (w.setCell ⟨b,off+i,none⟩ x) b N (l.set (off+i) x):=by obtain⟨k,y,fr,I,G,H⟩:=h;refine⟨k,y,fr,?_,by simpa using G,H⟩;simp only[World.setCell,qw,eA,I,cY];simp[List.set_append_left _ _ m]
  obtain⟨d,z,s,A,C,D,E,F⟩:=L (i+1) (w.setCell ⟨b,off+i,none⟩ x) (l.set (off+i) x) p (by simp at r ⊢;omega) (fun v K=>f v (by simp[K]));refine⟨d,?_,?_,?_,?_,?_,?_,?_⟩;unfold storeCells;rw[ld];simp only[Sem.run_bind];rw[run_store P w _ x .plain (f x au)];simp only[g,q];simpa using z
  ·have t:(l.set (off+i) x).take (off+(i+1))=l.take (off+i)++[x]:=by
    rw[show off+(i+1)=(off+i)+1 from by omega,cr (by simpa using m)];simp[List.take_set_of_le]
   have u:(l.set (off+i) x).drop (off+(i+1)+c.length)=l.drop (off+i+(x::c).length):=by rw[List.drop_set_of_lt aa];congr 1;simp;omega
   rw[t,u] at s;simpa using s
  rw[A];simp[World.setCell];intro o j;rw[C o j];simp only[World.setCell,qw];rw[ah (fun e=>j e.symm)];exact D;exact E;exact F
def bn (ρ:ay):List SV->List Value->Prop
 | [],d=>d=[]
 | v::e,d=>∃ x xs,d=x::xs/\v.rel ρ x/\bn ρ e xs
structure Eff (id:Nat) (B:bA) (out:Out) (ρ ρ':ay) (w w':World):Prop where
 le:ay.le ρ ρ'
 dom:∀ i b,ρ' i=some b->ρ i=some b\/(id<=i/\i<id+8/\(∃ p∈out.new,p.1=i)/\(w.heap.size<=b\/∃ q∈out.wr,ρ q.1=some b))
 bound:∀ i b,ρ' i=some b->b<w'.heap.size
 os:w'.os=w.os
 tape:w'.tape=w.tape
 output:w'.output=w.output
 size:w.heap.size<=w'.heap.size
 same:∀ b,b<w.heap.size->(∀ p∈out.wr,ρ p.1≠some b)->w'.heap[b]?=w.heap[b]?
 new:∀ p∈out.new,id<=p.1/\p.1<id+8/\∀ b,ρ' p.1=some b->p.2≠[] ->
  (w.heap.size<=b\/∃ q∈out.wr,ρ q.1=some b/\q.2=[])/\∃ l,b6 w' b (ρ'.n p.1) l/\ax ρ' p.2 l
 newinj:∀ p∈out.new,∀ q∈out.new,∀ b,ρ' p.1=some b->ρ' q.1=some b->p.1=q.1
 wruniq:∀ p∈out.wr,∀ q∈out.wr,p.1=q.1->p=q
 wr:∀ p∈out.wr,(∃ cs,B p.1=some cs/\cs≠[])/\∀ b,ρ p.1=some b->p.2≠[]->∃ l,b6 w' b (ρ.n p.1) l/\ax ρ' p.2 l
 mem:∀ b l,ρ'.M b=some l->ρ.M b=some l\/((∀ p∈out.new,ρ' p.1≠some b)/\(w.heap.size<=b\/∃ q∈out.wr,ρ q.1=some b/\q.2=[])/\∃ el fr,w'.heap[b]?=some (nA l el fr))
structure Ctx (w0:cw) (id:Nat) (ρ:ay) (B:bA) (w:World):Prop where
 below:kW w0 w
 blks:∀ i cs,B i=some cs->cs≠[]->∀ b,ρ i=some b->∃ l,b6 w b (ρ.n i) l/\ax ρ cs l
 bound:∀ i b,ρ i=some b->b<w.heap.size
 free:∀ i,id<=i->i<id+8->ρ i=none
 mem:∀ b l,ρ.M b=some l->∃ el fr,w.heap[b]?=some (nA l el fr)
 glob:∀ g e x,w0.gl g=some ⟨e,x⟩->mo (Rd ρ.M e) (width e) ρ.M g 0 [x]
 inj:∀ i i' cs cs' b,B i=some cs->cs≠[]->B i'=some cs'->cs'≠[]->ρ i=some b->ρ i'=some b->i=i'
 apart:∀ b l,ρ.M b=some l->∀ i cs,B i=some cs->cs≠[]->ρ i≠some b
def nG (P:Program) (f:FuncId) (b:Array Value) (w:World) (R:Value->World->Prop):Prop :=
 ((callFunc f b).run P w=.ok (.enter f b) w/\Calls P f b w fun e c=>∃ v,e=.returned v/\R v c) \/
 (∃ v c,(callFunc f b).run P w=.ok (.value v) c/\R v c)
def nI (P:Program) (f:FuncId) (F:Spec):Prop :=
 ∀ (w0:cw) (id:Nat) (args:List SV) (B:bA) (out:Out),F w0 id args B=some out->(∀ p∈out.pre,p) ->
  ∀ (ρ:ay) (c:List Value) (w:World),bn ρ args c->Ctx w0 id ρ B w ->
   nG P f ⟨c⟩ w fun v d=>∃ b,out.val.rel b v/\Eff id B out ρ b w d
def aD (P:Program) (sp:FuncId->Option Spec):Prop:=∀ f F,sp f=some F->nI P f F
def cf (P:Program) (id:Nat) (B:bA) (o:Oper) (out:Out) (ρ:ay) (a:Act) (w:World):Prop :=
 ∀ (next:Act->World->Prop) (Q:Exit->Act->World->Prop),(∀ v e d,out.val.rel d v->Eff id B out ρ d w e->next (a.put o.dst v) e)->o.wp P a w next Q
section
variable {P:Program} {w0:cw} {id:Nat} {ρ:ay} {B:bA} {w:World}
theorem Ctx.eff (b:Ctx w0 id ρ B w) (v:SV) (p:List Prop):Eff id B { val:=v,pre:=p } ρ ρ w w :=
 ⟨ay.le_refl _,fun _ _ h=>.inl h,b.bound,rfl,rfl,rfl,aE _,fun _ _ _=>rfl,fun _ h=>(nomatch h),fun _ h=>(nomatch h),fun _ h=>(nomatch h),fun _ h=>(nomatch h),fun _ _ h=>.inl h⟩
theorem aR (b:Ctx w0 id ρ B w) {o:Oper} {a:Act} {v:Value} {x:SV} {p:List Prop} (h:(execOp a.eval o).run P w=.ok (.value v) w) (e:x.rel ρ v) :
  cf P id B o { val:=x,pre:=p } ρ a w:=by
 intro next Q d;unfold Oper.wp;rw[h];exact d v w ρ e (b.eff x p)
def ay.push (ρ:ay) (id b n:Nat):ay:=⟨fun i=>if i=id then some b else ρ i,fun i=>if i=id then n else ρ.n i,ρ.M⟩
theorem ay.iM {id b n:Nat}:(ρ.push id b n) id=some b:=by simp[ay.push]
theorem ay.uj {id b n:Nat}:(ρ.push id b n).n id=n:=by simp[ay.push]
theorem ay.Dk {id b n i:Nat} (h:i≠id):(ρ.push id b n) i=ρ i:=by simp[ay.push,h]
theorem ay.O5 {id b n:Nat} (h:ρ id=none):ay.le ρ (ρ.push id b n):=by refine⟨?_,Mem.le_refl _⟩;intro i c d;by_cases e:i=id;subst e;rw[h] at d;cases d;simp[ay.push,e,d]
theorem Sg (j:Ctx w0 id ρ B w) {g:List Cell} {l:List Value} (t:TypeId) (m:ax ρ g l) (x:SV) (p:List Prop) :
  Eff id B { val:=x,new:=[(id,g)],pre:=p } ρ (ρ.push id w.heap.size l.length) w (w.alloc (.cells ⟨l⟩ t)):=by
 have d:ay.le ρ (ρ.push id w.heap.size l.length):=ay.O5 (j.free id (aE _) aa);refine⟨d,?_,?_,rfl,rfl,rfl,au,?_,?_,?_,fun _ h=>(nomatch h),fun _ h=>(nomatch h),fun _ _ h=>.inl h⟩;intro i b h;by_cases e:i=id;subst e;rw[ay.iM] at h;simp at h;exact .inr ⟨aE _,aa,⟨(i,g),au,rfl⟩,.inl aa⟩;rw[ay.Dk e] at h;exact .inl h;intro i b h;by_cases e:i=id;subst e;rw[ay.iM] at h;simp at h;simp;omega;rw[ay.Dk e] at h;have:=j.bound i b h;simp;omega;intro b c _;exact Below.heap_alloc w _ b c;intro p f;simp at f;subst f;refine⟨aE _,by show id<id+8;omega,fun b c _=>?_⟩;rw[ay.iM] at c;simp at c;subst c;refine⟨.inl (aE _),l,⟨[],t,(0,0),?_,?_,.inl rfl⟩,dW d m⟩;show (w.heap.push _)[w.heap.size]?=_;simp;rw[ay.uj];simp;intro p f q k _ _ _;simp at f k;rw[f,k]
theorem tn (d:Ctx w0 id ρ B w) {o:Oper} {a:Act} {c:List Cell} {l:List Value} {t:TypeId} {v:Value} {x:SV} {p:List Prop}
  (h:(execOp a.eval o).run P w=.ok (.value v) (w.alloc (.cells ⟨l⟩ t))) (f:ax ρ c l)
  (g:∀ b:ay,b id=some w.heap.size->b.n id=l.length->x.rel b v):cf P id B o { val:=x,new:=[(id,c)],pre:=p } ρ a w:=by
 intro next Q e;unfold Oper.wp;rw[h];exact e v _ _ (g _ ay.iM ay.uj) (Sg d t f x p)
theorem D2 (G:Ctx w0 id ρ B w) {o:Oper} {a:Act} {i b:Nat} {r f:List Cell} {u:List Value} {d:World} {p:List Prop} (y:ρ i=some b) (E:B i=some r) (s:r≠[])
  (h:(execOp a.eval o).run P w=.ok .skip d) (F:b6 d b (ρ.n i) u) (K:ax ρ f u) (L:d.heap.size=w.heap.size)
  (k:∀ m,m≠b->d.heap[m]?=w.heap[m]?) (A:d.os=w.os) (C:d.tape=w.tape) (D:d.output=w.output) :
  cf P id B o { val:=.undef,wr:=[(i,f)],pre:=p } ρ a w:=by
 intro next Q I;unfold Oper.wp;rw[h];refine I undef d ρ rfl ⟨ay.le_refl _,fun _ _ h=>.inl h,fun j c H=>by rw[L];exact G.bound j c H,A,C,D,aa,?_,fun _ h=>(nomatch h),fun _ h=>(nomatch h),fun p z q l _=>by simp at z l;rw[z,l],?_,fun _ _ h=>.inl h⟩;intro c _ t;refine k c (fun e=>?_);subst e;exact t (i,f) au y;intro q l;simp at l;subst l;refine⟨⟨r,E,s⟩,fun m g _=>?_⟩;rw[y] at g;simp at g;subst g;exact⟨u,F,K⟩
theorem bS {v:SV} {b:List Value} (h:bn ρ [v] b):∃ x,b=[x]/\v.rel ρ x:=by obtain⟨x,g,e,d,f⟩:=h;have:g=[]:=f;subst this;exact⟨x,e,d⟩
theorem cv {v u:SV} {c:List Value} (h:bn ρ [v,u] c):∃ x y,c=[x,y]/\v.rel ρ x/\u.rel ρ y:=by obtain⟨x,xs,e,f,g⟩:=h;obtain⟨y,d,j⟩:=bS g;subst d;exact⟨x,y,e,f,j⟩
theorem qd {v u t:SV} {b:List Value} (h:bn ρ [v,u,t] b):∃ x y z,b=[x,y,z]/\v.rel ρ x/\u.rel ρ y/\t.rel ρ z:=by obtain⟨x,i,e,d,f⟩:=h;obtain⟨y,z,c,g⟩:=cv f;subst c;exact⟨x,y,z,e,d,g⟩
theorem b9 {x:Value} {y:Value} (h:(SV.is (.one (.v x))).rel ρ y):y=x:=by have:=h.1;simpa using this
theorem n5 {i c:Nat} {y:Value} (h:(SV.is (.one (.ptr i c))).rel ρ y):∃ b,ρ i=some b/\y=.pointer (some ⟨b,c,none⟩):=by obtain⟨b,d,e⟩:=h;exact⟨b,d,by simpa using e⟩
theorem yO {i d j c:Nat} {y:Value} (h:(SV.is (.one (.pe i d j c))).rel ρ y):∃ b,ρ i=some b/\y=.pointer (some ⟨b,d+j*c,none⟩):=by obtain⟨b,f,e⟩:=h;exact⟨b,f,by simpa using e⟩
theorem Cu {e:Kd} {d:List (aA e)} {i c:Nat} {y:Value} (h:(SV.is (.one (.rp e d i c))).rel ρ y):∃ b o,mo (Rd ρ.M e) (width e) ρ.M b o d/\i<d.length/\y=.pointer (some ⟨b,o+(i*width e+c),none⟩):=by obtain⟨b,o,f,g,j⟩:=h;exact⟨b,o,f,g,by simpa using j⟩
theorem nR {i f off len c:Nat} {y:Value} (h:(SV.is (.one (.sl i f off len c))).rel ρ y):(len=0/\y=.slice none 0 0) \/
  ∃ b o d,ρ i=some b/\len<=d/\(o=f+off*c\/d=0)/\o+d*c<=ρ.n i/\y=.slice (some ⟨b,o,none⟩) len d:=by
 rcases h with ⟨h,e⟩|⟨b,o,d,g,j,m,k,e⟩;exact .inl ⟨h,by simpa using e⟩;exact .inr ⟨b,o,d,g,j,m,k,by simpa using e⟩
theorem Ct {e:Kd} {d:List (aA e)} {y:Value} (h:(SV.is (.one (.ro e d))).rel ρ y):(d=[]/\∃ a c,y=.slice a 0 c/\(a=none->c=0)) \/
  ∃ b o c,y=.slice (some ⟨b,o,none⟩) d.length c/\d.length<=c/\mo (Rd ρ.M e) (width e) ρ.M b o d:=by
 rcases h with ⟨h,a,c,e,f⟩|⟨b,o,c,e,f⟩;exact .inl ⟨h,a,c,by simpa using e,f⟩;exact .inr ⟨b,o,c,by simpa using e,f⟩
theorem Ge {i c b:Nat} (h:ρ i=some b):(SV.is (.one (.ptr i c))).rel ρ (.pointer (some ⟨b,c,none⟩)):=⟨b,h,rfl⟩
theorem Gd {i d j c o b:Nat} (h:ρ i=some b) (e:o=d+j*c):(SV.is (.one (.pe i d j c))).rel ρ (.pointer (some ⟨b,o,none⟩)):=⟨b,h,by rw[e]⟩
theorem C1 {e:Kd} {d:List (aA e)} {i c b o f:Nat} (h:mo (Rd ρ.M e) (width e) ρ.M b o d) (g:i<d.length) (j:f=o+(i*width e+c)):(SV.is (.one (.rp e d i c))).rel ρ (.pointer (some ⟨b,f,none⟩)):=⟨b,o,h,g,by rw[j]⟩
theorem kL {x:Value} (h:x.oneCell'=true):(SV.is (.one (.v x))).rel ρ x:=⟨rfl,h⟩
theorem bL {a:Act} {o:Oper} {s:Sem Value} {v:Value} {d:World} (e:execOp a.eval o=(do pure (.value (<- s)))) (h:s.run P w=.ok v d) :
  (execOp a.eval o).run P w=.ok (.value v) d:=by
 rw[e];simp[h]
theorem YK {a:Act} {o:Oper} {s:Sem Unit} {b:World} (c:execOp a.eval o=(do s;pure .skip)) (h:s.run P w=.ok () b) :
  (execOp a.eval o).run P w=.ok .skip b:=by
 rw[c];simp[h]
theorem Ctx.ro (f:Ctx w0 id ρ B w) {b:Nat} {l:List Value} (h:ρ.M b=some l):∃ d fr,w.heap[b]?=some (nA l d fr):=f.mem b l h
theorem Im (e:Ctx w0 id ρ B w) {b i:Nat} {l:List Value} {x:Value} (h:l≠[]->ρ.M b=some l) (c:l[i]?=some x):w.cell? ⟨b,i,none⟩=some x:=by
 have d:l≠[]:=by rintro rfl;simp at c
 obtain⟨f,fr,h⟩:=e.ro (h d);rw[xS d] at h;simp only[World.cell?,h];simp[c]
theorem E0 (f:Ctx w0 id ρ B w) {b c n:Nat} {l:List Value} (h:l≠[]->ρ.M b=some l) (g:c+n<=l.length) :
  (loadCells ⟨b,c,none⟩ n).run P w=.ok ⟨(l.drop c).take n⟩ w:=by
 have d:((l.drop c).take n).length=n:=by simp;omega
 have:=run_loadCells_list (P:=P) (w:=w) ⟨b,c,none⟩ ((l.drop c).take n) (fun j v e=>by
  rw[ld];refine Im f h ?_;rw[fI] at e;split at e;simpa using e
  ·cases e)
 rw[d] at this;simpa using this
end
section
variable {P:Program} {w0:cw} {id:Nat} {ρ:ay} {B:bA} {w:World} {a:Act} {dst:Option Tmp} {ty:TypeId} {pos:String} {af:Array Edge} {gd:Option (Nat × Bool)} {out:Out}
theorem T2 (c:Ctx w0 id ρ B w) {x:Operand} {b:List SV} (h:xE b=some out) (d:bn ρ b [a.eval x]):cf P id B ⟨dst,.move x,ty,pos,af,gd⟩ out ρ a w:=by
 match b,h with
 | [y],h =>obtain⟨z,e,f⟩:=bS d;simp at e;subst e;simp[xE,ret] at h;subst h;exact aR c rfl f
theorem Mn (c:Ctx w0 id ρ B w) {x:Operand} {b:List SV} (h:xE b=some out) (d:bn ρ b [a.eval x]):cf P id B ⟨dst,.assign x,ty,pos,af,gd⟩ out ρ a w:=by
 match b,h with
 | [y],h =>obtain⟨z,e,f⟩:=bS d;simp at e;subst e;simp[xE,ret] at h;subst h;exact aR c rfl f
theorem aeL (g:Ctx w0 id ρ B w) {c x y:Operand} {k:List SV} (h:RX k=some out) (i:bn ρ k [a.eval c,a.eval x,a.eval y]):cf P id B ⟨dst,.pick c x y,ty,pos,af,gd⟩ out ρ a w:=by unfold RX at h;split at h;obtain⟨p,q,r,e,b,d,f⟩:=qd i;simp only[br,bM] at e;obtain⟨rfl,rfl,rfl⟩:=e;simp[ret] at h;subst h;have b:[a.eval c]=[Value.bool true]:=b;simp at b;exact aR g (v:=a.eval x) (by simp[execOp,b,asBool]) d;obtain⟨p,q,r,e,b,d,f⟩:=qd i;simp only[br,bM] at e;obtain⟨rfl,rfl,rfl⟩:=e;simp[ret] at h;subst h;have b:[a.eval c]=[Value.bool false]:=b;simp at b;exact aR g (v:=a.eval y) (by simp[execOp,b,asBool]) f;rename_i j l m;obtain⟨p,q,r,e,b,d,f⟩:=qd i;simp only[br,bM] at e;obtain⟨rfl,rfl,rfl⟩:=e;simp[fA] at h;subst h;have b:=b9 b;have d:=b9 d;have f:=b9 f;refine aR g (v:=.bool (bif j then l else m)) ?_ (kL rfl);simp only[execOp,b,d,f,asBool];cases j<;>simp;simp at h
theorem QU (x:Value) (h:x.oneCell'=true):(LP x).rel ρ [x]:=by
 cases x with
 | bool b=>cases b<;>rfl
 | _=>first|exact⟨rfl,h⟩|simp[Value.oneCell'] at h
theorem HV:∀ (b:List Value),(∀ x∈b,x.oneCell'=true)->ax ρ (b.map LP) b:=by
 intro b;induction b with
 | nil=>intro _;exact rfl
 | cons x b d=>intro h;exact⟨[x],b,rfl,QU x (h x au),d (fun y c=>h y (by simp[c]))⟩
theorem xG {t:TypeId} {e:List Cell} (h:xF P t=some e):∃ i z,P.info? t=some i/\i.zero=some z/\ax ρ e z.cells.toList:=by unfold xF at h;split at h;rename_i i d k r f q m p z o ms g;refine⟨_,z,g,rfl,?_⟩;split at h;rename_i u j;split at h;rename_i c;simp only[aQ] at c;simp at h;subst h;rw[AI c.1];exact JU c.2;simp at h;split at h;rename_i b;simp at h;subst h;exact HV _ (List.all_eq_true.1 b);simp at h;simp at h
theorem aba (c:Ctx w0 id ρ B w) {t:TypeId} (h:MZ P id t=some out):cf P id B ⟨dst,.alloc t,ty,pos,af,gd⟩ out ρ a w:=by unfold MZ at h;split at h;rename_i j b;simp at h;subst h;obtain⟨i,z,d,f,e⟩:=xG (ρ:=ρ) b;refine tn c (l:=z.cells.toList) (t:=t) (v:=.pointer (some ⟨w.heap.size,0,none⟩)) (bL rfl ?_) e (fun g h _=>Ge h);unfold Instr.alloc zeroValue;simp only[Sem.run_bind,pk d,Result.andThen_ok,f,Sem.run_pure];simp only[newVar,newRow,Sem.run_bind,run_newObj,Result.andThen_ok,Sem.run_pure];rfl;simp at h
theorem afU (c:Ctx w0 id ρ B w) {t:TypeId} {x:Operand} {b:List SV} (h:XE id b=some out) (g:bn ρ b [a.eval x]):cf P id B ⟨dst,.box t x,ty,pos,af,gd⟩ out ρ a w:=by unfold XE at h;split at h;rename_i y;obtain⟨z,e,i⟩:=bS g;simp at e;subst e;simp at h;subst h;obtain⟨l,d,f⟩:=TV.xo (x:=y) i;refine tn c (l:=l) (t:=t) (v:=.pointer (some ⟨w.heap.size,0,none⟩)) (bL rfl ?_) f (fun j h _=>Ge h);unfold Instr.box;simp only[newVar,newRow,Sem.run_bind,run_newObj,Result.andThen_ok,Sem.run_pure,d];rfl;simp at h
theorem xX {t:TypeId} {b N c:Nat} {l:List Value} {d:TypeDesc} (g:P.underlying t=some d) (j:b6 w b N l) (h:c+P.cellsOf t<=l.length) :
  (bZ P t=true->(loadVar t ⟨b,c,none⟩).run P w=.ok (.agg ⟨(l.drop c).take (P.cellsOf t)⟩) w) /\
  (bZ P t=false->∀ x,(l.drop c).take 1=[x]->(loadVar t ⟨b,c,none⟩).run P w=.ok x w):=by
 obtain⟨i,k⟩:=lQ g;constructor;intro f;unfold loadVar;simp only[Sem.run_bind,jA g,Result.andThen_ok,f,eA,cE k,DF j h,Sem.run_pure]
 ·intro f x m;unfold loadVar;simp only[Sem.run_bind,jA g,Result.andThen_ok,f,lU,dT];have e:w.cell? ⟨b,c,none⟩=some x:=by
   refine j.cell ?_;have:=congrArg (fun l:List Value=>l[0]?) m;simpa[fI] using this
  simp[run_load,e]
theorem Io (k:Ctx w0 id ρ B w) {t:TypeId} {b c:Nat} {l:List Value} {d:TypeDesc} (g:P.underlying t=some d) (j:l≠[]->ρ.M b=some l) (h:c+P.cellsOf t<=l.length) :
  (bZ P t=true->(loadVar t ⟨b,c,none⟩).run P w=.ok (.agg ⟨(l.drop c).take (P.cellsOf t)⟩) w) /\
  (bZ P t=false->∀ x,(l.drop c).take 1=[x]->(loadVar t ⟨b,c,none⟩).run P w=.ok x w):=by
 obtain⟨i,m⟩:=lQ g;constructor;intro f;unfold loadVar;simp only[Sem.run_bind,jA g,Result.andThen_ok,f,eA,cE m,E0 k j h,Sem.run_pure]
 ·intro f x n;unfold loadVar;simp only[Sem.run_bind,jA g,Result.andThen_ok,f,lU,dT];have e:w.cell? ⟨b,c,none⟩=some x:=by
   refine Im k j ?_;have:=congrArg (fun l:List Value=>l[0]?) n;simpa[fI] using this
  simp[run_load,e]
theorem W0 {d f m:List Value} {b c n:Nat} (e:d.length=b) (g:c+n<=m.length):((d++(m++f)).drop (b+c)).take n=(m.drop c).take n:=by rw[oA,nb aa,dH,e,show b+c-b=c by omega,qe aa,lR (by simp;omega)]
theorem BA {e:Kd} {n:Nat} {u:List (aA e)} {j q b:Nat} {l:Bool} {x:TV} {G:List Prop} {m:List Value} (h:zj e n u j q b l=some (x,G)) (D:∀ p∈G,p) (N:u.length=n) (t:dY (Rd ρ.M e) u m) (L:l=false->b=1) :
  j*width e+q+b<=m.length/\(l=true->x.rel ρ (.agg ⟨(m.drop (j*width e+q)).take b⟩))/\(l=false->∃ v,(m.drop (j*width e+q)).take b=[v]/\x.rel ρ v):=by
 have k:=fY (fun _ _=>bV) t;unfold zj at h;split at h
 ·rename_i f;have f:=gR f;split at h
  ·rename_i R K;split at h
   ·rename_i y O;simp only[az,aI] at h;obtain⟨rfl,rfl⟩:=h;have C:j<n:=D _ au;have A:=ye (fun _ _=>bV) t (i:=j) aa (zeroOf e);have I:=bV A;have s:j*width e+width e<=m.length:=by
     rw[k,<- iZ];exact fb _ aa
    obtain⟨F,Q⟩:=wg K (jk A);have d:(((m.drop (j*width e)).take (width e)).drop q).take b=(m.drop (j*width e+q)).take b:=by rw[qE,lv,fJ,iY aa]
    rw[d] at F;have g:((m.drop (j*width e+q)).take b).length=b:=by simp;omega
    obtain⟨g1,g2⟩:=n3 O F (fun h=>by rw[g,L h]);exact⟨aa,g1,g2⟩
   simp at h
  simp at h
 ·split at h
  ·rename_i E;simp only[aQ] at E;obtain⟨⟨c,r⟩,o⟩:=E;have c:=beq_true c;have o:=beq_true o;subst c r;simp only[az,aI] at h;obtain⟨rfl,rfl⟩:=h;have C:j+b/width e<=n:=D _ au;have H:=(gX (fun _ _=>bV) j t).2;have z:=(gX (fun _ _=>bV) (b/width e) H).1;rw[o] at z;have s:j*width e+b<=m.length:=by
    have:=fb (width e) C;rw[ff,o] at this;rw[k,N];exact this
   refine⟨aa,fun _=>⟨_,rfl,bJ (fR (by simp;omega) z)⟩,fun h=>nomatch h⟩
  simp at h
theorem Hy {c q i b:Nat} (d:c=b):Bm (q/c) i*b+q%c=q+i*c:=by subst d;rw[Hm,ff];have:=Nat.div_add_mod q c;rw[ly c] at this;omega
theorem uE (i:Ctx w0 id ρ B w) {t:TypeId} {x:Operand} {b c:Nat} {l:List Value} {y:TV} {p:List Prop} (h:a.eval x=.pointer (some ⟨b,c,none⟩))
  (j:(bZ P t=true->(loadVar t ⟨b,c,none⟩).run P w=.ok (.agg ⟨(l.drop c).take (P.cellsOf t)⟩) w)/\(bZ P t=false->∀ x,(l.drop c).take 1=[x]->(loadVar t ⟨b,c,none⟩).run P w=.ok x w))
  (m:bZ P t=false->P.cellsOf t=1)
  (k:(bZ P t=true->y.rel ρ (.agg ⟨(l.drop c).take (P.cellsOf t)⟩))/\(bZ P t=false->∃ v,(l.drop c).take (P.cellsOf t)=[v]/\y.rel ρ v)) :
  cf P id B ⟨dst,.load t x,ty,pos,af,gd⟩ { val:=.is y,pre:=p } ρ a w:=by
 have e:Instr.loadAt t (a.eval x)=(do loadVar t (<- Instr.sureAddr (a.eval x))):=rfl;cases d:bZ P t with
 | true=>exact aR i (bL rfl (by rw[e,h];simp[Instr.sureAddr,j.1 d])) (k.1 d)
 | false =>obtain⟨v,f,g⟩:=k.2 d;rw[m d] at f;exact aR i (bL rfl (by rw[e,h];simp[Instr.sureAddr,j.2 d v f])) g
theorem B8 (D:Ctx w0 id ρ B w) {t:TypeId} {x:Operand} {u:List Cell} {i b f j c:Nat} {d:TypeDesc} (N:P.underlying t=some d) (F:bZ P t=false->P.cellsOf t=1) (h:Ga P t u f j c=some out) (O:∀ p∈out.pre,p)
  (L:ρ i=some b) (I:B i=some u) (z:u≠[]) (K:a.eval x=.pointer (some ⟨b,f+j*c,none⟩)):cf P id B ⟨dst,.load t x,ty,pos,af,gd⟩ out ρ a w:=by
 unfold Ga at h;split at h
 ·rename_i W e n Z q r s;split at h
  ·rename_i g;have g:=beq_true g;split at h
   ·rename_i y p R;simp at h;subst h;obtain⟨l,k,Q⟩:=D.blks _ _ I z b L;obtain⟨U,m,V,A,T,X,Y,G,H⟩:=wa s Q;simp only at G H;obtain⟨g1,g2,C⟩:=BA R O G H F;rw[Hy g] at g1 g2 C;have E:l.length=U.length+(m.length+V.length):=by rw[A];simp
    have o:(l.drop (f+j*c)).take (P.cellsOf t)=(m.drop (q+j*c)).take (P.cellsOf t):=by rw[A,<- T,tM];exact W0 rfl aa
    exact uE D K (xX N k aa) F (by rw[o];exact⟨g2,C⟩)
   simp at h
  simp at h
 simp at h
theorem aeJ (r:Ctx w0 id ρ B w) {t:TypeId} {x:Operand} {T:List SV} (u:(P.underlying t).isSome=true) (q:bZ P t=false->P.cellsOf t=1) (h:RU P t T B=some out) (I:∀ p∈out.pre,p) (L:bn ρ T [a.eval x]):cf P id B ⟨dst,.load t x,ty,pos,af,gd⟩ out ρ a w:=by
 obtain⟨d,u⟩:=Option.isSome_iff_exists.1 u;unfold RU at h;split at h;rename_i i g;obtain⟨z,e,f⟩:=bS L;simp at e;subst e;obtain⟨b,H,e⟩:=n5 f;split at h;rename_i c U k;obtain⟨l,A,Y⟩:=r.blks _ _ k au b H;split at h;rename_i m W;obtain⟨K,D⟩:=wg W Y;split at h;rename_i y N;simp[ret] at h;subst h;obtain⟨Z,k2⟩:=n3 N K (fun h=>by rw[q h];simp;rw[q h] at D;omega);exact uE r e (xX u A D) q ⟨Z,k2⟩;simp at h;exact B8 r u q h I H k au (by rw[e,jq,gn]);simp at h;rename_i i Q j c;obtain⟨z,e,f⟩:=bS L;simp at e;subst e;obtain⟨b,H,e⟩:=yO f;split at h;rename_i c U k;exact B8 r u q h I H k au e;simp at h
 ·rename_i n O i g;obtain⟨z,e,f⟩:=bS L;simp at e;subst e;obtain⟨b,o,⟨l,V,X,G⟩,hi,e⟩:=Cu f;split at h
  ·rename_i y p N;simp at h;subst h;obtain⟨g1,g2,R⟩:=BA N I rfl G q;rw[Hy rfl] at g1 g2 R;have E:((l.drop o).take (O.length*width n)).length=O.length*width n:=by simp;omega
   rw[E] at g1;have F:o+(i*width n+g)=o+(g+i*width n):=aa;have C:(l.drop (o+(g+i*width n))).take (P.cellsOf t)=(((l.drop o).take (O.length*width n)).drop (g+i*width n)).take (P.cellsOf t):=by rw[qE,lv,fJ,iY aa]
   rw[F] at e;exact uE r e (Io r u V aa) q (by rw[C];exact⟨g2,R⟩)
  simp at h
 simp at h
theorem CC {t:TypeId} {b N off:Nat} {l u:List Value} {v:Value} {i:TypeInfo} (m:P.info? t=some i) (c:v.cells=⟨u⟩) (g:u.length=P.cellsOf t) (k:b6 w b N l) (n:off+u.length<=l.length) (e:∀ x∈u,x.oneCell'=true) :
  ∃ d,(storeVar t ⟨b,off,none⟩ v).run P w=.ok () d/\b6 d b N (l.take off++(u++l.drop (off+u.length)))/\d.heap.size=w.heap.size /\
   (∀ f,f≠b->d.heap[f]?=w.heap[f]?)/\d.os=w.os/\d.tape=w.tape/\d.output=w.output:=by
 obtain⟨d,h,j⟩:=pb (P:=P) (b:=b) (off:=off) u 0 w l k aa e;refine⟨d,?_,by simpa using j⟩;unfold storeVar;simp only[Sem.run_bind,cE m,Result.andThen_ok,c];rw[ah (by simpa using g)];simpa using h
theorem JP {e:Kd} {n:Nat} {c t:List (aA e)} {j q:Nat} {g:List Cell} {C:List Prop} {m u:List Value} (h:BB e n c j q g=some (t,C)) (A:∀ p∈C,p) (G:c.length=n) (s:dY (Rd ρ.M e) c m) (F:ax ρ g u) :
  j*width e+q+u.length<=m.length/\t.length=n/\dY (Rd ρ.M e) t (m.take (j*width e+q)++(u++m.drop (j*width e+q+u.length))):=by
 have r:=fY (fun _ _=>bV) s;unfold BB at h;split at h
 ·rename_i N l;split at h
  ·rename_i y R H;simp only[az,aI] at h;obtain⟨rfl,rfl⟩:=h;have O:j<n:=A _ au;have z:=ye (fun _ _=>bV) s (i:=j) aa (zeroOf e);have o:=bV z;have E:j*width e+width e<=m.length:=by
    rw[r,<- iZ];exact fb _ aa
   obtain⟨I,K⟩:=EV l (jk z) F;obtain⟨Q,L,k,g1,g2⟩:=iy (l9 ρ) _ _ _ _ _ _ H (fun p h=>A p (by simp[h])) I;have g2:L=[]:=g2;subst g2;rw[bq] at k;subst k;rw[o] at K;refine⟨aa,by simp[G],?_⟩;have b:=NH (fun _ _=>bV) s (pn g1) j;have f:c.take j++([y]++c.drop (j+[y].length))=c.set j y:=by rw[List.set_eq_take_append_cons_drop,aj aa];rfl
   rw[f] at b;have d:=bV g1;rw[d] at b;refine (congrArg (dY (Rd ρ.M e) (c.set j y)) ?_).mp b;rw[lv,qE,fJ,iY aa,<- tM];have k:m.take (j*width e+q)=m.take (j*width e)++(m.drop (j*width e)).take q:=by rw[<- List.take_add]
   have D:m.drop (j*width e+q+u.length)=(m.drop (j*width e+q+u.length)).take (width e-(q+u.length))++m.drop (j*width e+width e):=by have:=(dR (width e-(q+u.length)) (m.drop (j*width e+q+u.length))).symm;rw[fJ,show j*width e+q+u.length+(width e-(q+u.length))=j*width e+width e by omega] at this;exact this
   rw[k];conv=>rhs;rw[D]
   simp only[cB]
  simp at h
 simp at h
theorem AK (O:Ctx w0 id ρ B w) {t:TypeId} {x y:Operand} {E:List Cell} {i b d j c:Nat} {z:TV} (hd:(P.info? t).isSome=true) (h:vl i E d j c z.cells=some out) (hp:∀ p∈out.pre,p) (G:cy z.cells=P.cellsOf t) (hz:z.rel ρ (a.eval y))
  (N:ρ i=some b) (L:B i=some E) (A:E≠[]) (ha:a.eval x=.pointer (some ⟨b,d+j*c,none⟩)):cf P id B ⟨dst,.store t x y,ty,pos,af,gd⟩ out ρ a w:=by
 obtain⟨x0,s⟩:=Option.isSome_iff_exists.1 hd;have k:Instr.storeAt t (a.eval x) (a.eval y)=(do storeVar t (<- Instr.sureAddr (a.eval x)) (a.eval y)):=rfl;unfold vl at h;split at h
 ·rename_i a0 e n xs q r C;split at h
  ·rename_i f;have f:=beq_true f;split at h
   ·rename_i ys p hy;simp at h;subst h;obtain⟨l,o,hr⟩:=O.blks _ _ L A b N;obtain⟨D,m,I,F,k1,k2,k3,R,T⟩:=wa C hr;simp only at R T;obtain⟨u,hu,g⟩:=TV.xo (x:=z) hz;have H:=gw g;obtain⟨g1,g2,K⟩:=JP hy hp R T g;rw[Hy f] at g1 K;have Q:l.length=D.length+(m.length+I.length):=by rw[F];simp
    obtain⟨w',W,f2,X,Y,Z,f6,f7⟩:=CC s hu (by rw[H,G]) o (off:=d+j*c) aa (Bw g);refine D2 O N L A (YK rfl (by rw[k,ha];simp[Instr.sureAddr,W])) f2 ?_ X Y Z f6 f7;have U:l.take (d+j*c)=D++m.take (q+j*c):=by rw[F,List.take_append,bQ aa,show d+j*c-D.length=q+j*c by omega,lR aa]
    have V:l.drop (d+j*c+u.length)=m.drop (q+j*c+u.length)++I:=by rw[F,oA,nb aa,dH,show d+j*c+u.length-D.length=q+j*c+u.length by omega,qe aa]
    rw[U,V,cB];refine gv k2 ⟨_,I,?_,fR g2 K,k3⟩;simp only[cB]
   simp at h
  simp at h
 simp at h
theorem abh (H:Ctx w0 id ρ B w) {t:TypeId} {x y:Operand} {T:List SV} (I:(P.info? t).isSome=true) (h:M7 P t T B=some out) (E:∀ p∈out.pre,p) (R:bn ρ T [a.eval x,a.eval y]):cf P id B ⟨dst,.store t x y,ty,pos,af,gd⟩ out ρ a w:=by
 obtain⟨x0,D⟩:=Option.isSome_iff_exists.1 I;have q:Instr.storeAt t (a.eval x) (a.eval y)=(do storeVar t (<- Instr.sureAddr (a.eval x)) (a.eval y)):=rfl;unfold M7 at h;split at h
 ·rename_i i n z;obtain⟨z1,z2,e,m,g⟩:=cv R;simp only[br,bM] at e;obtain⟨rfl,rfl⟩:=e;obtain⟨b,r,e⟩:=n5 m;split at h
  ·rename_i c G f d;have d:=beq_true d;have put:∀ {o:Out},Ao i (c::G) n z.cells=some o->cf P id B ⟨dst,.store t x y,ty,pos,af,gd⟩ o ρ a w:=by
    intro o h;unfold Ao at h;split at h;rename_i U C;simp at h;subst h;obtain⟨l,A,hr⟩:=H.blks _ _ f au b r;obtain⟨u,hu,k⟩:=TV.xo (x:=z) g;obtain⟨N,K⟩:=EV C hr k;have O:=gw k;obtain⟨w',g1,g2,V,W,X,Y,Z⟩:=CC D hu (by rw[O,d]) A K (Bw k);exact D2 H r f au (YK rfl (by rw[q,e];simp[Instr.sureAddr,g1])) g2 N V W X Y Z;simp at h
   have F:∀ {o:Out},vl i (c::G) n 0 (Rw (c::G) n) z.cells=some o->(∀ p∈o.pre,p)->cf P id B ⟨dst,.store t x y,ty,pos,af,gd⟩ o ρ a w:=by intro o h E;exact AK H I h E d g r f au (by rw[e,jq,gn])
   unfold MD at h;split at h;split at h;rename_i o L;simp at h;subst h;exact F L E;exact put h;split at h;rename_i o L;simp at h;subst h;exact put L;exact F h E
  simp at h
 rename_i i Q j c z;obtain⟨z1,z2,e,m,g⟩:=cv R;simp only[br,bM] at e;obtain⟨rfl,rfl⟩:=e;obtain⟨b,r,e⟩:=yO m;split at h;rename_i c G f d;exact AK H I h E (beq_true d) g r f au e;simp at h;simp at h
theorem vz {t:TypeId} {f:Nat} {d:Field} (h:sD P t f=some d):∃ b,P.underlying t=some (.struct b)/\b[f]?=some d:=by unfold sD at h;split at h;rename_i b c;exact⟨b,c,h⟩;simp at h
theorem xW {t:TypeId} {f:Nat} {c:Field} {b g:Nat} (h:sD P t f=some c) (m:(P.info? c.type).isSome=true) (k:beq (P.cellsOf c.type) 0=false) :
  (Instr.fieldAt t (.pointer (some ⟨b,g,none⟩)) f).run P w=.ok (.pointer (some ⟨b,g+c.offset,none⟩)) w:=by
 obtain⟨o,i,l⟩:=vz h;obtain⟨n,d⟩:=Option.isSome_iff_exists.1 m;have j:P.cellsOf c.type≠0:=by intro e;rw[e] at k;cases k
 unfold Instr.fieldAt fieldPlace;simp only[Sem.run_bind,bm i,Result.andThen_ok,l,Instr.sureAddr,Sem.run_pure,cE d,ah j,ld,Sem.run_ite]
theorem Nz (p:Ctx w0 id ρ B w) {t:TypeId} {x:Operand} {f:Nat} {C:List SV} (q:∀ m,sD P t f=some m->(P.info? m.type).isSome=true) (h:Aw P t f C=some out) (u:bn ρ C [a.eval x]):cf P id B ⟨dst,.fieldAddr t x f,ty,pos,af,gd⟩ out ρ a w:=by unfold Aw at h;split at h;rename_i m d;split at h;rename_i i y l;obtain⟨z,e,g⟩:=bS u;simp at e;subst e;obtain⟨b,n,e⟩:=n5 g;simp[ret] at h;subst h;exact aR p (bL rfl (by rw[e];exact xW d (q _ d) l)) (Ge n);rename_i i A j c l;obtain⟨z,e,g⟩:=bS u;simp at e;subst e;obtain⟨b,n,e⟩:=yO g;simp[ret] at h;subst h;exact aR p (bL rfl (by rw[e];exact xW d (q _ d) l)) (Gd n aa);rename_i D E i y l;obtain⟨z,e,g⟩:=bS u;simp at e;subst e;obtain⟨b,o,k,r,e⟩:=Cu g;simp[ret] at h;subst h;exact aR p (bL rfl (by rw[e];exact xW d (q _ d) l)) (C1 k r aa);simp at h;simp at h
theorem afW (j:Ctx w0 id ρ B w) {x:Operand} {i:List SV} (h:XG i=some out) (l:bn ρ i [a.eval x]):cf P id B ⟨dst,.nilCheck x,ty,pos,af,gd⟩ out ρ a w:=by
 unfold XG at h;split at h
 ·rename_i c;split at h
  ·rename_i k;simp[ret] at h;subst h;obtain⟨z,e,d⟩:=bS l;simp at e;subst e;have f:∃ g,a.eval x=.pointer (some g):=by
    cases c<;>simp[Lm] at k;obtain⟨b,_,e⟩:=n5 d;exact⟨_,e⟩;obtain⟨b,_,e⟩:=yO d;exact⟨_,e⟩;obtain⟨b,o,_,_,e⟩:=Cu d;exact⟨_,e⟩
   obtain⟨g,e⟩:=f;refine aR j (v:=a.eval x) ?_ d;simp[execOp,e]
  simp at h
 simp at h
theorem afS (C:Ctx w0 id ρ B w) {t:TypeId} {x:Operand} {F:List SV} (h:XC P t F=some out) (D:∀ p∈out.pre,p) (E:bn ρ F [a.eval x]):cf P id B ⟨dst,.sliceToArrayPointer t x,ty,pos,af,gd⟩ out ρ a w:=by
 unfold XC at h;split at h
 ·rename_i n e b f A len c y;split at h
  ·rename_i i;simp only[aQ] at i;have H:=fL i.1;simp at h;subst h;have k:n<=len:=D _ au;obtain⟨z,g,d⟩:=bS E;simp at g;subst g;rcases nR d with ⟨j,_⟩|⟨m,o,q,u,I,ho,L,r⟩;omega
   ·have ho:o=f+A*c:=by
     rcases ho with ho|ho;exact ho;omega
    refine aR C (v:=.pointer (some ⟨m,o,none⟩)) (bL rfl ?_) (Gd u ho);rw[r];unfold Instr.arrayAt;simp only[Sem.run_bind,bm y,Result.andThen_ok,ah (show ¬ len<n by omega),Sem.run_pure]
  simp at h
 rename_i n e K G y;split at h;rename_i i;simp only[aQ] at i;have H:=fL i.1;simp at h;subst h;have k:n<=G.length:=D _ au;obtain⟨z,g,d⟩:=bS E;simp at g;subst g;rcases Ct d with ⟨j,_⟩|⟨m,o,q,r,I,l⟩;subst j;simp at k;omega;refine aR C (v:=.pointer (some ⟨m,o,none⟩)) (bL rfl ?_) (C1 l aa aa);rw[r];unfold Instr.arrayAt;simp only[Sem.run_bind,bm y,Result.andThen_ok,ah (show ¬ G.length<n by omega),Sem.run_pure];simp at h;simp at h
end
section
variable {P:Program} (w:World)
def valOf (P:Program) (t:TypeId) (b:List IV):Value :=
 match bZ P t with
 | true=>.agg ⟨b.map iv⟩
 | false=>iv (b.getD 0 (.u8,0))
theorem Ag {t:TypeId} {d:TypeDesc} (h:P.underlying t=some d) (e:bZ P t=false->P.cellsOf t=1) (c:List IV) (b:Nat) (k:b+P.cellsOf t<=c.length) :
  (part t ⟨c.map iv⟩ b).run P w=.ok (valOf P t ((c.drop b).take (P.cellsOf t))) w:=by
 obtain⟨i,j⟩:=lQ h;unfold part valOf;simp only[Sem.run_bind,jA h,Result.andThen_ok];cases f:bZ P t with
 | true =>simp only[eA,Sem.run_bind,cE j,Result.andThen_ok,Sem.run_pure];congr 2;simp
 | false =>have e:=e f;simp only[lU,dT];have g:b<c.length:=aa;simp[g,e]
theorem IP {d:Type} [DecidableEq d] {b c:List d} {n:Nat}:∀ (o:Nat),(decide ((b.drop o).take n=(c.drop o).take n)&&decide (b.drop (o+n)=c.drop (o+n)))=decide (b.drop o=c.drop o):=by intro o;rw[lp];simp only[aQ,jR];constructor;rintro⟨e,f⟩;rw[<- dR n (b.drop o),<- dR n (c.drop o),e];simp only[fJ];rw[f];intro h;rw[h];refine⟨rfl,?_⟩;rw[<- fJ,<- fJ,h]
def tg (b c:List IV):Prop:=b.map Prod.fst=c.map Prod.fst
theorem tg.part {b c:List IV} (h:tg b c) (o n:Nat):tg ((b.drop o).take n) ((c.drop o).take n):=by have:=congrArg (fun l=>(l.drop o).take n) h;simpa[tg,List.map_take,List.map_drop] using this
theorem B2:∀ (d:Nat) (t:TypeId),ns P d t=true->(∃ g,P.underlying t=some g)/\(bZ P t=false->P.cellsOf t=1):=by
 intro d t h;cases d with
 | zero=>simp[ns] at h
 | succ d =>unfold ns at h;split at h;rename_i k i;exact⟨⟨_,i⟩,fun _=>beq_true h⟩;rename_i n e f;exact⟨⟨_,f⟩,fun b=>by simp[bZ,f] at b⟩;rename_i j b;exact⟨⟨_,b⟩,fun c=>by simp[bZ,b] at c⟩;simp at h
theorem Mm {k:TypeId->Bool} {D:Nat}
  (m:∀ t,k t=true->(∃ u,P.underlying t=some u)/\(bZ P t=false->P.cellsOf t=1))
  (E:∀ t,k t=true->∀ (b c:List IV) (w:World),tg b c->b.length=P.cellsOf t->c.length=P.cellsOf t->(Op.equalIn D t (valOf P t b) (valOf P t c)).run P w=.ok (decide (b=c)) w) :
  ∀ (d:List Field) (o n:Nat) (b c:List IV),sE P k o n d=true->tg b c->b.length=n->c.length=n ->
   (Op.eqFields D ⟨b.map iv⟩ ⟨c.map iv⟩ d).run P w=.ok (decide (b.drop o=c.drop o)) w:=by
 intro d;induction d with
 | nil =>intro o n b c h _ p q;have:=beq_true h;subst this;simp[Op.eqFields,nb (wS p),nb (wS q)]
 | cons f d r =>
  intro o n b c h z p q;simp only[sE,aQ,bne_iff_ne,ne_eq] at h;obtain⟨⟨⟨A,x⟩,l⟩,y⟩:=h;have l:=beq_true l;have j:∀ (d:List Field) (o n:Nat),sE P k o n d=true->o<=n:=by
   intro d;induction d with
   | nil=>intro o n h;have:=beq_true h;omega
   | cons g F s =>intro o n h;simp only[sE,aQ] at h;have:=s _ _ h.2;omega
  have j:=j _ _ _ y;obtain⟨⟨u,i⟩,e⟩:=m _ x;unfold Op.eqFields;rw[aj (by simpa using A)];simp only[Sem.run_bind,l,Ag w i e b o aa,Result.andThen_ok,Ag w i e c o aa];rw[E _ x _ _ w (z.part _ _) (by simp;omega) (by simp;omega)];simp only[Result.andThen_ok];rw[<- IP (n:=P.cellsOf f.type) o];cases C:decide ((b.drop o).take (P.cellsOf f.type)=(c.drop o).take (P.cellsOf f.type)) with
  | false=>simp
  | true =>simp only[oF,lU,dT,dp];exact r _ _ b c y z p q
theorem Ny {e:TypeId} {D:Nat} {o:TypeDesc} (f:P.underlying e=some o) (d:bZ P e=false->P.cellsOf e=1)
  (t:∀ (b c:List IV) (w:World),tg b c->b.length=P.cellsOf e->c.length=P.cellsOf e->(Op.equalIn D e (valOf P e b) (valOf P e c)).run P w=.ok (decide (b=c)) w)
  (b c:List IV) (q:tg b c):∀ (m i n:Nat),i+m=n->b.length=n*P.cellsOf e->c.length=n*P.cellsOf e ->
   (do
    let r <- forIn (List.range' i m) (none,()) (fun (i:Nat) (_:Option Bool × Unit)=>do
     let r <- Op.equalIn D e (<- part e ⟨b.map iv⟩ (i*P.cellsOf e)) (<- part e ⟨c.map iv⟩ (i*P.cellsOf e))
     if (!r)=true then pure (ForInStep.done (some false,())) else pure (ForInStep.yield (none,())))
    match r.1 with
     | some r=>pure r
     | none=>(pure true:Sem Bool)).run P w=.ok (decide (b.drop (i*P.cellsOf e)=c.drop (i*P.cellsOf e))) w:=by
 intro m;induction m with
 | zero =>intro i n h j k;have:i=n:=aa;subst this;simp[nb (wS j),nb (wS k)]
 | succ m l =>
  intro i n h j k;have s:i*P.cellsOf e+P.cellsOf e<=n*P.cellsOf e:=by have:(i+1)*P.cellsOf e<=n*P.cellsOf e:=fb _ aa;rw[iZ] at this;exact this
  have g:=l (i+1) n aa j k;simp only[tF,List.forIn_cons,Sem.run_bind,Ag w f d b _ (by omega:i*P.cellsOf e+P.cellsOf e<=b.length),Result.andThen_ok,Ag w f d c _ (by omega:i*P.cellsOf e+P.cellsOf e<=c.length)] at g ⊢;rw[t _ _ w (q.part _ _) (by simp;omega) (by simp;omega)];simp only[Result.andThen_ok];rw[<- IP (n:=P.cellsOf e) (i*P.cellsOf e)];rw[show (i+1)*P.cellsOf e=i*P.cellsOf e+P.cellsOf e from iZ _ _] at g;cases p:decide ((b.drop (i*P.cellsOf e)).take (P.cellsOf e)=(c.drop (i*P.cellsOf e)).take (P.cellsOf e)) with
  | false=>simp
  | true =>simp only[oF,lU,dT,dp,Sem.run_pure,Result.andThen_ok];exact g
theorem EZ:∀ (d:Nat) (t:TypeId),ns P d t=true->∀ (D:Nat),d<=D->∀ (b c:List IV) (w:World),tg b c->b.length=P.cellsOf t->c.length=P.cellsOf t ->
  (Op.equalIn D t (valOf P t b) (valOf P t c)).run P w=.ok (decide (b=c)) w:=by
 intro d;induction d with
 | zero=>intro t h;simp[ns] at h
 | succ d C =>
  intro t h D L b c w q s u;obtain⟨D,rfl⟩:∃ E,D=E+1:=⟨D-1,aa⟩;unfold ns at h;split at h
  ·rename_i G j;have m:=beq_true h;have f:bZ P t=false:=by simp[bZ,j]
   rw[m] at s u;match b,c,s,u with
   | [(k,x)],[(H,y)],_,_ =>
    have e:k=H:=by simpa[tg] using q
    subst e;simp only[valOf,f];refine (run_equalIn_int w D t k G _ _ j).trans ?_;congr 1;rw[lp];simp
  ·rename_i n e A;split at h
   ·rename_i m;have m:=beq_true m;obtain⟨⟨K,g⟩,l⟩:=B2 d e h;obtain⟨N,p⟩:=lQ g;have f:bZ P t=true:=by simp[bZ,A]
    simp only[valOf,f];have:=Ny (D:=D) w g l (fun b c w=>C e h D aa b c w) b c q n 0 n aa aa aa;simp only[jq,gT] at this;unfold Op.equalIn;simp only[Sem.run_bind,bm A,Result.andThen_ok,cE p,Std.Legacy.Range.forIn_eq_forIn_range',Std.Legacy.Range.size] at this ⊢;simp at this ⊢;refine Eq.trans (congrArg (Result.andThen _) (funext fun a=>funext fun O=>?_)) this;obtain⟨F,I⟩:=a;cases F<;>rfl
   simp at h
  ·rename_i z o;simp only[aQ,oz] at h;have f:bZ P t=true:=by simp[bZ,o]
   have i:P.fieldsOf t=z:=by simp[Program.fieldsOf,o]
   simp only[valOf,f];rw[run_equalIn_struct w D t _ _ (by rw[i];exact o) h.2,i];have:=Mm (D:=D) w (fun t r=>B2 d t r) (fun t r b c w=>C t r D aa b c w) z.toList 0 _ b c h.1 q s u;simpa using this
  simp at h
end
section
variable {P:Program} {w0:cw} {id:Nat} {ρ:ay} {B:bA} {w:World} {a:Act} {dst:Option Tmp} {ty:TypeId} {pos:String} {af:Array Edge} {gd:Option (Nat × Bool)} {out:Out}
theorem run_indexAt_array {t e:TypeId} {n b c:Nat} {k:IntKind} {i:Int} (h:P.underlying t=some (.array n e)) (f:(P.info? e).isSome=true) (g:0<=i/\i<(n:Int)) :
  (Instr.indexAt t (.pointer (some ⟨b,c,none⟩)) (.int k i)).run P w=.ok (.pointer (some ⟨b,c+i.toNat*P.cellsOf e,none⟩)) w:=by
 obtain⟨j,d⟩:=Option.isSome_iff_exists.1 f;unfold Instr.indexAt;simp only[Sem.run_bind,asIntOf,Sem.run_pure,Result.andThen_ok,bm h,Instr.sureAddr,Sem.run_ite,aj g,cE d,ld]
theorem run_indexAt_slice {t e:TypeId} {len d b c:Nat} {k:IntKind} {i:Int} (h:P.underlying t=some (.slice e)) (g:(P.info? e).isSome=true) (j:0<=i/\i<(len:Int)) :
  (Instr.indexAt t (.slice (some ⟨b,c,none⟩) len d) (.int k i)).run P w=.ok (.pointer (some ⟨b,c+i.toNat*P.cellsOf e,none⟩)) w:=by
 obtain⟨l,f⟩:=Option.isSome_iff_exists.1 g;unfold Instr.indexAt;simp only[Sem.run_bind,asIntOf,Sem.run_pure,Result.andThen_ok,bm h,Sem.run_ite,aj j,cE f,ld]
theorem mg {t:TypeId} (h:uu P t=true):(P.info? t).isSome=true/\(P.underlying t).isSome=true/\(bZ P t=false->P.cellsOf t=1):=by simp only[uu,aQ,oD] at h;obtain⟨⟨c,d⟩,h3⟩:=h;refine⟨c,d,fun b=>?_⟩;rcases h3 with h3|h3;rw[h3] at b;cases b;exact beq_true h3
theorem fM {t e:TypeId} {n:Nat} (h:lf P t=true) (ht:P.underlying t=some (.array n e)\/P.underlying t=some (.slice e)) :
  (P.info? e).isSome=true/\(P.underlying e).isSome=true/\(bZ P e=false->P.cellsOf e=1):=by
 refine mg ?_;rcases ht with ht|ht<;>simpa[lf,ht] using h
theorem AD {t:TypeId} {f:Nat} {b:Field} (h:lf P t=true) (d:sD P t f=some b) :
  (P.info? b.type).isSome=true/\(P.underlying b.type).isSome=true/\(bZ P b.type=false->P.cellsOf b.type=1):=by
 obtain⟨g,c,e⟩:=vz d;simp only[lf,c,ni] at h;exact mg (h b (Array.mem_of_getElem? e))
theorem zH {i:Int} {n:Nat} (h:OK i n=true):0<=i/\i<(n:Int):=by
 unfold OK at h;split at h
 ·rename_i m;have:m<n:=by simpa[lB] using h
  exact⟨Int.natCast_nonneg _,by simp;exact this⟩
 cases h
theorem NA (K:Ctx w0 id ρ B w) {t:TypeId} {x y:Operand} {l:Bool} {vs:List SV} (F:lf P t=true) (h:Ax P t l vs=some out) (V:∀ p∈out.pre,p) (U:bn ρ vs [a.eval x,a.eval y]):cf P id B ⟨dst,.indexAddr t x y,ty,pos,af,gd⟩ out ρ a w:=by
 unfold Ax at h;split at h;rename_i n e b Q k i g;obtain⟨Y,Z,r,d,f⟩:=cv U;simp only[br,bM] at r;obtain⟨rfl,rfl⟩:=r;obtain⟨b',E,C⟩:=n5 d;have D:=b9 f;obtain⟨G,W,X⟩:=fM F (.inl g);split at h;split at h;rename_i z;simp[ret] at h;subst h;exact aR K (bL rfl (by rw[C,D];exact run_indexAt_array g G (zH z))) (Ge E);simp at h;simp at h;subst h;exact aR K (bL rfl (by rw[C,D];exact run_indexAt_array g G (V _ au))) (Gd E rfl);rename_i n e b I j c k i g;obtain⟨Y,Z,r,d,f⟩:=cv U;simp only[br,bM] at r;obtain⟨rfl,rfl⟩:=r;obtain⟨b',E,C⟩:=yO d;have D:=b9 f;obtain⟨G,W,X⟩:=fM F (.inl g);split at h;rename_i z;simp[ret] at h;subst h;exact aR K (bL rfl (by rw[C,D];exact run_indexAt_array g G (zH z))) (Gd E aa);simp at h
 ·rename_i n e e' xs j Q k i g;obtain⟨Y,Z,r,d,f⟩:=cv U;simp only[br,bM] at r;obtain⟨rfl,rfl⟩:=r;obtain⟨b,o,u,z,C⟩:=Cu d;have D:=b9 f;obtain⟨G,W,X⟩:=fM F (.inl g);split at h;split at h;rename_i T;simp[ret] at h;subst h;exact aR K (bL rfl (by rw[C,D];exact run_indexAt_array g G (zH T))) (C1 u z aa);simp at h
  ·split at h
   ·rename_i c A;simp at h;subst h;have hi:0<=i/\i<(n:Int):=V _ au;cases e' with
    | arr m R =>
     simp only[WW] at A;split at A
     ·rename_i E;simp only[aQ] at E;have h1:=beq_true E.1.1;have h2:=beq_true E.1.2;have h3:=gR E.2;simp only[az] at A;subst A;subst h1;obtain⟨L,hM,hL,hR⟩:=u;have hg:=ye (fun _ _=>bV) hR z ([]:List (aA R));obtain⟨N,O⟩:=hg;have x1:j*width (.arr m R)+width (.arr m R)<=xs.length*width (.arr m R):=by
       rw[<- iZ];exact fb _ aa
      refine aR K (bL rfl (by rw[C,D];exact run_indexAt_array g G hi)) ⟨b,o+j*width (.arr m R),⟨L,hM,?_,?_⟩,by rw[N];omega,?_⟩;rw[N];simp only[width] at hL x1 ⊢;omega;rw[N];rw[qE,lv,fJ] at O;rw[iY aa] at O;exact O;rw[h2];simp only[gn,tM]
     simp at A
    | _=>simp[WW] at A
   simp at h
 ·rename_i e b I Q len c k i g;obtain⟨Y,Z,r,d,f⟩:=cv U;simp only[br,bM] at r;obtain⟨rfl,rfl⟩:=r;have D:=b9 f;obtain⟨G,W,X⟩:=fM (n:=0) F (.inr g);split at h
  ·rename_i q;have q:=beq_true q;simp at h;subst h;have H:0<=i/\i<(len:Int):=V _ au;rcases nR d with ⟨h0,_⟩|⟨b',o,x0,E,hl,ho,_,C⟩;omega;have ho:o=I+Q*c:=by
    rcases ho with ho|ho;exact ho;omega
   subst ho;exact aR K (bL rfl (by rw[C,D];exact run_indexAt_slice g G H)) (Gd E (by rw[Hm,ff,q];omega))
  simp at h
 rename_i e e' xs k i g;obtain⟨Y,Z,r,d,f⟩:=cv U;simp only[br,bM] at r;obtain⟨rfl,rfl⟩:=r;have D:=b9 f;obtain⟨G,W,X⟩:=fM (n:=0) F (.inr g);split at h;rename_i q;have q:=beq_true q;simp at h;subst h;have H:0<=i/\i<(xs.length:Int):=V _ au;rcases Ct d with ⟨h0,_⟩|⟨b',o,x0,C,hl,u⟩;subst h0;simp at H;omega;exact aR K (bL rfl (by rw[C,D];exact run_indexAt_slice g G H)) (C1 u aa (by rw[q];omega));simp at h;simp at h
theorem Jy {t:TypeId} {h:TypeDesc} (d:P.underlying t=some h) (o:bZ P t=false->P.cellsOf t=1) {l:List Value} {c:Nat} {x:TV}
  (k:bZ P t=true->x.rel ρ (.agg ⟨(l.drop c).take (P.cellsOf t)⟩)) (m:bZ P t=false->∃ v,(l.drop c).take (P.cellsOf t)=[v]/\x.rel ρ v):∃ v,(part t ⟨l⟩ c).run P w=.ok v w/\x.rel ρ v:=by
 obtain⟨n,e⟩:=lQ d;cases b:bZ P t with
 | true =>refine⟨_,?_,k b⟩;unfold part;simp only[Sem.run_bind,jA d,Result.andThen_ok,b,eA,cE e,Sem.run_pure];congr 2;simp
 | false =>
  obtain⟨v,f,g⟩:=m b;refine⟨v,?_,g⟩;unfold part;simp only[Sem.run_bind,jA d,Result.andThen_ok,b,lU,dT];rw[o b] at f;have:=congrArg (fun l:List Value=>l[0]?) f;have j:l[c]?=some v:=by simpa[fI] using this
  simp[j]
theorem abe (L:Ctx w0 id ρ B w) {t:TypeId} {x y:Operand} {U:Bool} {Z:List SV} (N:lf P t=true) (h:M4 P t U Z=some out) (W:∀ p∈out.pre,p) (F:bn ρ Z [a.eval x,a.eval y]):cf P id B ⟨dst,.index t x y,ty,pos,af,gd⟩ out ρ a w:=by
 unfold M4 at h;split at h
 ·rename_i n e cs Y i E;obtain⟨z1,z2,k,g,j⟩:=cv F;simp only[br,bM] at k;obtain⟨rfl,rfl⟩:=k;have I:=b9 j;obtain⟨l,H,X⟩:=g;obtain⟨q1,q2,G⟩:=fM N (.inl E);obtain⟨ds,q⟩:=Option.isSome_iff_exists.1 q2;obtain⟨ie,O⟩:=Option.isSome_iff_exists.1 q1;have D:0<=i/\i<(n:Int)->∀ (v:Value),(part e ⟨l⟩ (i.toNat*P.cellsOf e)).run P w=.ok v w ->
    (Instr.index t (a.eval x) (a.eval y)).run P w=.ok v w:=by
   intro r v F;rw[H,I];unfold Instr.index;simp only[Sem.run_bind,asIntOf,Sem.run_pure,Result.andThen_ok,bm E,Sem.run_ite,aj r,cE O];exact F
  split at h;split at h;rename_i m b hm;split at h;rename_i z R;simp[ret] at h;subst h;obtain⟨T,C⟩:=wg hm X;obtain⟨g1,g2⟩:=n3 R T (fun h=>by rw[G h] at C ⊢;simp;omega);obtain⟨v,d,f⟩:=Jy (w:=w) q G g1 g2;exact aR L (bL rfl (D (zH b) v d)) f;simp at h;simp at h
  ·split at h
   ·rename_i c;split at h
    ·rename_i e' m xs A;split at h
     ·rename_i z o R;simp only[aQ] at o;have K:=beq_true o.1;have x0:=gR o.2;simp at h;subst h;have r:0<=i/\i<(n:Int):=W _ au;obtain⟨T,C,k3⟩:=kz A (cT X);simp only at T C k3;have u:=fY (fun _ _=>bV) C;have V:=ye (fun _ _=>bV) C (i:=i.toNat) aa (zeroOf e');rw[K] at V u;have Q:i.toNat*P.cellsOf e+P.cellsOf e<=l.length:=by
       rw[u,<- iZ];exact fb _ aa
      obtain⟨g1,g2⟩:=n3 R (jk V) (fun h=>by rw[G h] at Q ⊢;simp;omega);obtain⟨v,d,f⟩:=Jy (w:=w) q G g1 g2;exact aR L (bL rfl (D r v d)) f
     simp at h
    simp at h
   simp at h
 ·rename_i sx Y i E;obtain⟨z1,z2,k,g,j⟩:=cv F;simp only[br,bM] at k;obtain⟨rfl,rfl⟩:=k;have H:=b9 g;have I:=b9 j;simp only[az] at h;subst h;have r:0<=i/\i<(sx.size:Int):=W _ au;have b:i.toNat<sx.size:=aa;have o:(jE sx).getD i.toNat 0=((sx[i.toNat]'b).toNat:Int):=by
   have hl:i.toNat<sx.data.toList.length:=by simpa using b
   simp only[jE,aX,dw,bz hl,cY,ct];rfl
  refine aR L (bL rfl ?_) (kL rfl);rw[H,I,run_index_string w t sx Y i E,dif_pos r,o]
 simp at h
theorem abd (C:Ctx w0 id ρ B w) {t:TypeId} {x:Operand} {f:Nat} {E:List SV} (n:lf P t=true) (h:M3 P t f E=some out) (I:bn ρ E [a.eval x]):cf P id B ⟨dst,.field t x f,ty,pos,af,gd⟩ out ρ a w:=by
 unfold M3 at h;split at h
 ·rename_i k T d;obtain⟨z,e,r⟩:=bS I;simp at e;subst e;obtain⟨l,A,H⟩:=r;obtain⟨Q,R,u⟩:=AD n d;obtain⟨U,c⟩:=Option.isSome_iff_exists.1 R;obtain⟨L,i⟩:=Option.isSome_iff_exists.1 Q;obtain⟨V,g,D⟩:=vz d;split at h
  ·rename_i m G;obtain⟨p,o⟩:=wg G H;split at h
   ·rename_i y K;simp[ret] at h;subst h;obtain⟨N,O⟩:=n3 K p (fun h=>by rw[u h];simp;rw[u h] at o;omega);cases b:bZ P k.type with
    | true =>refine aR C (v:=.agg ⟨(l.drop k.offset).take (P.cellsOf k.type)⟩) (bL rfl ?_) (N b);rw[A];unfold Instr.field part;simp only[Sem.run_bind,bm g,Result.andThen_ok,D,asAgg,Sem.run_pure,jA c,b,eA,cE i];congr 2;simp
    | false =>
     obtain⟨v,j,q⟩:=O b;refine aR C (v:=v) (bL rfl ?_) q;rw[A];unfold Instr.field part;simp only[Sem.run_bind,bm g,Result.andThen_ok,D,asAgg,Sem.run_pure,jA c,b,lU,dT];rw[u b] at j;have:=congrArg (fun l:List Value=>l[0]?) j;have F:l[k.offset]?=some v:=by simpa[fI] using this
     simp[F]
   simp at h
  simp at h
 simp at h
theorem RK:∀ {l:List TV} {b:List Value} {i:Nat} {x:TV},eM ρ l b->l[i]?=some x->∃ v,b[i]?=some v/\x.rel ρ v:=by
 intro l;induction l with
 | nil=>intro b i x _ h;simp at h
 | cons t g f =>
  intro b i x e h;obtain⟨y,j,rfl,c,d⟩:=e;cases i with
  | zero=>simp at h;subst h;exact⟨y,rfl,c⟩
  | succ i=>simp at h;simpa using f d h
theorem T0 (j:Ctx w0 id ρ B w) {x:Operand} {i:Nat} {f:List SV} (h:Fg i f=some out) (m:bn ρ f [a.eval x]):cf P id B ⟨dst,.extract x i,ty,pos,af,gd⟩ out ρ a w:=by unfold Fg at h;split at h;rename_i l;obtain⟨z,e,d⟩:=bS m;simp at e;subst e;obtain⟨o,g,k⟩:=d;split at h;rename_i y n;simp[ret] at h;subst h;obtain⟨v,b,c⟩:=RK k n;refine aR j (v:=v) (bL rfl ?_) c;rw[g];simp[Instr.extract,b];simp at h;simp at h
theorem Rp {b:BinOp} {t:TypeId} {k:IntKind} {i j:Int} {v:Value} {p:List Prop} (e:HS b=false) (h:Ll b k i j=some (v,p)) (d:∀ q∈p,q) :
  (binOp b t (.int k i) (.int k j)).run P w=.ok v w/\v.oneCell'=true:=by
 cases b<;>simp[HS] at e<;>simp[Ll] at h<;>obtain⟨rfl,rfl⟩:=h<;>refine⟨?_,rfl⟩ <;>
  first
   | (simp[binOp,Op.intArith];done)
   | (simp[binOp,Op.intBits,aF];done)
   | (simp[binOp,Op.intCmp];done)
   | (have c:=d _ (List.mem_singleton.2 rfl);simp[binOp,Op.intDiv,c];done)
theorem Rq {b:BinOp} {t:TypeId} {k k':IntKind} {i j:Int} {v:Value} (h:Mu b k i j=some v) (d:0<=j) :
  (binOp b t (.int k i) (.int k' j)).run P w=.ok v w/\v.oneCell'=true:=by
 have c:¬ j<0:=aa;cases b<;>simp[Mu] at h<;>subst h<;>refine⟨?_,rfl⟩<;>simp[binOp,Op.shift,c]
theorem xp {b:BinOp} {t:TypeId} {x y:Operand} {k k':IntKind} {i j:Int}:(eqGuard b t x y (.int k i) (.int k' j)).run P w=.ok () w:=by cases b<;>simp[eqGuard]
theorem vY {b:BinOp} {t:TypeId} {x y:Operand} {i j:Bool}:(eqGuard b t x y (.bool i) (.bool j)).run P w=.ok () w:=by cases b<;>simp[eqGuard]
theorem gN {c:Cell} {b:Bool} {v:Value} (h:vq c=some b) (d:(SV.is (.one c)).rel ρ v):v=.bool b:=by
 cases c with
 | T=>simp[vq] at h;subst h;have:[v]=_:=d;simpa using this
 | F=>simp[vq] at h;subst h;have:[v]=_:=d;simpa using this
 | v x =>cases x<;>simp[vq] at h;subst h;exact b9 d
 | _=>simp[vq] at h
theorem JK {t:TypeId} {k:Bool} {A C:List Cell} {u v:Value} (h:Zc P t k A C=some out) (E:∀ p∈out.pre,p) (K:(SV.is (.agg A)).rel ρ u) (L:(SV.is (.agg C)).rel ρ v) (x y:Operand) :
  ∃ r p,out={ val:=.is (.one (.v (.bool r))),pre:=p }/\(do eqGuard (bif k then .neq else .eql) t x y u v;binOp (bif k then .neq else .eql) t u v).run P w=.ok (.bool r) w:=by
 unfold Zc at h;split at h
 ·rename_i e I Q;split at h
  ·rename_i l ps m qs N O i;simp at h;subst h;refine⟨_,_,rfl,?_⟩;simp only[aQ,oz] at i;obtain⟨⟨⟨c,q⟩,i⟩,j⟩:=i;have j:=beq_true j;obtain⟨Y,F,U⟩:=K;obtain⟨Z,G,V⟩:=L;obtain⟨u1,W,D,f2,n⟩:=iy (l9 ρ) _ _ _ _ _ _ N (fun p d=>E p (gS _ d)) U;obtain⟨v1,X,g1,g2,o⟩:=iy (l9 ρ) _ _ _ _ _ _ O (fun p d=>E p (ij _ d)) V;have n:W=[]:=n;have o:X=[]:=o;subst n o;rw[bq] at D g1;subst D g1;obtain⟨f,s⟩:=CS c f2;obtain⟨g,z⟩:=CS c g2;have R:(fl e l).length=P.cellsOf t:=by rw[<- j,<- bV f2,f];simp
   have T:(fl e m).length=P.cellsOf t:=by rw[<- j,<- bV g2,g];simp
   have b:=EZ (P:=P) 20 t I 10000 aa (fl e l) (fl e m) w (s.trans z.symm) R T;have H:decide (fl e l=fl e m)=mC e l m:=by rw[lp,ik,CU];exact⟨acq c f2 g2,fun h=>by rw[h]⟩
   rw[H] at b;simp only[valOf,q] at b;rw[F,G,f,g];cases k with
   | true=>simp only[cond_true,Sem.run_bind,run_eqGuard_agg w _ t x y _ _ i,Result.andThen_ok,run_neq_struct,b]
   | false=>simp only[cond_false,Sem.run_bind,run_eqGuard_agg w _ t x y _ _ i,Result.andThen_ok,run_eql_struct,b]
  simp at h
 simp at h
theorem je {b:BinOp} {t:TypeId} {x y:Operand} {p q:Option Addr}:(eqGuard b t x y (.pointer p) (.pointer q)).run P w=.ok () w:=by cases b<;>simp[eqGuard]
theorem kS {t pt:TypeId} (c:P.underlying t=some (.pointer pt)) {b:Option Addr}:(Op.equal t (.pointer b) (.pointer none)).run P w=.ok b.isNone w:=by unfold Op.equal Op.maxDepth;rw[show (10000:Nat)=9999+1 from rfl,Op.equalIn];cases b<;>simp only[Sem.run_bind,bm c,Result.andThen_ok,Sem.run_pure]<;>rfl
theorem Nm {c:Cell} {v:Value} (h:HR c=true) (b:(SV.is (.one c)).rel ρ v):v=.pointer none:=by unfold HR at h;split at h;exact b9 b;cases h
theorem Lo {c:Cell} {v:Value} (h:Lm c=true) (d:(SV.is (.one c)).rel ρ v):∃ f,v=.pointer (some f):=by cases c<;>simp[Lm] at h;obtain⟨b,_,e⟩:=n5 d;exact⟨_,e⟩;obtain⟨b,_,e⟩:=yO d;exact⟨_,e⟩;obtain⟨b,o,_,_,e⟩:=Cu d;exact⟨_,e⟩
theorem afT (l:Ctx w0 id ρ B w) {H:BinOp} {t R:TypeId} {x y:Operand} {I:List SV} (h:XD P H t I=some out) (C:∀ p∈out.pre,p) (E:bn ρ I [a.eval x,a.eval y]):cf P id B ⟨dst,.binOp H t x y R,ty,pos,af,gd⟩ out ρ a w:=by unfold XD at h;split at h;rename_i k i k' j;obtain⟨K,L,n,b,f⟩:=cv E;simp only[br,bM] at n;obtain⟨rfl,rfl⟩:=n;have e:=b9 b;have g:=b9 f;split at h;split at h;rename_i v F;simp at h;subst h;obtain⟨g1,g2⟩:=Rq (P:=P) (w:=w) (t:=t) (k':=k') F (C _ au);exact aR l (bL rfl (by rw[e,g];simp only[Sem.run_bind,xp,Result.andThen_ok];exact g1)) (kL g2);simp at h;rename_i Q;split at h;rename_i v p A z;simp at A;subst A;simp at h;subst h;obtain⟨g1,g2⟩:=Rp (P:=P) (w:=w) (t:=t) Q z C;exact aR l (bL rfl (by rw[e,g];simp only[Sem.run_bind,xp,Result.andThen_ok];exact g1)) (kL g2);simp at h;rename_i T U;obtain⟨K,L,n,b,f⟩:=cv E;simp only[br,bM] at n;obtain⟨rfl,rfl⟩:=n;split at h;obtain⟨r,p,rfl,D⟩:=JK (w:=w) h C b f x y;exact aR l (bL rfl D) (kL rfl);obtain⟨r,p,rfl,D⟩:=JK (w:=w) h C b f x y;exact aR l (bL rfl D) (kL rfl);simp at h;rename_i c d _;obtain⟨K,L,n,b,f⟩:=cv E;simp only[br,bM] at n;obtain⟨rfl,rfl⟩:=n;split at h;rename_i m;split at h;rename_i p q o u;have e:=gN o b;have g:=gN u f;simp[fA] at h;subst h;exact aR l (bL rfl (by rw[e,g];simp only[Sem.run_bind,vY,Result.andThen_ok,binOp,run_equal_bool w t p q m,Sem.run_pure])) (kL rfl);rename_i p q o u;have e:=gN o b;have g:=gN u f;simp[fA] at h;subst h;exact aR l (bL rfl (by rw[e,g];simp only[Sem.run_bind,vY,Result.andThen_ok,binOp,run_equal_bool w t p q m,Sem.run_pure])) (kL rfl);simp at h;rename_i pt m;split at h;rename_i O;have g:=Nm O f;split at h;rename_i z;obtain⟨N,e⟩:=Lo z b;simp[ret] at h;subst h;refine aR l (v:=.bool false) (bL rfl ?_) rfl;rw[e,g];simp only[Sem.run_bind,je,Result.andThen_ok,binOp,kS m,Sem.run_pure,wG];rename_i z;obtain⟨N,e⟩:=Lo z b;simp[ret] at h;subst h;refine aR l (v:=.bool true) (bL rfl ?_) rfl;rw[e,g];simp only[Sem.run_bind,je,Result.andThen_ok,binOp,kS m,Sem.run_pure,wG,oE];split at h;obtain⟨⟨p,e,G⟩,_⟩:=b;simp only[br,bM] at e;simp[fA] at h;subst h;refine aR l (bL rfl ?_) (kL rfl);rw[e,g];simp only[Sem.run_bind,je,Result.andThen_ok,binOp,kS m,Sem.run_pure];rw[<- G];cases p<;>rfl;have e:=b9 b;simp[ret] at h;subst h;refine aR l (v:=.bool true) (bL rfl ?_) rfl;rw[e,g];simp only[Sem.run_bind,je,Result.andThen_ok,binOp,kS m,Sem.run_pure,wH];simp at h;split at h;obtain⟨⟨p,e,G⟩,_⟩:=b;simp only[br,bM] at e;simp[fA] at h;subst h;refine aR l (bL rfl ?_) (kL rfl);rw[e,g];simp only[Sem.run_bind,je,Result.andThen_ok,binOp,kS m,Sem.run_pure];rw[<- G];cases p<;>rfl;have e:=b9 b;simp[ret] at h;subst h;refine aR l (v:=.bool false) (bL rfl ?_) rfl;rw[e,g];simp only[Sem.run_bind,je,Result.andThen_ok,binOp,kS m,Sem.run_pure,wH,oF];simp at h;simp at h;simp at h;simp at h;simp at h
theorem ajh (f:Ctx w0 id ρ B w) {i:UnOp} {t:TypeId} {x:Operand} {j:List SV} (h:xUn i j=some out) (g:bn ρ j [a.eval x]):cf P id B ⟨dst,.unOp i t x,ty,pos,af,gd⟩ out ρ a w:=by unfold xUn at h;split at h;obtain⟨z,e,b⟩:=bS g;simp at e;subst e;have d:=gN (c:=.T) rfl b;simp[ret] at h;subst h;exact aR f (v:=.bool false) (bL rfl (by rw[d];simp[Op.unary])) (show [Value.bool false]=_ from rfl);obtain⟨z,e,b⟩:=bS g;simp at e;subst e;have d:=gN (c:=.F) rfl b;simp[ret] at h;subst h;exact aR f (v:=.bool true) (bL rfl (by rw[d];simp[Op.unary])) (show [Value.bool true]=_ from rfl);obtain⟨z,e,b⟩:=bS g;simp at e;subst e;have d:=b9 b;simp[fA] at h;subst h;exact aR f (bL rfl (by rw[d];simp[Op.unary])) (kL rfl);obtain⟨z,e,b⟩:=bS g;simp at e;subst e;have d:=b9 b;simp[fA] at h;subst h;exact aR f (bL rfl (by rw[d];simp[Op.unary,Op.intArith])) (kL rfl);obtain⟨z,e,b⟩:=bS g;simp at e;subst e;have d:=b9 b;simp[fA] at h;subst h;exact aR f (bL rfl (by rw[d];rfl)) (kL rfl);simp at h
end
theorem SN (b:Nat):∀ (u:List Value) (s:Nat) (l:List Value),b+s+u.length<=l.length ->
  (u.zipIdx s).foldl (fun (c:Array Value) (p:Value × Nat)=>c.setIfInBounds (b+p.2) p.1) ⟨l⟩=⟨l.take (b+s)++(u++l.drop (b+s+u.length))⟩:=by
 intro u;induction u with
 | nil=>intro s l _;simp
 | cons x u g =>
  intro s l h;simp only[List.zipIdx_cons,List.foldl_cons];have f:b+s<l.length:=by simp at h;omega
  rw[show (⟨l⟩:Array Value).setIfInBounds (b+s) x=⟨l.set (b+s) x⟩ from by simp];rw[g (s+1) _ (by simp at h ⊢;omega)];have d:(l.set (b+s) x).take (b+(s+1))=l.take (b+s)++[x]:=by rw[show b+(s+1)=(b+s)+1 from by omega,cr (by simpa using f)];simp[List.take_set_of_le]
  have e:(l.set (b+s) x).drop (b+(s+1)+u.length)=l.drop (b+s+(x::u).length):=by rw[List.drop_set_of_lt aa];congr 1;simp;omega
  rw[d,e];simp
def EO (ρ:ay):List (Nat × SV)->List (Nat × Value)->Prop
 | [],b=>b=[]
 | p::d,b=>∃ x c,b=(p.1,x)::c/\p.2.rel ρ x/\EO ρ d c
theorem Ci {ρ:ay}:∀ (c:List Nat) (b:List SV) (d:List Value),c.length=b.length->bn ρ b d->EO ρ (c.zip b) (c.zip d):=by
 intro c;induction c with
 | nil=>intro b d h e;cases b<;>simp at h;rfl
 | cons i c k =>
  intro b d h e;cases b with
  | nil=>simp at h
  | cons v b =>obtain⟨x,f,rfl,g,j⟩:=e;exact⟨x,c.zip f,rfl,g,k b f (by simpa using h) j⟩
theorem KP {ρ:ay} {c:Nat->Option (Nat × Nat)}:∀ (j:List (Nat × SV)) (k:List (Nat × Value)) (d b:List Cell) (l:List Value),
  EO ρ j k->rC c d j=some b->ax ρ d l->∃ m,Instr.fill c ⟨l⟩ k=some ⟨m⟩/\ax ρ b m:=by
 intro j;induction j with
 | nil =>intro k d b l q h y;have:k=[]:=q;subst this;simp[rC] at h;subst h;exact⟨l,rfl,y⟩
 | cons p j H =>
  intro k d b l q h y;obtain⟨x,K,rfl,C,D⟩:=q;obtain⟨i,v⟩:=p;cases v with
  | is L =>
   simp only[rC] at h;split at h
   ·rename_i e I r;split at h
    ·rename_i A;split at h
     ·rename_i o f;obtain⟨u,F,g⟩:=TV.xo C;obtain⟨z,E⟩:=EV f y g;obtain⟨m,g1,g2⟩:=H K o b _ D h z;refine⟨m,?_,g2⟩;unfold Instr.fill;have G:u.length=I:=by rw[gw g];exact beq_true A
      simp only[r,F];rw[ah (by simp;omega)];have:=SN e u 0 l aa;simp only[gn] at this;rw[show (Array.zipIdx ⟨u⟩:Array (Value × Nat))=⟨u.zipIdx⟩ from by simp];rw[show (⟨u.zipIdx⟩:Array (Value × Nat)).foldl (fun (d:Array Value) (p:Value × Nat)=>d.setIfInBounds (e+p.2) p.1) ⟨l⟩=u.zipIdx.foldl (fun (d:Array Value) (p:Value × Nat)=>d.setIfInBounds (e+p.2) p.1) ⟨l⟩ from by simp];rw[this];exact g1
     simp at h
    simp at h
   simp at h
  | _=>simp[rC] at h
section
variable {P:Program} {w0:cw} {id:Nat} {ρ:ay} {B:bA} {w:World} {a:Act} {dst:Option Tmp} {ty:TypeId} {pos:String} {af:Array Edge} {gd:Option (Nat × Bool)} {out:Out}
theorem run_places:∀ (b:List Field),(∀ f∈b,(P.info? f.type).isSome=true) ->
  (b.mapM fun (f:Field)=>(do pure (f.offset,<- Go.sizeOf f.type):Sem (Nat × Nat))).run P w=.ok (b.map fun (f:Field)=>(f.offset,P.cellsOf f.type)) w:=by
 intro b;induction b with
 | nil=>intro _;simp
 | cons f b e =>intro h;obtain⟨i,d⟩:=Option.isSome_iff_exists.1 (h f au);simp only[List.mapM_cons,Sem.run_bind,cE d,Result.andThen_ok,Sem.run_pure,e (fun g c=>h g (by simp[c]))];simp
theorem AJ (b:List (Nat × Operand)):(b.map fun p=>(p.1,a.eval p.2))=(b.map (·.1)).zip (b.map fun p=>a.eval p.2):=by
 induction b with
 | nil=>rfl
 | cons p b c=>simp;exact c
theorem Fx {e:TypeId} {n:Nat} {b:List Cell} {l:List Value} (c:∀ p∈(yi P e n b).2,p) (d:ax ρ b l):ax ρ (yi P e n b).1 l:=by unfold yi at c ⊢;split;rename_i k f;simp only[f] at c;split;rename_i u j i;simp only[i] at c;obtain⟨s,q,h,m,o,g⟩:=L3 (R:=Rd ρ.M k) (fun b x j r l=>iy (l9 ρ) k b x j r l) _ _ _ _ _ _ i c d;have g:q=[]:=g;subst g;rw[bq] at h;subst h;exact bJ (fR m o);exact d;exact d
theorem P7 {t:TypeId} {b:List Cell} {l:List Value} (c:∀ p∈(Bu P t b).2,p) (d:ax ρ b l):ax ρ (Bu P t b).1 l:=by unfold Bu at c ⊢;split;rename_i n e f;simp only[f] at c;exact Fx c d;exact d
theorem abb (E:Ctx w0 id ρ B w) {t:TypeId} {d:Array (Nat × Operand)} {A:List SV} (j:lf P t=true) (h:M1 P t (d.toList.map (·.1)) A=some out) (H:∀ p∈out.pre,p) (K:bn ρ A (d.toList.map fun p=>a.eval p.2)):cf P id B ⟨dst,.build t d,ty,pos,af,gd⟩ out ρ a w:=by
 unfold M1 at h;split at h
 ·rename_i O g c L;split at h
  ·rename_i D F;simp at h;subst h;have c:=beq_true c;obtain⟨i,z,G,y,I⟩:=xG (ρ:=ρ) L;have m:=Ci _ A _ c K;rw[<- AJ] at m;obtain⟨C,g1,g2⟩:=KP _ _ _ _ _ m F I;refine aR E (v:=.agg ⟨C⟩) (bL (s:=Instr.build t (d.map fun p=>(p.1,a.eval p.2))) rfl ?_) ⟨C,rfl,P7 H g2⟩;unfold Instr.build zeroValue;simp only[Sem.run_bind,pk G,Result.andThen_ok,y,Sem.run_pure];unfold bZ at g;split at g
   ·rename_i o k;simp only[bm k,Result.andThen_ok];have l:∀ f∈o.toList,(P.info? f.type).isSome=true:=by
     intro f r;simp only[lf,k,ni] at j;exact (mg (j f (Array.mem_toList_iff.1 r))).1
    rw[Array.mapM_eq_mapM_toList];simp only[Sem.run_bind,Sem.run_map,run_places _ l,Result.andThen_ok];have b:(fun (x:Nat)=>(o.toList.map fun f=>(f.offset,P.cellsOf f.type)).toArray[x]?)=vJ P t:=by funext x;simp only[vJ,k];simp;cases o[x]? <;> rfl
    simp only[b];rw[show ((d.map fun p=>(p.1,a.eval p.2)).toList)=d.toList.map fun p=>(p.1,a.eval p.2) from by simp];rw[show z.cells=⟨z.cells.toList⟩ from rfl,g1];simp
   ·rename_i n e q;obtain⟨N,R,T⟩:=fM j (.inl q);obtain⟨Q,u⟩:=Option.isSome_iff_exists.1 N;simp only[bm q,Result.andThen_ok,Sem.run_bind,cE u];have b:(fun (i:Nat)=>some (i*P.cellsOf e,P.cellsOf e))=vJ P t:=by
     funext x;simp only[vJ,q]
    simp only[b];rw[show ((d.map fun p=>(p.1,a.eval p.2)).toList)=d.toList.map fun p=>(p.1,a.eval p.2) from by simp];rw[show z.cells=⟨z.cells.toList⟩ from rfl,g1];simp
   simp at g
  simp at h
 simp at h
theorem Bx {b:List Cell} {l:List Value} (h:ax ρ b l):∀ n,ax ρ (rep n b) (rep n l):=by
 intro n;induction n with
 | zero=>rfl
 | succ n c=>exact gv h c
theorem Jw (l:List Value) (g:l≠[]):∀ n,(Array.range (n*l.length)).map (fun i=>(⟨l⟩:Array Value)[i%(⟨l⟩:Array Value).size]!)=⟨rep n l⟩:=by
 intro n;have d:0<l.length:=by cases l<;>simp_all
 apply jr;simp only[Array.toList_map,Array.toList_range];induction n with
 | zero=>simp[rep]
 | succ n c =>
  rw[iZ,List.range_add,de,c];have:∀ n,rep n l++l=rep (n+1) l:=by
   intro n;induction n with
   | zero=>simp[rep]
   | succ n c=>rw[rep,cB,c];simp[rep]
  rw[<- this n];congr 1;apply mQ;simp
  ·intro i b f;simp at b;simp only[wN,Bc];have e:(n*l.length+i)%l.length=i:=by
    rw[oG,Nat.add_mul_mod_self_right,il b]
   simp only[Bf,e];simp[b]
theorem GC {c:Type} (l:List c):∀ n,(rep n l).length=n*l.length:=by
 intro n;induction n with
 | zero=>simp[rep]
 | succ n b=>simp[rep,b,iZ,oG]
theorem D3:∀ (f:List Cell) (n:Nat) (a b:List Cell),fU f n=some (a,b)->cy a=n/\n+cy b=cy f:=by
 intro f;induction f with
 | nil =>
  intro n a b h;cases n with
  | zero=>simp only[fU,az,aI] at h;obtain⟨rfl,rfl⟩:=h;simp[cy]
  | succ n=>simp[fU] at h
 | cons c f l =>
  intro n a b h;cases n with
  | zero=>simp only[fU,az,aI] at h;obtain⟨rfl,rfl⟩:=h;simp[cy]
  | succ n =>
   simp only[fU] at h;split at h
   ·rename_i e m u d;have i:c.size=m*width e:=by
     cases c<;>simp[kX] at d;obtain⟨rfl,d⟩:=d;obtain⟨rfl,_⟩:=(by simpa using d);simp[Cell.size,width];obtain⟨rfl,d⟩:=d;obtain⟨rfl,_⟩:=(by simpa using d);rfl
    split at h;rename_i g;have g:=fL g;split at h;rename_i k;have k:=beq_true k;simp only[az,aI] at h;obtain⟨rfl,rfl⟩:=h;simp only[cy,QQ,i,Nat.sub_mul];generalize (n+1)/width e*width e=q at *;omega;simp at h;rename_i g;have g:=wU g;split at h;rename_i o p j;simp only[az,aI] at h;obtain⟨rfl,rfl⟩:=h;obtain⟨s,t⟩:=l _ _ _ j;simp only[cy,i];omega;simp at h
   ·rename_i d;have r:c.size=1:=by cases c<;>simp[kX] at d<;>rfl
    split at h;rename_i o p j;simp only[az,aI] at h;obtain⟨rfl,rfl⟩:=h;obtain⟨s,t⟩:=l _ _ _ j;simp only[cy,r];omega;simp at h
theorem Ej (a b:List Cell):cy (a++b)=cy a+cy b:=by
 induction a with
 | nil=>simp[cy]
 | cons c e d=>simp[cy,d,tM]
theorem TN {f d c:List Cell} {e:Nat} (h:EU f e d=some c):cy c=cy f:=by
 unfold EU at h;cases g:fU f e with
 | none=>rw[g] at h;simp at h
 | some p =>
  obtain⟨a,r⟩:=p;rw[g] at h;simp only at h;cases b:fU r (cy d) with
  | none=>rw[b] at h;simp at h
  | some i =>obtain⟨l,m⟩:=i;rw[b] at h;simp only[az] at h;subst h;have j:=D3 _ _ _ _ g;have k:=D3 _ _ _ _ b;simp only[Ej];omega
theorem Qr {c:Nat->Option (Nat × Nat)}:∀ {e:List (Nat × SV)} {d b:List Cell},rC c d e=some b->cy b=cy d:=by
 intro e;induction e with
 | nil=>intro d b h;simp[rC] at h;rw[h]
 | cons p e g =>
  intro d b h;obtain⟨i,x⟩:=p;cases x with
  | is x =>simp only[rC] at h;split at h;split at h;split at h;rename_i f;rw[g h,TN f];simp at h;simp at h;simp at h
  | _=>simp[rC] at h
theorem Mq (T:Ctx w0 id ρ B w) {t:TypeId} {len:Nat} {k:Array (Nat × Operand)} {E:List SV} (y:lf P t=true) (h:ya P id t len (k.toList.map (·.1)) E=some out) (V:∀ p∈out.pre,p) (W:bn ρ E (k.toList.map fun p=>a.eval p.2)):cf P id B ⟨dst,.buildSlice t len k,ty,pos,af,gd⟩ out ρ a w:=by
 unfold ya at h;split at h
 ·rename_i e I b;split at h
  ·rename_i Y K u;simp only[aQ] at u;have Q:len*P.cellsOf e<16777217:=by simpa[lB] using u.1.1
   have R:0<P.cellsOf e:=by simpa[lB] using u.1.2
   split at h
   ·rename_i N G;split at h;simp at h;rename_i d Z o;simp at h;subst h;have b:=beq_true b;obtain⟨i,z,H,D,C⟩:=xG (ρ:=ρ) K;have q:=Ci _ E _ b W;rw[<- AJ] at q;obtain⟨L,g1,g2⟩:=KP _ _ _ _ _ q G (Bx C len);obtain⟨q1,q2,q3⟩:=fM (n:=0) y (.inr I);have f:z.cells.toList.length=P.cellsOf e:=by
     rw[gw C];have:=beq_true u.2;simpa[K] using this
    have A:len*P.cellsOf e=L.length:=by rw[gw g2,Qr G,<- gw (Bx C len),GC,f]
    have F:execOp a.eval ⟨dst,.buildSlice t len k,ty,pos,af,gd⟩=(do pure (.value (<- Instr.buildSlice t len (k.map fun (i,x)=>(i,a.eval x))))):=rfl;have m:(fun (i,x)=>(i,a.eval x):Nat × Operand->Nat × Value)=fun p=>(p.1,a.eval p.2):=rfl;rw[m] at F;refine tn T (l:=L) (t:=e) (v:=.slice (some ⟨w.heap.size,0,none⟩) len len) (bL F ?_) (by rw[<- o];exact Fx V g2) (fun X h U=>.inr ⟨_,0,len,h,aE _,.inl au,by rw[U];simp[A],rfl⟩);unfold Instr.buildSlice zeroValue;simp only[Sem.run_bind,bm I,Result.andThen_ok,cE H,Sem.run_ite];rw[ah aa];have c:((Array.range (len*P.cellsOf e)).map fun i=>z.cells[i%z.cells.size]!)=⟨rep len z.cells.toList⟩:=by have:=Jw z.cells.toList (by intro O;rw[O] at f;simp at f;omega) len;rw[f] at this;exact this
    have r:(k.map fun p=>(p.1,a.eval p.2)).toList=k.toList.map fun p=>(p.1,a.eval p.2):=au;by_cases g:len*P.cellsOf e=0
    ·have j:len=0:=by
      rcases Nat.mul_eq_zero.1 g with h|h;exact h;omega
     subst j;simp only[g,eA,Sem.run_pure,Result.andThen_ok];rw[r];simp only[rep] at g1;rw[show (Array.map (fun i=>(#[]:Array Value)[i%(#[]:Array Value).size]!) (Array.range 0))=⟨[]⟩ from by simp,g1];simp only[newRow,Sem.run_bind,run_newObj,Result.andThen_ok,Sem.run_pure];rfl
    simp only[g,dT,pk H,Result.andThen_ok,D,Sem.run_pure];rw[c,r,g1];simp only[newRow,Sem.run_bind,run_newObj,Result.andThen_ok,Sem.run_pure];rfl
   simp at h
  simp at h
 simp at h
def iQ (c:Option Int) (b:Nat):Nat:=match c with
 | some m=>m.toNat
 | none=>b
theorem sz {n b:Nat} (I:n<=b) {G E H:Option Operand} {r:List SV} {l h:Int} {m:Option Int} {p:List Prop} (d:Bq n G E H r=some (l,h,m,p)) (C:∀ q∈p,q)
  (j:bn ρ r ((G.map a.eval).toList++((E.map a.eval).toList++(H.map a.eval).toList))) (F:Bool) :
  0<=l/\l<=h/\h<=(n:Int)/\h<=(iQ m b:Int)/\iQ m b<=b/\(Instr.sliceBounds F n b (G.map a.eval) (E.map a.eval) (H.map a.eval)).run P w=.ok (l.toNat,h.toNat,iQ m b) w:=by
 unfold Bq at d;split at d;simp at d;obtain⟨rfl,rfl,rfl,rfl⟩:=d;refine⟨aa,aa,aa,by simp[iQ];omega,by simp[iQ],?_⟩;simp[Instr.sliceBounds,iQ];rename_i x k y;simp at d;obtain⟨rfl,rfl,rfl,rfl⟩:=d;simp only[lq,wI,dH,bq,cY,tC] at j;obtain⟨z,e,t⟩:=bS j;simp at e;subst e;have o:=b9 t;have u:0<=y/\y<=(n:Int):=C _ au;refine⟨aa,aa,aa,by simp[iQ];omega,by simp[iQ],?_⟩;simp only[Instr.sliceBounds,lq,cY,o,Instr.sliceBound,asIntOf,Sem.run_bind,Sem.run_pure,Result.andThen_ok,Sem.run_ite,aj (show 0<=y/\y<=(b:Int) from ⟨u.1,aa⟩)];rfl;rename_i x k y;simp at d;obtain⟨rfl,rfl,rfl,rfl⟩:=d;simp only[lq,wI,bq,cY,tC] at j;obtain⟨z,e,t⟩:=bS j;simp at e;subst e;have o:=b9 t;have u:0<=y/\y<=(n:Int):=C _ au;refine⟨aa,aa,aa,by simp[iQ];omega,by simp[iQ],?_⟩;simp only[Instr.sliceBounds,lq,cY,o,Instr.sliceBound,asIntOf,Sem.run_bind,Sem.run_pure,Result.andThen_ok,Sem.run_ite,aj u];rfl;rename_i x L k y K c;simp at d;obtain⟨rfl,rfl,rfl,rfl⟩:=d;simp only[lq,wI,bq,cY,tC,iX,dH] at j;obtain⟨z,N,e,t,g⟩:=cv j;simp only[br,bM] at e;obtain⟨rfl,rfl⟩:=e;have o:=b9 t;have f:=b9 g;have u:0<=y/\y<=c/\c<=(n:Int):=C _ au;refine⟨aa,aa,aa,by simp[iQ];omega,by simp[iQ],?_⟩;simp only[Instr.sliceBounds,lq,cY,o,f,Instr.sliceBound,asIntOf,Sem.run_bind,Sem.run_pure,Result.andThen_ok,Sem.run_ite,aj (show 0<=c/\c<=(b:Int) from ⟨aa,aa⟩),aj (show 0<=y/\y<=(c.toNat:Int) from ⟨aa,aa⟩)];rfl;rename_i x L k y K c;simp at d;obtain⟨rfl,rfl,rfl,rfl⟩:=d;simp only[lq,wI,dH,cY,tC,iX] at j;obtain⟨z,N,e,t,g⟩:=cv j;simp only[br,bM] at e;obtain⟨rfl,rfl⟩:=e;have o:=b9 t;have f:=b9 g;have u:0<=y/\y<=c/\c<=(n:Int):=C _ au;refine⟨aa,aa,aa,by simp[iQ];omega,by simp[iQ];omega,?_⟩;simp only[Instr.sliceBounds,lq,cY,o,f,Instr.sliceBound,asIntOf,Sem.run_bind,Sem.run_pure,Result.andThen_ok,Sem.run_ite,aj (show 0<=c/\c<=(b:Int) from ⟨aa,aa⟩),aj (show 0<=y/\y<=(c.toNat:Int) from ⟨aa,aa⟩)];rfl;rename_i x L Q k y K c O i;simp at d;obtain⟨rfl,rfl,rfl,rfl⟩:=d;simp only[cY,tC,iX,dH] at j;obtain⟨z,N,R,e,t,g,D⟩:=qd j;simp only[br,bM] at e;obtain⟨rfl,rfl,rfl⟩:=e;have o:=b9 t;have f:=b9 g;have A:=b9 D;have u:0<=y/\y<=c/\c<=i/\i<=(n:Int):=C _ au;refine⟨aa,aa,aa,by simp[iQ];omega,by simp[iQ];omega,?_⟩;simp only[Instr.sliceBounds,cY,o,f,A,Instr.sliceBound,asIntOf,Sem.run_bind,Sem.run_pure,Result.andThen_ok,Sem.run_ite,aj (show 0<=i/\i<=(b:Int) from ⟨aa,aa⟩),aj (show 0<=c/\c<=(i.toNat:Int) from ⟨aa,aa⟩),aj (show 0<=y/\y<=(c.toNat:Int) from ⟨aa,aa⟩)];rfl;simp at d
theorem R0 {e:Kd} {M:Mem} {b o l n:Nat} {d:List (aA e)} (h:mo (Rd M e) (width e) M b o d) (k:l+n<=d.length):mo (Rd M e) (width e) M b (o+l*width e) ((d.drop l).take n):=by
 obtain⟨L,i,p,j⟩:=h;have g:=(gX (fun _ _=>bV) l j).2;have f:=(gX (fun _ _=>bV) n g).1;have m:l*width e+n*width e<=d.length*width e:=by rw[<- ff];exact fb _ k
 have c:((d.drop l).take n).length=n:=by simp;omega
 refine⟨L,i,by rw[c];omega,?_⟩;rw[c];rw[qE,lv,fJ,iY aa] at f;exact f
theorem abg (N:Ctx w0 id ρ B w) {t:TypeId} {x:Operand} {lo Z mx:Option Operand} {vs:List SV} (R:lf P t=true) (h:M6 P t lo Z mx vs B=some out) (hp:∀ p∈out.pre,p)
  (hv:bn ρ vs (a.eval x::((lo.map a.eval).toList++((Z.map a.eval).toList++(mx.map a.eval).toList)))):cf P id B ⟨dst,.slice t x lo Z mx,ty,pos,af,gd⟩ out ρ a w:=by
 have j:execOp a.eval ⟨dst,.slice t x lo Z mx,ty,pos,af,gd⟩=(do pure (.value (<- Instr.sliceAt t (a.eval x) (lo.map a.eval) (Z.map a.eval) (mx.map a.eval)))):=rfl;unfold M6 at h;split at h
 ·rename_i n e b I r E;obtain⟨q1,q2,q3⟩:=fM R (.inl E);obtain⟨ie,i⟩:=Option.isSome_iff_exists.1 q1;split at h
  ·rename_i c cs l g m p hB Q;split at h
   ·rename_i x3;obtain⟨y,ys,O,hy,u⟩:=hv;simp only[br] at O;obtain⟨rfl,rfl⟩:=O;obtain⟨z,D,F⟩:=n5 hy;simp at h;subst h;obtain⟨g1,g2,X,K,A,C⟩:=sz (P:=P) (w:=w) (aE n) Q hp u false;generalize iQ m n=d at *;obtain⟨L,Y,hr⟩:=N.blks _ _ hB au z D;have x4:I+n*P.cellsOf e<=ρ.n b:=by
     have h1:=gR x3;have h2:=gw hr;have h3:=Y.len;omega
    have x0:l.toNat*P.cellsOf e+(d-l.toNat)*P.cellsOf e<=n*P.cellsOf e:=by rw[<- ff];exact fb _ aa
    by_cases f:d=l.toNat;refine aR N (v:=.slice (some ⟨z,I,none⟩) (g.toNat-l.toNat) (d-l.toNat)) (bL j ?_) (.inr ⟨z,I,d-l.toNat,D,aa,.inr aa,by rw[show d-l.toNat=0 by omega];omega,by rw[show g.toNat-l.toNat=(g-l).toNat by omega]⟩);rw[F];unfold Instr.sliceAt;simp only[Sem.run_bind,bm E,Result.andThen_ok,Instr.sureAddr,Sem.run_pure,C,cE i,aj f];refine aR N (v:=.slice (some ⟨z,I+l.toNat*P.cellsOf e,none⟩) (g.toNat-l.toNat) (d-l.toNat)) (bL j ?_) (.inr ⟨z,_,d-l.toNat,D,aa,.inl rfl,aa,by rw[show g.toNat-l.toNat=(g-l).toNat by omega]⟩);rw[F];unfold Instr.sliceAt;simp only[Sem.run_bind,bm E,Result.andThen_ok,Instr.sureAddr,Sem.run_pure,C,cE i,ah f,ld]
   simp at h
  simp at h
 ·rename_i e b x8 I len c r E;obtain⟨q1,q2,q3⟩:=fM (n:=0) R (.inr E);obtain⟨ie,i⟩:=Option.isSome_iff_exists.1 q1;split at h
  ·rename_i l g m p Q q;have q:=beq_true q;subst q;obtain⟨y,ys,O,hy,u⟩:=hv;simp only[br] at O;obtain⟨rfl,rfl⟩:=O;simp at h;subst h;rcases nR hy with ⟨h0,F⟩|⟨z,o,k,D,hl,ho,x4,F⟩;obtain⟨g1,g2,X,K,A,C⟩:=sz (P:=P) (w:=w) (aE len) Q hp u true;subst h0;have U:l=0:=aa;have T:g=0:=aa;have x2:iQ m 0=0:=aa;rw[x2] at C;subst U T;refine aR N (v:=.slice none 0 0) (bL j ?_) (.inl ⟨rfl,rfl⟩);rw[F];unfold Instr.sliceAt Instr.slice;simp only[Sem.run_bind,bm E,Result.andThen_ok,Sem.run_pure,C,cE i,lq,ite_self];rfl
   ·obtain⟨g1,g2,X,K,A,C⟩:=sz (P:=P) (w:=w) hl Q hp u true;generalize iQ m k=d at *;have x0:l.toNat*P.cellsOf e+(d-l.toNat)*P.cellsOf e<=k*P.cellsOf e:=by rw[<- ff];exact fb _ aa
    by_cases f:d=l.toNat;refine aR N (v:=.slice (some ⟨z,o,none⟩) (g.toNat-l.toNat) (d-l.toNat)) (bL j ?_) (.inr ⟨z,o,d-l.toNat,D,aa,.inr aa,by rw[show d-l.toNat=0 by omega];omega,by rw[show g.toNat-l.toNat=(g-l).toNat by omega]⟩);rw[F];unfold Instr.sliceAt Instr.slice;simp only[Sem.run_bind,bm E,Result.andThen_ok,Sem.run_pure,C,cE i,aj f];refine aR N (v:=.slice (some ⟨z,o+l.toNat*P.cellsOf e,none⟩) (g.toNat-l.toNat) (d-l.toNat)) (bL j ?_) (.inr ⟨z,o+l.toNat*P.cellsOf e,d-l.toNat,D,aa,?_,aa,by rw[show g.toNat-l.toNat=(g-l).toNat by omega]⟩);rw[F];unfold Instr.sliceAt Instr.slice;simp only[Sem.run_bind,bm E,Result.andThen_ok,Sem.run_pure,C,cE i,ah f,cY,ld];rcases ho with ho|ho;exact .inl (by rw[ho,Hm,ff];omega);exact .inr aa
  simp at h
 ·rename_i e e' xs r E;obtain⟨q1,q2,q3⟩:=fM (n:=0) R (.inr E);obtain⟨ie,i⟩:=Option.isSome_iff_exists.1 q1;split at h
  ·rename_i l g m p Q q;have q:=beq_true q;obtain⟨y,ys,O,hy,u⟩:=hv;simp only[br] at O;obtain⟨rfl,rfl⟩:=O;simp at h;subst h;rcases Ct hy with ⟨h0,ad,k,F,hz⟩|⟨z,o,k,F,hl,x1⟩
   ·subst h0;obtain⟨g1,g2,X,K,A,C⟩:=sz (P:=P) (w:=w) (a2 k) Q hp u true;generalize iQ m k=d at *;have U:l=0:=by simp at X;omega
    have T:g=0:=by simp at X;omega
    subst U T;have x5:∃ G,(if d=(0:Int).toNat then ad else ad.map (·.add ((0:Int).toNat*P.cellsOf e)))=G/\(G=none->d-0=0):=by
     refine⟨_,rfl,fun h=>?_⟩;split at h;·simp_all
     ·have:ad=none:=by simpa using h
      have:=hz this;omega
    obtain⟨G,x6,x7⟩:=x5;refine aR N (v:=.slice G 0 (d-0)) (bL j ?_) (.inl ⟨au,G,d-0,rfl,x7⟩);rw[F];unfold Instr.sliceAt Instr.slice;simp only[Sem.run_bind,bm E,Result.andThen_ok,Sem.run_pure];simp only[C,Result.andThen_ok,cE i,x6];rfl
   ·obtain⟨g1,g2,X,K,A,C⟩:=sz (P:=P) (w:=w) hl Q hp u true;generalize iQ m k=d at *;have H:((xs.drop l.toNat).take (g-l).toNat).length=(g-l).toNat:=by simp;omega
    have V:g.toNat-l.toNat=(g-l).toNat:=aa;have W:=R0 (l:=l.toNat) (n:=(g-l).toNat) x1 aa;by_cases f:d=l.toNat;refine aR N (v:=.slice (some ⟨z,o,none⟩) (g.toNat-l.toNat) (d-l.toNat)) (bL j ?_) (.inl ⟨dP (by rw[H];omega),_,d-l.toNat,by rw[show g.toNat-l.toNat=0 by omega],fun h=>by cases h⟩);rw[F];unfold Instr.sliceAt Instr.slice;simp only[Sem.run_bind,bm E,Result.andThen_ok,Sem.run_pure,C,cE i,aj f];refine aR N (v:=.slice (some ⟨z,o+l.toNat*P.cellsOf e,none⟩) (g.toNat-l.toNat) (d-l.toNat)) (bL j ?_) (.inr ⟨z,_,d-l.toNat,by rw[H,V],by rw[H];omega,by rw[<- q];exact W⟩);rw[F];unfold Instr.sliceAt Instr.slice;simp only[Sem.run_bind,bm E,Result.andThen_ok,Sem.run_pure,C,cE i,ah f,cY,ld]
  simp at h
 simp at h
theorem afV (D:Ctx w0 id ρ B w) {f:Array TypeId} {args:Array Operand} {E:List SV} (h:XF P f E=some out) (r:bn ρ E (args.toList.map a.eval)):cf P id B ⟨dst,.call ⟨.builtin .len,args,f⟩,ty,pos,af,gd⟩ out ρ a w:=by
 have A:execOp a.eval ⟨dst,.call ⟨.builtin .len,args,f⟩,ty,pos,af,gd⟩=(do pure (.value (<- Builtin.len_ f ty (args.map a.eval)))):=rfl;have C:∀ y,args.toList.map a.eval=[y]->(args.map a.eval)[0]?=some y:=by intro y u;have:=congrArg (fun l:List Value=>l[0]?) u;simpa using this
 have x:∀ (y:Value) (n:Nat) (e t:TypeId),args.toList.map a.eval=[y]->f[0]?=some t->P.underlying t=some (.slice e)->(∃ p c,y=.slice p n c) ->
   (Builtin.len_ f ty (args.map a.eval)).run P w=.ok (.int .i64 n) w:=by
  intro y n e t u G H ⟨p,c,j⟩;unfold Builtin.len_;simp only[G,C y u];simp only[Sem.run_bind,bm H,Result.andThen_ok,j,Sem.run_pure];rfl
 have k:∀ (y:Value) (n:Nat) (e:TypeId),(f[0]?).bind P.underlying=some (.slice e)->args.toList.map a.eval=[y]->(∃ p c,y=.slice p n c)->∀ p,cf P id B ⟨dst,.call ⟨.builtin .len,args,f⟩,ty,pos,af,gd⟩ { val:=.is (.one (.v (.int .i64 n))),pre:=p } ρ a w:=by
  intro y n e b g d p;cases m:f[0]? with
  | none=>simp[m] at b
  | some t =>simp[m] at b;exact aR D (bL A (x y n e t g m b d)) (kL rfl)
 unfold XF at h;split at h;rename_i e i z I n c b;obtain⟨y,g,j⟩:=bS r;simp[fA] at h;subst h;refine k y n e b g ?_ _;rcases nR j with ⟨rfl,d⟩|⟨F,o,q,N,O,Q,_,d⟩;exact⟨_,_,d⟩;exact⟨_,_,d⟩;rename_i e L K b;obtain⟨y,g,j⟩:=bS r;simp[fA] at h;subst h;refine k y K.length e b g ?_ _;rcases Ct j with ⟨rfl,a,q,d,_⟩|⟨F,o,q,d,_⟩;exact⟨_,_,d⟩;exact⟨_,_,d⟩;rename_i e b;obtain⟨y,g,j⟩:=bS r;simp[fA] at h;subst h;exact k y 0 e b g ⟨_,_,b9 j⟩ _
 ·rename_i s b;obtain⟨y,g,j⟩:=bS r;have d:=b9 j;simp[fA] at h;subst h;cases m:f[0]? with
  | none=>simp[m] at b
  | some t =>simp[m] at b;refine aR D (bL A ?_) (kL rfl);unfold Builtin.len_;simp only[m,C y g];simp only[Sem.run_bind,bm b,Result.andThen_ok,d,Sem.run_pure];rfl
 simp at h
theorem DN {e:TypeId} {b:Kd} (h:FH P e=some b) :
  ∃ i z,P.info? e=some i/\i.zero=some z/\z.cells.toList=iA b/\i.size=width b/\width b=P.cellsOf e/\0<width b/\i.bytes=bytesOf P e/\zk b=true:=by
 unfold FH at h;split at h;rename_i d k s j r n p z o ms m f q;split at h;rename_i c;simp at h;subst h;simp only[aQ] at c;have g:=beq_true c.1.2;refine⟨_,z,f,rfl,AI c.1.1.1,?_,g,fL c.2,by simp[bytesOf,f],c.1.1.2⟩;rw[g];simp[Program.cellsOf,f];simp at h;simp at h
theorem se {b:Kd} (c:zk b=true):(iA b).length=width b:=bV (M:=fun _=>none) (yf c)
theorem WS {b:Kd} (c:zk b=true):∀ n,dY (Rd ρ.M b) (replicate n (zeroOf b)) (rep n (iA b)):=by
 intro n;induction n with
 | zero=>exact rfl
 | succ n d=>exact⟨_,_,rfl,yf c,d⟩
theorem aeK (I:Ctx w0 id ρ B w) {t:TypeId} {x y:Operand} {D:List SV} (h:RV P id t D=some out) (O:∀ p∈out.pre,p) (R:bn ρ D [a.eval x,a.eval y]):cf P id B ⟨dst,.makeSlice t x y,ty,pos,af,gd⟩ out ρ a w:=by
 unfold RV at h;split at h
 ·rename_i e kl l U c Q;obtain⟨X,Y,u,o,q⟩:=cv R;simp only[br,bM] at u;obtain⟨rfl,rfl⟩:=u;have E:=b9 o;have F:=b9 q;split at h
  ·rename_i r k;simp at h;subst h;obtain⟨i,z,K,T,f,n,W,L,j,d⟩:=DN k;obtain⟨G,m,H,g⟩:0<=l/\l<=c/\(bytesOf P e:Int)*c<=281474976710656/\c<=9223372036854775807:=O _ au;have C:=run_make (P:=P) w t e i z Q K T kl U l c G m (by rw[j];exact H) g;have b:madeCells z.cells (c.toNat*i.size)=⟨rep c.toNat (iA r)⟩:=by
    have A:=Jw z.cells.toList (by rw[f];intro h;have:=congrArg length h;rw[se d] at this;simp at this;omega) c.toNat;rw[f,se d] at A;rw[<- A,n];unfold madeCells;have:z.cells=⟨iA r⟩:=by rw[<- f]
    rw[this]
   rw[b] at C;refine tn I (l:=rep c.toNat (iA r)) (t:=e) (bL rfl (by rw[E,F];exact C)) (bJ (fR au (WS d _))) (fun V h N=>.inr ⟨_,0,c.toNat,h,aa,.inl au,by rw[N,GC,se d];omega,rfl⟩)
  simp at h
 simp at h
theorem xv (T:Ctx w0 id ρ B w) {C:Kd} {v:SV} {m:Nat} {A:List (aA C)} {p:List Prop} {u:Value} (h:Dx B C v=some (m,A,p)) (U:∀ q∈p,q) (F:v.rel ρ u) :
  A.length=m/\∃ k,dY (Rd ρ.M C) A k/\((u=.slice none 0 0/\m=0)\/∃ y n,u=.slice (some y) m n/\∀ j x,k[j]?=some x->w.cell? (y.add j)=some x):=by
 have own:∀ (i f off c:Nat) (d:Cell) (D:List Cell),B i=some (d::D)->(∀ l,ax ρ (d::D) l->A.length=m/\c=width C/\f+off*c+m*c<=l.length/\dY (Rd ρ.M C) A ((l.drop (f+off*c)).take (m*c)))->(m=0->A=[]) ->
   (SV.is (.one (.sl i f off m c))).rel ρ u->A.length=m/\∃ k,dY (Rd ρ.M C) A k/\((u=.slice none 0 0/\m=0)\/∃ y n,u=.slice (some y) m n/\∀ j x,k[j]?=some x->w.cell? (y.add j)=some x):=by
  intro i f off c d D N hx W F;rcases nR F with ⟨E,z⟩|⟨Q,o,n,O,I,ho,x1,z⟩;have:=W E;subst E this;exact⟨rfl,[],rfl,.inl ⟨z,rfl⟩⟩
  ·obtain⟨l,G,hr⟩:=T.blks _ _ N au Q O;obtain⟨k1,k2,k3,k4⟩:=hx l hr;refine⟨k1,_,k4,.inr ⟨_,_,z,fun j x t=>?_⟩⟩;have H:j<m*c:=by
    have:=(List.getElem?_eq_some_iff.1 t).1;simp at this;omega
   have x0:0<m:=by rcases qx m with h|h;subst h;simp at H;exact h
   have ho:o=f+off*c:=by rcases ho with ho|ho;exact ho;omega
   subst ho;rw[ld];refine G.cell ?_;rw[fI] at t;simpa[H] using t
 unfold Dx at h;split at h;rename_i i f off m' c;split at h;rename_i d D N;split at h;rename_i xs q g;simp only[az,aI] at h;obtain⟨rfl,rfl,rfl⟩:=h;refine own i f off c d D N (fun l I=>xu g U I) (fun E=>?_) F;subst E;unfold uV at g;split at g;split at g;simp only[az,aI] at g;rw[<- g.1];simp;simp at g;simp at g;split at h;rename_i xs q g;simp only[az,aI] at h;obtain⟨rfl,rfl,rfl⟩:=h;refine own i f off c d D N (fun l I=>xt (R:=Rd ρ.M C) (fun _ _=>bV) (fun V x ps r l=>iy (l9 ρ) C V x ps r l) g U I) (fun E=>?_) F;subst E;unfold uU at g;split at g;split at g;rename_i K;simp only[pN,az,aI] at g K;rw[<- g.1,<- K.1];simp at g;simp at g;simp at h;simp at h
 ·rename_i e xs;split at h
  ·rename_i Z _;subst Z;simp only[az,aI,qJ] at h;obtain⟨rfl,rfl,rfl⟩:=h;rcases Ct F with ⟨rfl,y,n,z,hz⟩|⟨Q,o,n,z,I,L,X,hL,Y⟩
   ·refine⟨rfl,[],rfl,?_⟩;cases y with
    | none=>rw[hz rfl] at z;exact .inl ⟨z,rfl⟩
    | some y=>exact .inr ⟨y,n,z,fun j x t=>by simp at t⟩
   refine⟨rfl,_,Y,.inr ⟨_,_,z,fun j x t=>?_⟩⟩;rw[ld];refine Im T X ?_;rw[fI] at t;split at t;simpa using t;cases t
  simp at h
 simp only[az,aI] at h;obtain⟨rfl,rfl,rfl⟩:=h;exact⟨rfl,[],rfl,.inl ⟨b9 F,rfl⟩⟩;simp at h
theorem b6.full {b N:Nat} {l:List Value} (h:b6 w b N l):∃ L,b6 w b N L/\L.length=N/\∃ r,L=l++r:=by obtain⟨c,e,fr,f,d,g⟩:=h;exact⟨l++c,⟨[],e,fr,by simpa using f,by simpa using d,g⟩,d,c,rfl⟩
theorem b6.pre {b N:Nat} {l r:List Value} (h:b6 w b N (l++r)):b6 w b N l:=by obtain⟨d,e,fr,f,g,j⟩:=h;exact⟨r++d,e,fr,by simpa using f,by simpa using g,j⟩
theorem yQ {t ty e:TypeId} {i:TypeInfo} {z:Value} (R:P.underlying t=some (.slice e)) (Q:P.info? e=some i) (hz:i.zero=some z) (O:z.cells.size=i.size)
  {y u:Value} {len m:Nat} {g d:List Value}
  (hy:(y=.slice none 0 0/\len=0/\g=[])\/∃ b o c N L,y=.slice (some ⟨b,o,none⟩) len c/\len<=c/\(o=0\/c=0)/\o+c*i.size<=N/\b6 w b N L/\len*i.size<=L.length/\g=L.take (len*i.size))
  (T:(u=.slice none 0 0/\m=0)\/∃ q c,u=.slice (some q) m c/\∀ j x,d[j]?=some x->w.cell? (q.add j)=some x)
  (s:d.length=m*i.size) (K:∀ x∈d,x.oneCell'=true) (hb:(len+m)*i.bytes<=140737488355328) (x2:len+m<=4611686018427387904) :
  (y=.slice none 0 0/\m=0/\(Builtin.append_ #[t,t] ty #[y,u]).run P w=.ok (.slice none 0 0) w) \/
  (∃ b o c N L f,y=.slice (some ⟨b,o,none⟩) len c/\len+m<=c/\(o=0\/c=0)/\b6 w b N L/\(Builtin.append_ #[t,t] ty #[y,u]).run P w=.ok (.slice (some ⟨b,o,none⟩) (len+m) c) f /\
   b6 f b N (g++d)/\f.heap.size=w.heap.size/\(∀ C,C≠b->f.heap[C]?=w.heap[C]?)/\f.os=w.os/\f.tape=w.tape/\f.output=w.output) \/
  (∃ p A,len+m<=p/\(g++d++A).length=p*i.size /\
   (Builtin.append_ #[t,t] ty #[y,u]).run P w=.ok (.slice (some ⟨w.heap.size,0,none⟩) (len+m) p) (w.drew.alloc (.cells ⟨g++d++A⟩ e))):=by
 have I:Builtin.lenOf u=pure m:=by rcases T with ⟨rfl,rfl⟩|⟨q,c,rfl,_⟩<;>rfl
 have hf:(Builtin.firstCells i.size m u).run P w=.ok d.toArray w:=by rcases T with ⟨rfl,rfl⟩|⟨q,c,rfl,h⟩;have:d=[]:=dP (by simpa using s);subst this;exact run_firstCells_none w _ _ _ _;exact run_firstCells_some w i.size m q m c d s h
 rcases hy with ⟨rfl,rfl,rfl⟩|⟨b,o,c,N,L,rfl,x0,D,hN,n,hL,rfl⟩;by_cases hm:m=0;subst hm;refine .inl ⟨rfl,rfl,?_⟩;simp[Builtin.append_,run_underlying R,sizeOf,typeInfo,Q,I,hf];rcases T with ⟨_,h0⟩|⟨q,c,rfl,h⟩;exact absurd h0 hm;have G:=grownCap_ge w m 0 e;refine .inr (.inr ⟨grownCap w m 0 e,(Builtin.zeroCells z.cells (grownCap w m 0 e-m)).toList,aa,?_,?_⟩);simp only[dH,bb,nh,size_zeroCells,O,s,<- ff];congr 1;omega;rw[run_append_nil (P:=P) w t ty e i z R Q hz q m c d s h aa aa (by rw[bH] at hb;omega)];rw[bH];congr 3;apply jr;simp
 ·by_cases k:len+m<=c
  ·refine .inr (.inl ?_);have x1:len*i.size+d.length<=c*i.size:=by rw[s,<- ff];exact fb _ k
   have Z:∃ f,(storeCells ⟨b,o+len*i.size,none⟩ d).run P w=.ok () f/\b6 f b N (L.take (len*i.size)++d)/\f.heap.size=w.heap.size/\(∀ C,C≠b->f.heap[C]?=w.heap[C]?)/\f.os=w.os/\f.tape=w.tape/\f.output=w.output:=by
    by_cases V:c=0
    ·have h1:len=0:=by omega
     have h2:m=0:=aa;subst h1 h2;have:d=[]:=dP (by simpa using s);subst this;exact⟨w,by simp[storeCells],by simpa using b6.pre (l:=[]) n,rfl,fun _ _=>rfl,rfl,rfl,rfl⟩
    ·have D:o=0:=by
      rcases D with h|h;exact h;exact absurd h V
     subst D;obtain⟨L',W,x3,r,X⟩:=n.full;obtain⟨f,g1,g2,U⟩:=pb (P:=P) (b:=b) (off:=0+len*i.size) d 0 w L' W aa K;refine⟨f,g1,?_,U⟩;have e1:L'.take (0+len*i.size+0)=L.take (len*i.size):=by rw[X,gn,bH,lR hL]
     rw[e1,<- cB] at g2;exact b6.pre g2
   obtain⟨f,g1,g2,U,g4,g5,g6,g7⟩:=Z;refine⟨b,o,c,N,L,f,rfl,k,D,n,?_,g2,U,g4,g5,g6,g7⟩;simp[Builtin.append_,run_underlying R,sizeOf,typeInfo,Q,I,k,hf,ld,g1]
  ·rcases T with ⟨_,h0⟩|⟨q,F,rfl,h⟩;omega;have G:=grownCap_ge w (len+m) c e;have E:(L.take (len*i.size)).length=len*i.size:=by simp;omega
   refine .inr (.inr ⟨grownCap w (len+m) c e,(Builtin.zeroCells z.cells (grownCap w (len+m) c e-(len+m))).toList,G,?_,?_⟩);simp only[bb,E,nh,size_zeroCells,O,s,<- ff];congr 1;omega
   ·rw[run_append_grow (P:=P) w t ty e i z R Q hz ⟨b,o,none⟩ len c (L.take (len*i.size)) E (fun j v Y=>?_) q m F d s h aa aa (growslice_fits aa hb)];congr 3;apply jr;simp
    ·have H:j<len*i.size:=by
      have:=(List.getElem?_eq_some_iff.1 Y).1;rw[E] at this;exact this
     have D:o=0:=by
      rcases D with h|h;exact h
      ·have:len=0:=by omega
       subst this;simp at H
     subst D;rw[ld,bH];refine n.cell ?_;rw[fI] at Y;simpa[H] using Y
theorem yr (A:Ctx w0 id ρ B w) {wr:List (Nat × List Cell)} {b n:Nat} {o:List Cell} {l:List Value} {m:World} (x:SV) (p:List Prop) (t:w.heap.size<=b\/∃ q∈wr,ρ q.1=some b/\q.2=[])
  (C:m.os=w.os) (D:m.tape=w.tape) (E:m.output=w.output) (k:w.heap.size<=m.heap.size) (j:∀ c,c<w.heap.size->(∀ p∈wr,ρ p.1≠some c)->m.heap[c]?=w.heap[c]?)
  (d:b6 m b n l) (F:ax ρ o l) (z:∀ p∈wr,∀ q∈wr,p.1=q.1->p=q) (s:∀ p∈wr,(∃ o,B p.1=some o/\o≠[])/\p.2=[]) :
  Eff id B { val:=x,new:=[(id,o)],wr:=wr,pre:=p } ρ (ρ.push id b n) w m:=by
 have r:ay.le ρ (ρ.push id b n):=ay.O5 (A.free id (aE _) aa);refine⟨r,?_,?_,C,D,E,k,j,?_,?_,z,fun p f=>⟨(s p f).1,fun _ _ h=>absurd (s p f).2 h⟩,fun _ _ h=>.inl h⟩;intro i c h;by_cases e:i=id;subst e;rw[ay.iM] at h;simp at h;subst h;refine .inr ⟨aE _,aa,⟨(i,o),au,rfl⟩,?_⟩;rcases t with t|⟨q,u,y,_⟩;exact .inl t;exact .inr ⟨q,u,y⟩;rw[ay.Dk e] at h;exact .inl h;intro i c h;by_cases e:i=id;subst e;rw[ay.iM] at h;simp at h;subst h;exact d.lt;rw[ay.Dk e] at h;have:=A.bound i c h;omega;intro p f;simp at f;subst f;refine⟨aE _,by show id<id+8;omega,fun c g _=>?_⟩;rw[ay.iM] at g;simp at g;subst g;exact⟨t,l,by rw[ay.uj];exact d,dW r F⟩;intro p f q u _ _ _;simp at f u;rw[f,u]
theorem KG (j:Ctx w0 id ρ B w) {wr:List (Nat × List Cell)} {e:List Cell} (x:SV) (p:List Prop) (g:∀ p∈wr,∀ q∈wr,p.1=q.1->p=q) (f:∀ p∈wr,(∃ e,B p.1=some e/\e≠[])/\p.2=[]) :
  Eff id B { val:=x,new:=[(id,e)],wr:=wr,pre:=p } ρ ρ w w:=by
 have d:=j.free id (aE _) aa;refine⟨ay.le_refl _,fun _ _ h=>.inl h,j.bound,rfl,rfl,rfl,aE _,fun _ _ _=>rfl,?_,?_,g,fun p c=>⟨(f p c).1,fun _ _ h=>absurd (f p c).2 h⟩,fun _ _ h=>.inl h⟩;intro p c;simp at c;subst c;exact⟨aE _,by show id<id+8;omega,fun b i _=>by rw[show ρ (id,e).1=none from d] at i;cases i⟩;intro p c q k _ _ _;simp at c k;rw[c,k]
theorem b6.size_eq {b N e:Nat} {L f:List Value} (h:b6 w b N L) (j:b6 w b e f):N=e:=by obtain⟨r,m,fr,k,l,_⟩:=h;obtain⟨n,g,i,c,d,_⟩:=j;rw[k] at c;simp only[az,Obj.cells.injEq,Array.mk.injEq] at c;rw[<- l,<- d,c.1]
theorem Eh (w:World) (l r:List Value) (e:TypeId):b6 (w.drew.alloc (.cells ⟨l++r⟩ e)) w.heap.size (l++r).length l:=by refine⟨r,e,(0,0),?_,rfl,.inl rfl⟩;show (w.heap.push _)[w.heap.size]?=_;simp
theorem WY (W:Ctx w0 id ρ B w) {ts:Array TypeId} {args:Array Operand} {vs:List SV} (h:ID P id ts vs B=some out) (E:∀ p∈out.pre,p) (hv:bn ρ vs (args.toList.map a.eval)):cf P id B ⟨dst,.call ⟨.builtin .append,args,ts⟩,ty,pos,af,gd⟩ out ρ a w:=by
 have ex:execOp a.eval ⟨dst,.call ⟨.builtin .append,args,ts⟩,ty,pos,af,gd⟩=(do pure (.value (<- Builtin.append_ ts ty (args.map a.eval)))):=rfl;have z1:=W.free id (aE _) aa;unfold ID at h;split at h
 ·rename_i t t' d x x8;split at h
  ·rename_i e x9 hu;have x9:=beq_true x9;subst x9;have x8:ts=#[t,t]:=by rw[<- Array.toArray_toList (xs:=ts),x8]
   subst x8;obtain⟨y,u,e1,hy,y7⟩:=cv hv;have x0:args.map a.eval=#[y,u]:=by apply jr;simpa using e1
   rw[x0] at ex;split at h
   ·rename_i κ z0;obtain⟨i,z,hi,hz,z7,F,hm,u0,y1,z8⟩:=DN z0;have y8:z.cells.size=i.size:=by
     rw[<- nh,z7,F,se z8]
    split at h
    ·rename_i m ys p i0 len c k;split at h
     ·rename_i c0 hB x4;have x4:=beq_true x4;subst x4;split at h
      ·rename_i e' n xs y6;split at h
       ·rename_i he _;subst he;simp only[qJ,az] at h;subst h;have u1:len<=n:=E _ au;have x7:(len+m)*bytesOf P e<=140737488355328:=E _ au;have y5:len+m<=4611686018427387904:=E _ au;obtain⟨U,r,f,k⟩:=xv W k (fun q hq=>E q (by simp[hq])) y7;have x5:r.length=m*i.size:=by rw[fY (fun _ _=>bV) f,U,F]
        have y0:=nR hy;have H:∃ C,dY (Rd ρ.M e') (xs.take len) C/\(xs.take len).length=len/\((y=.slice none 0 0/\len=0/\C=[])\/∃ b o A N L,y=.slice (some ⟨b,o,none⟩) len A/\len<=A/\(o=0\/A=0)/\o+A*i.size<=N/\b6 w b N L/\len*i.size<=L.length/\C=L.take (len*i.size)):=by
         rcases y0 with ⟨h0,R⟩|⟨b,o,A,hb,hl,ho,Y,R⟩;subst h0;exact⟨[],rfl,rfl,.inl ⟨R,rfl,rfl⟩⟩
         ·obtain⟨l,T,hr⟩:=W.blks _ _ hB au b hb;obtain⟨k1,k2,k3⟩:=kz y6 (cT hr);simp only at k1 k2 k3;have z3:=fY (fun _ _=>bV) k2;have z2:len*width e'<=l.length:=by rw[z3];exact fb _ aa
          exact⟨_,(gX (fun _ _=>bV) len k2).1,by simp;omega,.inr ⟨b,o,A,ρ.n i0,l,R,hl,by simpa using ho,by rw[F];exact Y,T,by rw[F];exact z2,by rw[F]⟩⟩
        obtain⟨C,x6,z6,H⟩:=H;have Z:=yQ (P:=P) (w:=w) (ty:=ty) hu hi hz y8 H k x5 (yd (fun _ _=>vm) f) (by rw[y1];exact x7) y5;have I:ax ρ [jn e' (len+m) (xs.take len++ys)] (C++r):=bJ (fR (by rw[bb,z6,U]) (ze x6 f));have O:∀ p∈[(i0,([]:List Cell))],∀ q∈[(i0,([]:List Cell))],p.1=q.1->p=q:=by intro p E q hq _;simp at E hq;rw[E,hq]
        have K:∀ p∈[(i0,([]:List Cell))],(∃ cs,B p.1=some cs/\cs≠[])/\p.2=[]:=by intro p E;simp at E;subst E;exact⟨⟨_,hB,au⟩,rfl⟩
        intro next Q Y;unfold Oper.wp;rcases Z with ⟨R,X,g⟩|⟨b,o,A,N,L,w',R,y2,ho,T,g,g2,g3,g4,g5,g6,g7⟩|⟨G,V,y3,D,g⟩;rw[bL ex g];refine Y _ _ ρ (.inl ⟨?_,rfl⟩) (KG W _ _ O K);rcases y0 with ⟨h0,_⟩|⟨b,o,A,hb,hl,ho,y4,j⟩;omega;rw[R] at j;cases j
        ·rw[bL ex g];rcases y0 with ⟨h0,j⟩|⟨b',o',z9,hb,hl,z5,y4,j⟩;rw[R] at j;cases j
         ·rw[R] at j;simp only[Value.slice.injEq,az,Addr.mk.injEq,bM,true_and] at j;obtain⟨⟨rfl,rfl⟩,rfl⟩:=j;obtain⟨l,x3,u2⟩:=W.blks _ _ hB au b hb;have y9:=T.size_eq x3;subst y9;refine Y _ _ (ρ.push id b (ρ.n i0)) (.inr ⟨b,o,A,ay.iM,y2,by simpa using z5,by rw[ay.uj];exact y4,rfl⟩)
           (yr W _ _ (.inr ⟨(i0,[]),au,hb,rfl⟩) g5 g6 g7 aa (fun b' _ z4=>g4 b' (fun e=>by subst e;exact z4 (i0,[]) au hb)) g2 I O K)
        ·rw[bL ex g];rw[F] at D;have x2:=Eh w (C++r) V e;refine Y _ _ (ρ.push id w.heap.size (G*width e')) (.inr ⟨w.heap.size,0,G,ay.iM,y3,.inl au,by rw[ay.uj];omega,rfl⟩)
          (yr W _ _ (.inl (aE _)) rfl rfl rfl au (fun b' x1 _=>Below.heap_alloc w.drew _ b' x1) (by rw[<- D];exact x2) I O K)
       simp at h
      simp at h
     simp at h
    ·rename_i m ys p k;simp only[az] at h;subst h;have x7:m*bytesOf P e<=140737488355328:=E _ au;have y5:m<=4611686018427387904:=E _ au;obtain⟨U,r,f,k⟩:=xv W k (fun q hq=>E q (by simp[hq])) y7;have x5:r.length=m*i.size:=by rw[fY (fun _ _=>bV) f,U,F]
     have R:=b9 hy;have Z:=yQ (P:=P) (w:=w) (ty:=ty) (len:=0) hu hi hz y8 (.inl ⟨R,rfl,rfl⟩) k x5 (yd (fun _ _=>vm) f) (by rw[y1,bH];exact x7) aa;have I:ax ρ [jn κ m ys] ([]++r):=bJ (fR U f);have O:∀ p∈([]:List (Nat × List Cell)),∀ q∈([]:List (Nat × List Cell)),p.1=q.1->p=q:=by intro p E;cases E
     have K:∀ p∈([]:List (Nat × List Cell)),(∃ cs,B p.1=some cs/\cs≠[])/\p.2=[]:=by intro p E;cases E
     intro next Q Y;unfold Oper.wp;rcases Z with ⟨_,X,g⟩|⟨b,o,A,N,L,w',j,_⟩|⟨G,V,y3,D,g⟩;rw[bL ex g];exact Y _ _ ρ (.inl ⟨X,rfl⟩) (KG W _ _ O K);rw[R] at j;cases j
     ·rw[bL ex g];rw[F] at D;have x2:=Eh w ([]++r) V e;rw[bH];refine Y _ _ (ρ.push id w.heap.size (G*width κ)) (.inr ⟨w.heap.size,0,G,ay.iM,aa,.inl au,by rw[ay.uj];omega,rfl⟩)
       (yr W _ _ (.inl (aE _)) rfl rfl rfl au (fun b' x1 _=>Below.heap_alloc w.drew _ b' x1) (by rw[<- D];exact x2) I O K)
    simp at h
   simp at h
  simp at h
 simp at h
theorem TZ (Y:Ctx w0 id ρ B w) {s d:TypeId} {x:Operand} {vs:List SV} (h:Ff P id s d vs B=some out) (hv:bn ρ vs [a.eval x]):cf P id B ⟨dst,.convert s d x,ty,pos,af,gd⟩ out ρ a w:=by
 unfold Ff at h;split at h;rename_i k1 k2 k3 i L I;obtain⟨z,e,u⟩:=bS hv;simp at e;subst e;have R:=b9 u;simp[fA] at h;subst h;exact aR Y (bL rfl (by rw[R];simp[convert,bm L,bm I,Conv.intToInt])) (kL rfl)
 ·rename_i e y L I;obtain⟨z,O,u⟩:=bS hv;simp at O;subst O;have R:=b9 u;split at h
  ·rename_i he;simp at h;subst h;have t:=run_bytes_of_string (P:=P) w s d e (y) L I he;have H:(y).data.size=(y).size:=rfl;have x3:=grownCap_ge w (y).size 0 e;intro next Q hn;unfold Oper.wp;rw[bL rfl (by rw[R];exact t)];have r:(bytesRow (y) (grownCap w (y).size 0 e)).toList=(jE (y)).map (Value.int .u8)++replicate (grownCap w (y).size 0 e-(y).size) (.int .u8 0):=by
    simp[bytesRow,jE,tD]
   have A:(jE (y)).length=(y).size:=by simp only[jE,bU,nh];rfl
   have m:(bytesRow (y) (grownCap w (y).size 0 e)).size=grownCap w (y).size 0 e:=by rw[<- nh,r,bb,bU,oL,A];omega
   have T:b6 (w.drew.alloc (.cells (bytesRow (y) (grownCap w (y).size 0 e)) e ((bytesRow (y) (grownCap w (y).size 0 e)).size,(bytesRow (y) (grownCap w (y).size 0 e)).size+1))) w.heap.size (grownCap w (y).size 0 e) ((jE (y)).map (Value.int .u8)):=by refine⟨replicate (grownCap w (y).size 0 e-(y).size) (.int .u8 0),e,((bytesRow (y) (grownCap w (y).size 0 e)).size,(bytesRow (y) (grownCap w (y).size 0 e)).size+1),?_,?_,.inr ?_⟩;show (w.heap.push _)[w.heap.size]?=_;rw[<- r];simp;rw[<- r,nh,m];rw[m];exact aE _
   exact hn _ _ (ρ.push id w.heap.size (grownCap w (y).size 0 e)) (.inr ⟨w.heap.size,0,_,ay.iM,x3,.inl au,by rw[ay.uj];omega,rfl⟩)
    (yr Y _ _ (.inl (aE _)) rfl rfl rfl au (fun N g _=>Below.heap_alloc w.drew _ N g) T ⟨_,[],(bq _).symm,⟨A,rfl⟩,rfl⟩ (by intro p K;cases K) (by intro p K;cases K))
  simp at h
 ·rename_i e0 e i x8 x9 len c L I;obtain⟨z,O,u⟩:=bS hv;simp at O;subst O;split at h
  ·rename_i ki k ks F he hB;simp at h;subst h;have F:=beq_true F;subst F;rcases nR u with ⟨h0,_⟩|⟨b,o,D,X,hl,ho,hn,R⟩;omega
   ·obtain⟨l,⟨C,Z,fr,hh,H,hf⟩,hr⟩:=Y.blks i _ hB au b X;have x7:w.shape? b=some (Z,ρ.n i):=by
     unfold World.shape?;rw[hh];simp only[Bf,H]
    have x2:∃ f,(w.freeze ⟨b,ρ.n i,none⟩ 1).heap[b]?=some (.cells ⟨l++C⟩ Z f)/\ρ.n i<=f.1:=by obtain⟨lo,hi⟩:=fr;unfold World.freeze;rw[ah ae];show ∃ f,(w.heap.modify b _)[b]?=_/\_;rw[qw,aj rfl,hh];simp only[cY];by_cases E:lo=hi;subst E;exact⟨(ρ.n i,ρ.n i+1),au,aE _⟩;refine⟨(min lo (ρ.n i),max hi (ρ.n i+1)),by simp[E],?_⟩;rcases hf with hf|hf;simp only[aI] at hf;exact absurd (hf.1.trans hf.2.symm) E;have hf:ρ.n i<=lo:=hf;exact Nat.le_min.2 ⟨hf,aE _⟩
    have t:(convert s s (.slice (some ⟨b,o,none⟩) (len+1) D)).run P w=.ok (.slice (some ⟨b,o,none⟩) (len+1) D) (w.freeze ⟨b,ρ.n i,none⟩ 1):=by
     have x1:e0=e:=by rw[L] at I;simpa using I
     subst x1;have x4:(markStringish ⟨b,o,none⟩).run P w=.ok () (w.freeze ⟨b,ρ.n i,none⟩ 1):=by simp[markStringish,x7]
     simp[convert,bm L,bm he,x4]
    obtain⟨f,U,V⟩:=x2;have G:(w.freeze ⟨b,ρ.n i,none⟩ 1).heap.size=w.heap.size:=by unfold World.freeze;rw[ah ae];simp
    intro next Q x5;unfold Oper.wp;rw[bL rfl (by rw[R];exact t)];refine x5 _ _ ρ (.inr ⟨b,o,D,X,hl,ho,hn,rfl⟩) ⟨ay.le_refl _,fun _ _ h=>.inl h,fun j c hj=>by rw[G];exact Y.bound j c hj,?_,?_,?_,aa,?_,fun _ h=>(nomatch h),fun _ h=>(nomatch h),fun p K q W _=>by simp at K W;rw[K,W],?_,fun _ _ h=>.inl h⟩;unfold World.freeze;rw[ah ae];unfold World.freeze;rw[ah ae];unfold World.freeze;rw[ah ae];intro N _ x6;have x0:N≠b:=fun e=>x6 (i,k::ks) au (by rw[e];exact X);unfold World.freeze;rw[ah ae];show (w.heap.modify b _)[N]?=_;rw[qw,ah (fun e=>x0 e.symm)];intro q W;simp at W;subst W;refine⟨⟨_,hB,au⟩,fun N g _=>?_⟩;rw[X] at g;simp at g;subst g;exact⟨l,⟨C,Z,f,U,H,.inr V⟩,hr⟩
  simp at h
 simp at h
theorem aeI (hc:Ctx w0 id ρ B w) {ts:Array TypeId} {args:Array Operand} {vs:List SV} (h:RS P ts vs B=some out) (L:∀ p∈out.pre,p) (hv:bn ρ vs (args.toList.map a.eval)):cf P id B ⟨dst,.call ⟨.builtin .copy,args,ts⟩,ty,pos,af,gd⟩ out ρ a w:=by
 have ex:execOp a.eval ⟨dst,.call ⟨.builtin .copy,args,ts⟩,ty,pos,af,gd⟩=(do pure (.value (<- Builtin.copy_ ts ty (args.map a.eval)))):=rfl;unfold RS at h;split at h
 ·rename_i t t' i0 g off len c x Y;split at h
  ·rename_i e hu;have Y:ts=#[t,t']:=by rw[<- Array.toArray_toList (xs:=ts),Y]
   subst Y;obtain⟨y,u,e1,hy,y0⟩:=cv hv;have T:args.map a.eval=#[y,u]:=by apply jr;simpa using e1
   rw[T] at ex;split at h
   ·rename_i d ds hB z;simp only[aQ] at z;obtain⟨z,i⟩:=z;have z:=beq_true z;subst z;split at h
    ·rename_i a0 κ n xs q r O;split at h
     ·rename_i m ys p k X;simp only[aQ] at X;have x8:=beq_true X.1;have I:=beq_true X.2;subst x8;simp only[az] at h;subst h;have y7:off+len<=n:=L _ au;obtain⟨y1,G,E,k⟩:=xv hc k (fun q A=>L q (by simp[A])) y0;have x7:=fY (fun _ _=>bV) E;obtain⟨y8,i⟩:=Option.isSome_iff_exists.1 i;have V:Builtin.lenOf u=pure m:=by
       rcases k with ⟨rfl,rfl⟩|⟨ad,H,rfl,_⟩<;>rfl
      generalize K:Nat.min m len=f at *;have x4:f<=m:=by rw[<- K];exact Nat.min_le_left _ _
      have x5:f<=len:=by rw[<- K];exact Nat.min_le_right _ _
      rw[<- I,y1] at x7;have y5:f*P.cellsOf e<=m*P.cellsOf e:=fb _ x4;have y6:f*P.cellsOf e<=len*P.cellsOf e:=fb _ x5;have W:=(gX (fun _ _=>bV) f E).1;rw[<- I] at W;have hf:(Builtin.firstCells (P.cellsOf e) f u).run P w=.ok (G.take (f*P.cellsOf e)).toArray w:=by
       rcases k with ⟨rfl,rfl⟩|⟨ad,H,rfl,h⟩
       ·have:f=0:=by omega
        subst this;simpa using run_firstCells_none (P:=P) w (P.cellsOf e) 0 0 0
       ·exact run_firstCells_some w (P.cellsOf e) f ad m H _ (by simp;omega) (fun j v hj=>h j v (by
         rw[fI] at hj;split at hj;exact hj
         ·cases hj))
      have x1:=nR hy;intro next Q hn;unfold Oper.wp;by_cases h0:len=0
      ·have x3:f=0:=by omega
       subst x3;have F:(Builtin.copy_ #[t,t'] ty #[y,u]).run P w=.ok (.int .i64 ((0:Nat):Int)) w:=by have D:Nat.min m len=0:=K;rcases x1 with ⟨_,ey⟩|⟨b,o,H,hb,hl,ho,x9,ey⟩;rw[ey];rw[h0] at D;simp only[Builtin.copy_,tx,tw,lT,Sem.run_bind,bm hu,Result.andThen_ok,V,Sem.run_pure,cE i,D,hf];rfl;rw[ey];simp only[Builtin.copy_,tx,tw,lT,Sem.run_bind,bm hu,Result.andThen_ok,V,Sem.run_pure,cE i,D,hf];simp[storeCells,goInt]
       rw[bL ex F];refine hn _ w ρ (kL rfl) ⟨ay.le_refl _,fun _ _ h=>.inl h,hc.bound,rfl,rfl,rfl,aE _,fun _ _ _=>rfl,fun _ h=>(nomatch h),fun _ h=>(nomatch h),fun p L q A _=>by simp at L A;rw[L,A],?_,fun _ _ h=>.inl h⟩;intro q A;simp at A;subst A;refine⟨⟨_,hB,au⟩,fun b hb _=>?_⟩;obtain⟨l,C,hr⟩:=hc.blks _ _ hB au b hb;obtain⟨l1,R,l2,el,k1,k2,k3,k4,k5⟩:=wa O hr;refine⟨l,C,?_⟩;rw[el];exact gv k2 ⟨R,l2,rfl,fR (by simpa using k4) (by simpa using k5),k3⟩
      ·rcases x1 with ⟨x2,_⟩|⟨b,o,H,hb,hl,ho,x9,ey⟩;exact absurd x2 h0;have ho:o=g+off*P.cellsOf e:=by
        rcases ho with h|h;exact h;omega
       subst ho;obtain⟨l,C,hr⟩:=hc.blks _ _ hB au b hb;obtain⟨l1,R,l2,el,k1,k2,k3,k4,k5⟩:=wa O hr;simp only at k4 k5;have x0:=fY (fun _ _=>bV) k5;rw[<- I,k4] at x0;have Z:(G.take (f*P.cellsOf e)).length=f*P.cellsOf e:=by simp;omega
       have y4:l.length=l1.length+(R.length+l2.length):=by rw[el];simp
       have y3:off*P.cellsOf e+f*P.cellsOf e<=R.length:=by rw[x0,<- ff];exact fb _ aa
       obtain⟨w',g1,g2,g3,g4,g5,g6,g7⟩:=pb (P:=P) (b:=b) (off:=g+off*P.cellsOf e) (G.take (f*P.cellsOf e)) 0 w l C (by rw[Z];omega) (yd (fun _ _=>vm) W);have F:(Builtin.copy_ #[t,t'] ty #[y,u]).run P w=.ok (.int .i64 (f:Int)) w':=by rw[ey];simp only[Builtin.copy_,tx,tw,lT,Sem.run_bind,bm hu,Result.andThen_ok,V,Sem.run_pure,cE i,K,hf,g1];rfl
       rw[bL ex F];refine hn _ w' ρ (kL rfl) ⟨ay.le_refl _,fun _ _ h=>.inl h,fun j c hj=>by rw[g3];exact hc.bound j c hj,g5,g6,g7,aa,?_,fun _ h=>(nomatch h),fun _ h=>(nomatch h),fun p L q A _=>by simp at L A;rw[L,A],?_,fun _ _ h=>.inl h⟩;intro b' _ x6;exact g4 b' (fun e=>by subst e;exact x6 _ (List.mem_singleton.2 rfl) hb)
       ·intro q A;simp at A;subst A;refine⟨⟨_,hB,au⟩,fun b' U _=>?_⟩;rw[hb] at U;simp at U;subst U;refine⟨_,g2,?_⟩;rw[gn,Z,el];have e1:(l1++(R++l2)).take (g+off*P.cellsOf e)=l1++R.take (off*P.cellsOf e):=by
         rw[List.take_append,bQ aa,show g+off*P.cellsOf e-l1.length=off*P.cellsOf e by omega,lR aa]
        have e2:(l1++(R++l2)).drop (g+off*P.cellsOf e+f*P.cellsOf e)=R.drop (off*P.cellsOf e+f*P.cellsOf e)++l2:=by rw[oA,nb aa,dH,show g+off*P.cellsOf e+f*P.cellsOf e-l1.length=off*P.cellsOf e+f*P.cellsOf e by omega,qe aa]
        rw[e1,e2,cB];have N:=NH (fun _ _=>bV) k5 W off;have y2:(ys.take f).length=f:=by simp;omega
        rw[y2,Z,<- I] at N;exact gv k2 ⟨_,l2,by simp only[cB],fR (by simp;omega) N,k3⟩
     simp at h
    simp at h
   simp at h
  simp at h
 simp at h
theorem aeH (y:Ctx w0 id ρ B w) {o:FuncId->Option Spec} (j:aD P o) {f:FuncId} {q:Array TypeId} {args:Array Operand} {l:List SV} {F:Spec} (x:o f=some F) (h:F w0 id l B=some out) (z:∀ p∈out.pre,p)
  (A:bn ρ l (args.toList.map a.eval)):cf P id B ⟨dst,.call ⟨.value (.func f),args,q⟩,ty,pos,af,gd⟩ out ρ a w:=by
 intro next Q n;have i:=j f F x w0 id l B out h z ρ _ w A y;have r:execOp a.eval ⟨dst,.call ⟨.value (.func f),args,q⟩,ty,pos,af,gd⟩=(callFunc f ((#[]++args.map a.eval) ++ #[])):=rfl;have c:(#[]++args.map a.eval) ++ #[]=(⟨args.toList.map a.eval⟩:Array Value):=by apply jr;simp
 unfold Oper.wp;rw[r,c];rcases i with ⟨d,g⟩|⟨v,m,d,b,g,t⟩;rw[d];refine g.mono ?_;rintro e m ⟨v,rfl,b,k,u⟩;exact n v m b k u;rw[d];exact n v m b g t
theorem abc (C:Ctx w0 id ρ B w) {t:FuncId->Option Spec} (m:aD P t) {f:FuncId} {g:Operand} (k:a.eval g=.func (.func f) #[] #[]) {u:Array TypeId} {args:Array Operand} {o:List SV} {F:Spec} (A:t f=some F) (h:F w0 id o B=some out) (D:∀ p∈out.pre,p)
  (E:bn ρ o (args.toList.map a.eval)):cf P id B ⟨dst,.call ⟨.value g,args,u⟩,ty,pos,af,gd⟩ out ρ a w:=by
 intro next Q r;have l:=m f F A w0 id o B out h D ρ _ w E C;have x:execOp a.eval ⟨dst,.call ⟨.value g,args,u⟩,ty,pos,af,gd⟩=(callFunc f ((#[]++args.map a.eval) ++ #[])):=by show (do let d <- Deferred.ofValue (a.eval g) (args.map a.eval);invoke d.target d.args)=_;rw[k];rfl
 have c:(#[]++args.map a.eval) ++ #[]=(⟨args.toList.map a.eval⟩:Array Value):=by apply jr;simp
 unfold Oper.wp;rw[x,c];rcases l with ⟨i,j⟩|⟨v,q,i,b,j,y⟩;rw[i];refine j.mono ?_;rintro e q ⟨v,rfl,b,n,z⟩;exact r v q b n z;rw[i];exact r v q b j y
theorem Pe (D:Ctx w0 id ρ B w) {u:FuncId->Option Spec} (n:aD P u) {f:FuncId} {i:Operand} {b:List Value} (l:a.eval i=.func (.func f) ⟨[]⟩ ⟨b⟩) {x:Array TypeId} {args:Array Operand} {q:List SV} {F:Spec} (C:u f=some F) (h:F w0 id q B=some out) (E:∀ p∈out.pre,p)
  (G:bn ρ q (args.toList.map a.eval++b)):cf P id B ⟨dst,.call ⟨.value i,args,x⟩,ty,pos,af,gd⟩ out ρ a w:=by
 intro next Q t;have m:=n f F C w0 id q B out h E ρ _ w G D;have y:execOp a.eval ⟨dst,.call ⟨.value i,args,x⟩,ty,pos,af,gd⟩=(callFunc f ((#[]++args.map a.eval)++⟨b⟩)):=by show (do let d <- Deferred.ofValue (a.eval i) (args.map a.eval);invoke d.target d.args)=_;rw[l];rfl
 have g:(#[]++args.map a.eval)++(⟨b⟩:Array Value)=(⟨args.toList.map a.eval++b⟩:Array Value):=by apply jr;simp
 unfold Oper.wp;rw[y,g];rcases m with ⟨j,k⟩|⟨v,r,j,c,k,z⟩;rw[j];refine k.mono ?_;rintro e r ⟨v,rfl,c,o,A⟩;exact t v r c o A;rw[j];exact t v r c k z
theorem xC:∀ {l m:List SV} {b c:List Value},bn ρ l b->bn ρ m c->bn ρ (l++m) (b++c):=by
 intro l;induction l with
 | nil=>intro m b c h d;have h:b=[]:=h;subst h;exact d
 | cons a l i=>intro m b c ⟨y,j,e,f,g⟩ d;subst e;exact⟨y,j++c,rfl,f,i g d⟩
theorem UX:∀ {j:Kd} {x:aA j} {f:FuncId} {l:List SV} {v:Value},Ht j x=some (f,l)->Rd ρ.M j x [v]->∃ d,v=.func (.func f) ⟨[]⟩ ⟨d⟩/\bn ρ l d:=by
 intro j;induction j with
 | fn g =>intro x f l v h i;simp only[Ht,az,aI] at h;obtain⟨rfl,rfl⟩:=h;have i:[v]=[_]:=i;simp only[br,bM] at i;exact⟨[],i,rfl⟩
 | cap c e m u =>intro x f l v h i;simp only[Ht] at h;split at h;rename_i z A t;simp only[az,aI] at h;obtain⟨rfl,rfl⟩:=h;obtain⟨g,d,b,o,n,q,r⟩:=i;obtain⟨k,p,y⟩:=m t q;simp only[Value.func.injEq,Array.mk.injEq] at p;obtain⟨rfl,_,rfl⟩:=p;simp only[br,bM] at n;refine⟨_,n,xC y ⟨_,[],rfl,C1 r au au,rfl⟩⟩;simp at h
 | _=>intro x f l v h;simp[Ht] at h
theorem Zq:∀ {l:List Nat} {c:List Value},iB ρ l c->bn ρ (Hv l) c:=by
 intro l;induction l with
 | nil=>intro c h;exact h
 | cons i l g =>intro c ⟨b,j,d,e,f⟩;subst f;exact xC (g e) ⟨_,[],rfl,⟨b,d,rfl⟩,rfl⟩
theorem P8:∀ {g:List SV} {l m:List Nat} {f ws:List Value},yj g l=some m->bn ρ g f->iB ρ l ws->iB ρ m (ws++f):=by
 intro g;induction g with
 | nil =>intro l m f ws h d j;simp only[yj,az] at h;subst h;have d:f=[]:=d;subst d;rw[bq];exact j
 | cons v g p =>intro l m f ws h d j;unfold yj at h;split at h;rename_i c;cases c;rename_i i q c;simp only[br] at c;obtain⟨rfl,rfl⟩:=c;obtain⟨y,r,e,c,n⟩:=d;obtain⟨b,o,k⟩:=n5 c;subst k e;have:=p h n (ws:=ws++[.pointer (some ⟨b,0,none⟩)]) ⟨b,ws,o,j,rfl⟩;simpa using this;simp at h
theorem Rr (k:Ctx w0 id ρ B w) {fn:Fn} {first b:Array Operand} {j:List SV} (h:CN fn first j=some out) (n:bn ρ j ((first++b).toList.map a.eval)):cf P id B ⟨dst,.makeFunc fn first b,ty,pos,af,gd⟩ out ρ a w:=by
 have g:∀ (f:FuncId) (m:List Nat),first.size=0->yj j []=some m->iB ρ m (b.toList.map a.eval)/\(execOp a.eval ⟨dst,.makeFunc (.func f) first b,ty,pos,af,gd⟩).run P w=.ok (.value (.func (.func f) ⟨[]⟩ ⟨b.toList.map a.eval⟩)) w:=by intro f m c d;have l:first=#[]:=AV c;subst l;refine⟨?_,?_⟩;have:=P8 (ws:=[]) d n rfl;simpa using this;·refine bL (s:=Instr.makeFunc (.func f) ((#[]:Array Operand).map a.eval) (b.map a.eval)) rfl ?_;show Result.ok _ w=Result.ok _ w;congr 1;show Value.func _ _ _=Value.func _ _ _;congr 1;all_goals (apply jr;simp)
 unfold CN at h;split at h;rename_i f c d;simp[fA] at h;subst h;obtain⟨e,i⟩:=g f [] c d;have e:b.toList.map a.eval=[]:=e;rw[e] at i;exact aR k i (kL rfl);rename_i f m _ c d;simp[ret] at h;subst h;obtain⟨e,i⟩:=g f m c d;exact aR k i ⟨_,e,rfl⟩;simp at h
theorem Wp (b:Ctx w0 id ρ B w) {s:SV} {v:Value} (h:s.rel ρ v):(norm w0 s).rel ρ v:=by unfold norm;split;rename_i g;split;rename_i e x c;have ev:=b9 h;subst ev;exact C1 (b.glob g e x c) au au;exact h;exact h
theorem Xz {s:SV} {v:Value} (h:s.rel ρ v):(At s).rel ρ v:=by unfold At;split;exact h.1;exact h
theorem ue (g:Ctx w0 id ρ B w):∀ {b:List SV} {c:List Value},bn ρ b c->bn ρ (b.map fun s=>At (norm w0 s)) c:=by
 intro b;induction b with
 | nil=>intro c h;exact h
 | cons v b i=>intro c ⟨x,j,e,d,f⟩;exact⟨x,j,e,Xz (Wp g d),i f⟩
theorem pE {b:BinOp} {t:TypeId} {x y:Operand} {p q:Option Addr} {n m c d:Nat}:(eqGuard b t x y (.slice p n c) (.slice q m d)).run P w=.ok () w:=by cases b<;>simp[eqGuard]
theorem r5 {t e:TypeId} (d:P.underlying t=some (.slice e)) {b:Option Addr} {n c:Nat}:(Op.equal t (.slice b n c) (.slice none 0 0)).run P w=.ok b.isNone w:=by unfold Op.equal Op.maxDepth;rw[show (10000:Nat)=9999+1 from rfl,Op.equalIn];cases b<;>simp only[Sem.run_bind,bm d,Result.andThen_ok,Sem.run_pure]<;>rfl
theorem abf (i:Ctx w0 id ρ B w) {l:BinOp} {t r:TypeId} {x y:Operand} {m:List SV} (h:M5 P l t m=some out) (q:bn ρ m [a.eval x,a.eval y]):cf P id B ⟨dst,.binOp l t x y r,ty,pos,af,gd⟩ out ρ a w:=by unfold M5 at h;split at h;obtain⟨s,u,k,d,j⟩:=cv q;simp only[br,bM] at k;obtain⟨rfl,rfl⟩:=k;have g:=b9 j;split at h;rename_i e f;split at h;obtain⟨_,p,n,c,b⟩:=d;simp only[br,bM] at b;simp[ret] at h;subst h;refine aR i (v:=.bool false) (bL rfl ?_) rfl;rw[b,g];simp only[Sem.run_bind,pE,Result.andThen_ok,binOp,r5 f,Sem.run_pure,wG];have b:=b9 d;simp[ret] at h;subst h;refine aR i (v:=.bool true) (bL rfl ?_) rfl;rw[b,g];simp only[Sem.run_bind,pE,Result.andThen_ok,binOp,r5 f,Sem.run_pure,wH];simp at h;rename_i e f;split at h;obtain⟨_,p,n,c,b⟩:=d;simp only[br,bM] at b;simp[ret] at h;subst h;refine aR i (v:=.bool true) (bL rfl ?_) rfl;rw[b,g];simp only[Sem.run_bind,pE,Result.andThen_ok,binOp,r5 f,Sem.run_pure,wG,oE];have b:=b9 d;simp[ret] at h;subst h;refine aR i (v:=.bool false) (bL rfl ?_) rfl;rw[b,g];simp only[Sem.run_bind,pE,Result.andThen_ok,binOp,r5 f,Sem.run_pure,wH,oF];simp at h;simp at h;simp at h
theorem uY (j:Ctx w0 id ρ B w) {Z:FuncId->Option Spec} (D:aD P Z) {o:Oper} {vs:List SV} (h:Fh P Z w0 id o.op vs B=some out) (r:∀ p∈out.pre,p)
  (g:bn ρ vs (o.op.operands.toList.map a.eval)):cf P id B o out ρ a w:=by
 obtain⟨dst,V,ty,pos,af,gd⟩:=o;unfold Fh at h;split at h;simp at h
 ·rename_i m;dsimp only at h m g;cases V<;>dsimp only at h<;>try (simp at h;done)
  case move x=>exact T2 j h g
  case assign x=>exact Mn j h g
  case pick c x y=>exact aeL j h g
  case alloc t=>exact aba j h
  case box t x=>exact afU j h g
  case build t ps=>exact abb j m h r (by simpa[Op.operands,tD] using g)
  case buildSlice t n ps=>exact Mq j m h r (by simpa[Op.operands,tD] using g)
  case load t x=>exact aeJ j (mg m).2.1 (mg m).2.2 h r g
  case store t x y=>exact abh j (mg m).1 h r g
  case fieldAddr t x f=>exact Nz j (fun fd R=>(AD m R).1) h g
  case indexAddr t x i=>exact NA j m h r g
  case index t x i=>exact abe j m h r g
  case field t x f=>exact abd j m h g
  case extract x i=>exact T0 j h g
  case binOp V t x y t'=>exact afT j h r g
  case unOp V t x=>exact ajh j h g
  case convert s d x=>exact TZ j h g
  case nilCheck x=>exact afW j h g
  case sliceToArrayPointer t x=>exact afS j h r g
  case makeSlice t x y=>exact aeK j h r g
  case slice t x lo hi mx =>
   refine abg j m h r ?_;simp only[Op.operands] at g;cases lo<;>cases hi<;>cases mx<;>simpa using g
  case makeFunc fn first I=>exact Rr j h (by simpa[Op.operands] using g)
  case call c =>
   obtain⟨ce,args,ts⟩:=c;unfold Zb at h;split at h;rename_i f v H b;dsimp only at b;subst b;split at h;rename_i F E;simp only[Op.operands,Call.operands,wE,eI,iX,dH] at g;obtain⟨y,W,z,_,A⟩:=g;simp only[br] at z;obtain⟨_,rfl⟩:=z;exact aeH j D E h r A;simp at h;rename_i Y f H _ b;dsimp only at b;subst b;split at h;rename_i F E;simp only[Op.operands,Call.operands,wE,eI,iX,dH] at g;obtain⟨y,W,z,L,A⟩:=g;simp only[br] at z;obtain⟨q,rfl⟩:=z;have C:=b9 L;rw[C] at q;exact abc j D q E h r A;simp at h;rename_i Y κ x H _ b;dsimp only at b;subst b;split at h;rename_i f l K;split at h;rename_i F E;simp only[Op.operands,Call.operands,wE,eI,iX,dH] at g;obtain⟨y,W,z,L,A⟩:=g;simp only[br] at z;obtain⟨q,rfl⟩:=z;obtain⟨X,C,Q⟩:=UX K L.1;rw[C] at q;exact Pe j D q E h r (xC A Q);simp at h;simp at h;rename_i Y f l H _ b;dsimp only at b;subst b;split at h;rename_i F E;simp only[Op.operands,Call.operands,wE,eI,iX,dH] at g;obtain⟨y,W,z,L,A⟩:=g;simp only[br] at z;obtain⟨q,rfl⟩:=z;obtain⟨us,O,C⟩:=L;simp only[br,bM] at C;rw[C] at q;exact Pe j D q E h r (xC A (Zq O));simp at h;rename_i b;dsimp only at b;subst b;exact afV j h (by simpa[Op.operands,Call.operands] using g);rename_i b;dsimp only at b;subst b;exact WY j h r (by simpa[Op.operands,Call.operands] using g);rename_i b;dsimp only at b;subst b;exact aeI j h r (by simpa[Op.operands,Call.operands] using g)
   ·rename_i k x U y b;dsimp only at b;subst b;obtain⟨u,v,e,T,G⟩:=cv g;simp only[Op.operands,Call.operands] at e;have z:=b9 T;have N:=b9 G;subst z N;simp[fA] at h;subst h;refine aR j (bL (s:=Builtin.max_ ts _ (args.map a.eval)) rfl ?_) (kL rfl);have e:(args.map a.eval).toList=[Value.int k x,Value.int U y]:=by simpa using e
    unfold Builtin.max_;rw[e];rfl
   ·rename_i k x U y b;dsimp only at b;subst b;obtain⟨u,v,e,T,G⟩:=cv g;simp only[Op.operands,Call.operands] at e;have z:=b9 T;have N:=b9 G;subst z N;simp[fA] at h;subst h;refine aR j (bL (s:=Builtin.min_ ts _ (args.map a.eval)) rfl ?_) (kL rfl);have e:(args.map a.eval).toList=[Value.int k x,Value.int U y]:=by simpa using e
    unfold Builtin.min_;rw[e];rfl
   simp at h
theorem Qw (Y:Ctx w0 id ρ B w) {o:Oper} {out z:Out} (F:VX (some out)=some z) (h:(∀ p∈out.pre,p)->cf P id B o out ρ a w) (hp:∀ p∈z.pre,p):cf P id B o z ρ a w:=by
 classical
 unfold VX at F;split at F
 ·rename_i o' i k c j cell wr pre O;simp only[az] at O;subst O;split at F
  ·rename_i e k' xs u W;simp only[az] at F;subst F;simp only[aQ,mR] at u;obtain⟨u,x8⟩:=u;have u:=beq_true u;subst u;have K:xs.length=k:=hp _ (Bd ..);intro next Q hk;refine h (fun p d=>hp p (qh _ d)) next Q ?_;intro v w' x I g;have X:∀ p∈wr,p.2=[]:=fun p d=>List.isEmpty_iff.1 (x8 p d);rcases I with ⟨hz,I⟩|⟨b,o',x0,hb,C,ho,y0,I⟩;simp only[br,bM] at I;have x9:xs=[]:=dP aa;refine hk v w' ρ ?_ { le:=ay.le_refl _,dom:=fun _ _ h=>.inl h,bound:=fun i b hi=>fe (Y.bound i b hi) g.size,os:=g.os,tape:=g.tape,output:=g.output,size:=g.size,same:=g.same,new:=(fun p d=>by cases d),newinj:=(fun p d=>by cases d),wruniq:=g.wruniq,wr:=fun p d=>⟨(g.wr p d).1,fun _ _ h=>absurd (X p d) h⟩,mem:=fun _ _ h=>.inl h };subst x9;rw[I];exact .inl ⟨rfl,none,0,rfl,fun _=>rfl⟩
   ·simp only[br,bM] at I;have E:([cell]:List Cell)≠[]:=au;obtain⟨_,_,T⟩:=g.new (i,[cell]) au;obtain⟨t,l,N,x4⟩:=T b hb E;obtain⟨v1,v2,el,x3,D⟩:=x4;have D:v2=[]:=D;subst D;rw[bq] at el;subst el;obtain⟨_,V,_⟩:=kz W x3;obtain⟨f,x1,fr,G,_⟩:=N;have U:∀ r,ρ.M b≠some r:=by
     intro r Z;rcases t with x5|⟨q,hq,x7,_⟩;obtain⟨el,fr,hh⟩:=Y.mem b r Z;have:=eh x5;rw[this] at hh;cases hh;obtain⟨⟨cs,hB,x6⟩,_⟩:=g.wr q hq;exact Y.apart b r Z q.1 cs hB x6 x7
    have H:x.M b=none:=by
     cases Z:x.M b with
     | none=>rfl
     | some r =>rcases g.mem b r Z with L|⟨L,_⟩;exact absurd L (U r);exact absurd hb (L (i,[cell]) au)
    let A:ay:=⟨ρ.m,ρ.n,fun s=>if s=b/\l++f≠[] then some (l++f) else x.M s⟩;have hM:Mem.le x.M A.M:=by intro s r y;show (if s=b/\l++f≠[] then _ else x.M s)=some r;by_cases e:s=b/\l++f≠[];obtain⟨rfl,_⟩:=e;rw[H] at y;cases y;rw[ah e];exact y
    have x2:l++f≠[]->A.M b=some (l++f):=fun hn=>by show (if b=b/\l++f≠[] then _ else _)=_;rw[aj ⟨rfl,hn⟩]
    refine hk v w' A ?_ { le:=⟨fun _ _ h=>⟨h,rfl⟩,fun s r y=>hM s r (g.le.mem s r y)⟩,dom:=fun _ _ h=>.inl h,bound:=fun i b hi=>fe (Y.bound i b hi) g.size,os:=g.os,tape:=g.tape,output:=g.output,size:=g.size,same:=g.same,new:=(fun p d=>by cases d),newinj:=(fun p d=>by cases d),wruniq:=g.wruniq,wr:=fun p d=>⟨(g.wr p d).1,fun _ _ h=>absurd (X p d) h⟩,mem:=?_ }
    ·rw[I];show Rd A.M (.sl e) xs _;rcases ho with rfl|rfl
     ·have hl:=fY (fun _ _=>bV) V;have hz:0+0*c=0:=by rw[jq]
      refine .inr ⟨b,0+0*c,x0,by rw[K],by rw[K];exact C,l++f,x2,by rw[hz,bb,hl,bH];exact Nat.le_add_right _ _,?_⟩;rw[hz,gT,<- hl,lr rfl];exact eg (fun _ _ h=>c9 hM h) V
     have R:k=0:=Nat.le_zero.1 C;exact .inl ⟨dP (K.trans R),some ⟨b,o',none⟩,0,by rw[R],fun h=>by cases h⟩
    intro s r y;have y:(if s=b/\l++f≠[] then some (l++f) else x.M s)=some r:=y;by_cases e:s=b/\l++f≠[];have h2:some (l++f)=some r:=(aj e).symm.trans y;obtain⟨rfl,hn⟩:=e;obtain rfl:=jT h2;exact .inr ⟨(fun p d=>by cases d),t,x1,fr,by rw[xS hn];exact G⟩;rw[ah e] at y;rcases g.mem s r y with L|⟨_,h2,h3⟩;exact .inl L;exact .inr ⟨(fun p d=>by cases d),h2,h3⟩
  cases F
 cases F
theorem RY (b:Ctx w0 id ρ B w) {l:FuncId->Option Spec} (d:aD P l) {o:Oper} {m:List SV} (h:XI P l w0 id o.op m B=some out) (i:∀ p∈out.pre,p)
  (e:bn ρ m (o.op.operands.toList.map a.eval)):cf P id B o out ρ a w:=by
 obtain⟨dst,k,ty,pos,af,gd⟩:=o;unfold XI at h;dsimp only at h e;split at h;exact T2 b h e;exact Mn b h e
 ·rename_i c;split at h
  ·cases f:Fh P l w0 id (.call c) (m.map fun s=>At (norm w0 s)) B with
   | none=>rw[f] at h;cases h
   | some g =>rw[f] at h;exact Qw b h (fun j=>uY (o:=⟨dst,.call c,ty,pos,af,gd⟩) b d f j (ue b e)) i
  exact uY (o:=⟨dst,.call c,ty,pos,af,gd⟩) b d h i (ue b e)
 rename_i k t x y n ;split at h;rename_i g f;simp only[az] at h;subst h;exact abf b f e;exact uY (o:=⟨dst,.binOp k t x y n,ty,pos,af,gd⟩) b d h i (ue b e);exact uY (o:=⟨dst,k,ty,pos,af,gd⟩) b d h i (ue b e)
theorem EA {t:TypeId} (h:isStr P t=true):P.underlying t=some .string:=by unfold isStr at h;split at h;assumption;cases h
theorem aaA {t:TypeId} (h:Wa P t=true):P.underlying t=some (.int .u8):=by unfold Wa at h;split at h;assumption;cases h
theorem T1 (f:Ctx w0 id ρ B w) {t:TypeId}:cf P id B ⟨dst,.makeMap t none,ty,pos,af,gd⟩ { val:=.is (.one (.fv .mp ())) } ρ a w:=by
 intro next Q o;unfold Oper.wp;have g:(execOp a.eval ⟨dst,.makeMap t none,ty,pos,af,gd⟩).run P w=.ok (.value (.map (some w.heap.size))) { w with heap:=w.heap.push (.map #[] 0) } :=
  bL (s:=Instr.makeMap t none) rfl (by unfold Instr.makeMap;simp)
 rw[g];let c:ay:=⟨ρ.m,ρ.n,fun b=>if b=w.heap.size then some [] else ρ.M b⟩;have d:∀ b l,ρ.M b=some l->b≠w.heap.size:=by rintro b l h rfl;obtain⟨p,fr,k⟩:=f.mem _ l h;simp at k
 have j:Mem.le ρ.M c.M:=by intro b l h;show (if b=w.heap.size then _ else ρ.M b)=_;rw[ah (d b l h)];exact h
 refine o _ _ c ⟨⟨_,rfl,?_⟩,rfl⟩ { le:=⟨fun _ _ h=>⟨h,rfl⟩,j⟩,dom:=fun _ _ h=>.inl h,bound:=?_,os:=rfl,tape:=rfl,output:=rfl,size:=?_,same:=?_,new:=fun _ h=>(nomatch h),newinj:=fun _ h=>(nomatch h),wruniq:=fun _ h=>(nomatch h),wr:=fun _ h=>(nomatch h),mem:=?_ };show (if w.heap.size=w.heap.size then _ else _)=_;rw[aj rfl];intro i b h;have:=f.bound i b h;show b<(w.heap.push _).size;rw[Array.size_push];omega;show _<=(w.heap.push _).size;rw[Array.size_push];omega;intro b q _;show (w.heap.push _)[b]?=_;rw[Array.getElem?_push,ah aa];intro b l h;have h:(if b=w.heap.size then some [] else ρ.M b)=some l:=h;by_cases e:b=w.heap.size;rw[aj e] at h;simp only[az] at h;subst h;refine .inr ⟨fun _ h=>(nomatch h),.inl aa,0,(0,0),?_⟩;show (w.heap.push _)[b]?=_;rw[e];simp[nA];rw[ah e] at h;exact .inl h
theorem GF {b n:Nat} {c:Array MapEntry} (h:w.heap[b]?=some (.map c n)):(getObj b).run P w=.ok (.map c n) w:=by simp only[getObj,Sem.run,h]
theorem WZ (D:Ctx w0 id ρ B w) {t k e:TypeId} {x r:Operand} {y:List Cell} {s:ByteArray} {u:aA .mp} (Q:P.underlying t=some (.map k e)) (N:isStr P k=true) (o:IE P e=true) (j:xF P e=some y)
  (R:bn ρ [.is (.one (.fv .mp u)),.is (.one (.v (.string s)))] [a.eval x,a.eval r]):cf P id B ⟨dst,.lookup t x r true,ty,pos,af,gd⟩ { val:=.tup [.agg y,.one .F] } ρ a w:=by
 obtain⟨T,U,A,K,g⟩:=cv R;simp only[br,bM] at A;obtain⟨H,I⟩:=A;have g:=b9 g;subst g;obtain⟨⟨b,C,L⟩,_⟩:=K;simp only[br,bM] at C;subst C;obtain⟨G,fr,n⟩:=D.mem b [] L;have n:w.heap[b]?=some (.map #[] G):=n;obtain⟨i,z,E,d,O⟩:=xG (ρ:=ρ) j;have p:∃ l,z=.agg ⟨l⟩:=by unfold IE at o;split at o;rename_i c;rw[E] at c;simp only[az] at c;subst c;simp only[az] at d;exact⟨_,d.symm⟩;cases o
 obtain⟨l,rfl⟩:=p;have f:=EA N;refine aR D (v:=.tuple ⟨[.agg ⟨l⟩,.bool false]⟩) (bL (s:=Instr.lookup t (a.eval x) (a.eval r) true) rfl ?_) ⟨_,rfl,_,_,rfl,⟨l,rfl,O⟩,_,_,rfl,rfl,rfl⟩;rw[H,I];unfold Instr.lookup;have h:(Instr.checkKey true 10000 k (.string s)).run P w=.ok () w:=by rw[show (10000:Nat)=9999+1 from rfl,Instr.checkKey];simp only[Sem.run_bind,bm f,Result.andThen_ok,Sem.run_pure]
 have m:(Instr.findKey k (.string s) []).run P w=.ok none w:=by unfold Instr.findKey;simp only[Sem.run_bind,bm f,Result.andThen_ok,Instr.findNow,Sem.run_pure]
 have q:(zeroValue e).run P w=.ok (.agg ⟨l⟩) w:=by unfold zeroValue;simp only[Sem.run_bind,pk E,Result.andThen_ok,d,Sem.run_pure]
 simp only[Sem.run_bind,bm Q,Result.andThen_ok,GF n,Sem.run_pure];simp only[show (#[]:Array MapEntry).isEmpty=true from rfl,h,m,q,Sem.run_bind,Result.andThen_ok,Sem.run_pure];rfl
theorem Rs (z:Ctx w0 id ρ B w) {t:TypeId} {x:Operand} {c b e:Option Operand} {s:ByteArray} {r:List SV} {l h:Int} {p:List Prop} (n:P.underlying t=some .string) (d:Bq s.size c b e r=some (l,h,none,p)) (A:∀ q∈p,q)
  (C:bn ρ (.is (.one (.v (.string s)))::r) (a.eval x::((c.map a.eval).toList++((b.map a.eval).toList++(e.map a.eval).toList)))) :
  cf P id B ⟨dst,.slice t x c b e,ty,pos,af,gd⟩ { val:=.is (.one (.v (.string (s.extract l.toNat h.toNat)))),pre:=p } ρ a w:=by
 have g:e=none:=by unfold Bq at d;split at d<;>simp at d<;>rfl
 subst g;obtain⟨y,E,k,i,j⟩:=C;simp only[br] at k;obtain⟨o,rfl⟩:=k;have i:=b9 i;subst i;obtain⟨g1,g2,D,u,m,f⟩:=sz (P:=P) (w:=w) (aE s.size) d A j false;refine aR z (bL (s:=Instr.sliceAt t (a.eval x) (c.map a.eval) (b.map a.eval) none) rfl ?_) ⟨rfl,rfl⟩;rw[o,run_sliceAt_string w t _ _ _ _ n];unfold Instr.slice;simp only[Sem.run_bind,bm n,Result.andThen_ok,Option.isSome_none,lU,dT,Sem.run_pure];have f:(Instr.sliceBounds false s.size s.size (c.map a.eval) (b.map a.eval) none).run P w=.ok (l.toNat,h.toNat,iQ none s.size) w:=f;simp only[f,Result.andThen_ok]
theorem IN (x y:ByteArray):(x.toList==y.toList)=decide (x=y):=by by_cases h:x=y;subst h;simp;rw[cp h];refine beq_eq_false_iff_ne.2 fun e=>h ?_;rw[ByteArray.toList_eq,ByteArray.toList_eq] at e;exact ByteArray.ext (Array.toList_inj.1 e)
theorem Pg (i:Ctx w0 id ρ B w) {t k:TypeId} {x y:Operand} {s e:ByteArray} (b:Bool) (j:bn ρ [.is (.one (.v (.string s))),.is (.one (.v (.string e)))] [a.eval x,a.eval y]) :
  cf P id B ⟨dst,.binOp (bif b then .neq else .eql) t x y k,ty,pos,af,gd⟩ { val:=.is (.one (.v (.bool (bif b then !decide (s=e) else decide (s=e))))) } ρ a w:=by
 obtain⟨l,m,f,c,d⟩:=cv j;simp only[br,bM] at f;obtain⟨g,h⟩:=f;have c:=b9 c;have d:=b9 d;subst c d;refine aR i (bL (s:=(do eqGuard (bif b then .neq else .eql) t x y (a.eval x) (a.eval y);binOp (bif b then .neq else .eql) t (a.eval x) (a.eval y))) rfl ?_) ⟨rfl,rfl⟩;rw[g,h];cases b<;>simp only[cond_true,cond_false,Sem.run_bind,eqGuard_at_string,binOp_string_eql,binOp_string_neq,Sem.run_pure,Result.andThen_ok,IN]
theorem Hf {t:TypeId} {E:Bool} {R T:List Cell} {u v:Value} (h:RT P t E R T=some out) (V:∀ p∈out.pre,p) (hu:(SV.is (.agg R)).rel ρ u) (hv:(SV.is (.agg T)).rel ρ v) (x y:Operand) :
  ∃ r p,out={ val:=.is (.one (.v (.bool r))),pre:=p }/\(do eqGuard (bif E then .neq else .eql) t x y u v;binOp (bif E then .neq else .eql) t u v).run P w=.ok (.bool r) w:=by
 unfold RT at h;split at h
 ·rename_i k e;split at h
  ·rename_i b ps c qs C hy;simp only[az] at h;subst h;refine⟨_,_,rfl,?_⟩;obtain⟨l1,e1,r1⟩:=hu;obtain⟨l2,e2,r2⟩:=hv;obtain⟨u1,u2,U,f2,H⟩:=iy (l9 ρ) _ _ _ _ _ _ C (fun p z=>V p (gS _ z)) r1;obtain⟨v1,v2,g1,g2,I⟩:=iy (l9 ρ) _ _ _ _ _ _ hy (fun p z=>V p (ij _ z)) r2;have H:u2=[]:=H;have I:v2=[]:=I;subst H I;rw[bq] at U g1;subst U g1;obtain⟨Y,Z,ea,j,m⟩:=f2;obtain⟨b1,b2,eb,n,o⟩:=g2;have j:Y=[.string b.1]:=j;have m:Z=[.int k b.2]:=m;have n:b1=[.string c.1]:=n;have o:b2=[.int k c.2]:=o;subst j m n o ea eb;unfold Uu at e;split at e
   ·rename_i fs q;split at e
    ·rename_i f g K;split at e
     ·rename_i i s;split at e
      ·rename_i d;simp only[az] at e;subst e;simp only[aQ,oz,bne_iff_ne,ne_eq] at d;obtain⟨⟨⟨⟨⟨⟨⟨⟨A,c2⟩,c3⟩,F⟩,G⟩,N⟩,O⟩,c8⟩,Q⟩:=d;have A:=EA A;have F:=beq_true F;have G:=beq_true G;have N:=beq_true N;have O:=beq_true O;have ht:P.underlying t=some (.struct (P.fieldsOf t)):=by rw[q];simp only[Program.fieldsOf,q]
       have L:(P.fieldsOf t).toList=[f,g]:=by simp only[Program.fieldsOf,q,K]
       have D:(Op.equalIn 10000 t (.agg ⟨[.string b.1]++[.int i b.2]⟩) (.agg ⟨[.string c.1]++[.int i c.2]⟩)).run P w=.ok (mC (.pair .str (.int i)) b c) w:=by
        rw[show (10000:Nat)=9999+1 from rfl,run_equalIn_struct w 9999 t _ _ ht c8,L];have hA:bZ P f.type=false:=by unfold bZ;rw[A]
        have hB:bZ P g.type=false:=by unfold bZ;rw[s]
        have W:∀ (l:List Value) (x:Value),l[0]?=some x->(part f.type ⟨l⟩ f.offset).run P w=.ok x w:=by intro l x C;unfold part;rw[F];simp[jA A,hA,C]
        have X:∀ (l:List Value) (x:Value),l[1]?=some x->(part g.type ⟨l⟩ g.offset).run P w=.ok x w:=by intro l x C;unfold part;rw[G];simp[jA s,hB,C]
        simp only[Op.eqFields];rw[aj c2,aj c3];simp only[Sem.run_bind,W _ _ (show ([Value.string b.1]++[Value.int i b.2])[0]?=some (.string b.1) from rfl),W _ _ (show ([Value.string c.1]++[Value.int i c.2])[0]?=some (.string c.1) from rfl),Result.andThen_ok];rw[show (9999:Nat)=9998+1 from rfl,run_equalIn_string w 9998 f.type _ _ A,IN];simp only[Result.andThen_ok];show _=Result.ok (decide (b.1=c.1)&&decide (b.2=c.2)) w;cases decide (b.1=c.1);simp
        ·simp only[oF,lU,dT,Sem.run_bind,dp,
          X _ _ (show ([Value.string b.1]++[Value.int i b.2])[1]?=some (.int i b.2) from rfl),X _ _ (show ([Value.string c.1]++[Value.int i c.2])[1]?=some (.int i c.2) from rfl),Result.andThen_ok]
         rw[run_equalIn_int w 9998 g.type i i _ _ s];simp only[Result.andThen_ok];have hd:(b.2==c.2)=decide (b.2=c.2):=rfl;rw[hd];cases decide (b.2=c.2)<;>simp
       rw[e1,e2];cases E with
       | true=>simp only[cond_true,Sem.run_bind,run_eqGuard_agg w _ t x y _ _ Q,Result.andThen_ok,run_neq_struct,D]
       | false=>simp only[cond_false,Sem.run_bind,run_eqGuard_agg w _ t x y _ _ Q,Result.andThen_ok,run_eql_struct,D]
      cases e
     cases e
    cases e
   cases e
  cases h
 cases h
theorem abi (n:Ctx w0 id ρ B w) {s d e:TypeId} {x:Operand} {v:SV} {m:Nat} {c:List Int} {p:List Prop} (u:P.underlying s=some (.slice e)) (r:P.underlying e=some (.int .u8)) (o:P.underlying d=some .string)
  (h:Dx B (.int .u8) v=some (m,c,p)) (E:∀ q∈p,q) (G:bn ρ [v] [a.eval x]) :
  cf P id B ⟨dst,.convert s d x,ty,pos,af,gd⟩ { val:=.is (.one (.v (.string (strOfNums c)))),pre:=p } ρ a w:=by
 obtain⟨z,l,H⟩:=bS G;simp only[br,bM] at l;obtain⟨t,g,F,y⟩:=xv n h E H;refine aR n (bL (s:=convert s d (a.eval x)) rfl ?_) ⟨rfl,rfl⟩;rw[l];rcases y with ⟨rfl,C⟩|⟨k,f,rfl,b⟩;have:c=[]:=dP (t.trans C);subst this;rw[run_convert_bytes_nil w s e u r 0 0 d o];rfl
 ·have D:g=c.map (Value.int .u8):=uZ.1 F;subst D;have i:(loadCells k m).run P w=.ok (c.map (Value.int .u8)).toArray w:=by
   have:=run_loadCells_list (P:=P) w k (c.map (Value.int .u8)) (fun j v A=>b j v A);rw[bU,t] at this;exact this
  rw[run_convert_bytes_string w s d e _ m f u r o,run_bytesToString w _ m f c i,foldl_push_bytes];simp[strOfNums,ByteArray.empty,ByteArray.emptyWithCapacity];rfl
theorem NG (b:Ctx w0 id ρ B w) {o:Oper} {E:List SV} (h:RW P o.op E B=some out) (j:∀ p∈out.pre,p)
  (c:bn ρ E (o.op.operands.toList.map a.eval)):cf P id B o out ρ a w:=by
 obtain⟨dst,Q,ty,pos,af,gd⟩:=o;dsimp only at h c;unfold RW at h;split at h;split at h;simp only[ret,az] at h;subst h;exact T1 b;cases h;split at h;rename_i k e u s q;split at h;rename_i F g L;simp only[az] at h;subst h;simp only[aQ] at g;exact WZ b q g.1 g.2 L c;cases h;cases h;rename_i t x N I O;split at h;rename_i s r q;split at h;rename_i l V p g;simp only[az] at h;subst h;refine Rs b q g j ?_;simp only[Op.operands] at c;cases N<;>cases I<;>cases O<;>simpa using c;cases h;cases h;rename_i Q t x y X;split at h;rename_i s W;split at h;simp only[fA,az] at h;subst h;exact Pg b false c;simp only[fA,az] at h;subst h;exact Pg b true c;cases h;rename_i F U;obtain⟨R,T,f,C,D⟩:=cv c;simp only[Op.operands] at f;have f:[a.eval x,a.eval y]=[R,T]:=f;simp only[br,bM] at f;obtain⟨z,A⟩:=f;split at h;obtain⟨r,p,rfl,m⟩:=Hf (w:=w) h j C D x y;exact aR b (bL rfl (by rw[z,A];exact m)) (kL rfl);obtain⟨r,p,rfl,m⟩:=Hf (w:=w) h j C D x y;exact aR b (bL rfl (by rw[z,A];exact m)) (kL rfl);cases h;cases h;rename_i s d x;split at h;rename_i e v K G;split at h;rename_i n Y p H i;simp only[az] at h;subst h;exact abi b K (aaA H) (EA G) i j c;cases h;cases h;cases h
theorem UH (b:Ctx w0 id ρ B w) {i:FuncId->Option Spec} (d:aD P i) {o:Oper} {j:List SV} (h:xop P i w0 id o.op j B=some out) (e:∀ p∈out.pre,p)
  (f:bn ρ j (o.op.operands.toList.map a.eval)):cf P id B o out ρ a w:=by
 unfold xop at h;split at h;rename_i g k;simp only[az] at h;subst h;exact NG b k e (ue b f);exact RY b d h e f
end
structure Env where
 P:Program
 sp:FuncId->Option Spec
 w0:cw
def cR:List (Nat × List Cell)->Nat->Option (List Cell)
 | [],_=>none
 | (i,c)::r,id=>match beq i id with
  | true=>some c
  | false=>cR r id
structure St where
 slots:List SV
 blks:List (Nat × List Cell)
 next:Nat
def St.S (d:St):cD:=fun t=>d.slots.getD t .junk
def St.B (d:St):bA:=cR d.blks
def N3:Value->SV
 | .bool true=>.is (.one .T)
 | .bool false=>.is (.one .F)
 | .agg _ | .tuple _=>.junk
 | x=>.is (.one (.v x))
def fG (S:cD):Operand->SV
 | .tmp t=>S t
 | .const v=>N3 v
 | .global g=>.is (.one (.v (.pointer (some ⟨g,0,none⟩))))
 | .func f=>.is (.one (.v (.func (.func f) #[] #[])))
def Cell.ids:Cell->List Nat
 | .ptr i _ | .pe i _ _ _ | .sl i _ _ _ _=>[i]
 | .clo _ l=>l
 | _=>[]
def TV.ids:TV->List Nat
 | .one c=>c.ids
 | .agg d=>d.flatMap Cell.ids
def SV.ids:SV->List Nat
 | .is x=>x.ids
 | .tup l=>l.flatMap TV.ids
 | _=>[]
def ez (i:Nat):List Nat->Bool
 | []=>false
 | j::l=>match beq i j with
  | true=>true
  | false=>ez i l
def lL (ids:List Nat) (B:bA):bA:=fun i=>match ez i ids with
 | true=>B i
 | false=>none
def gB (B:bA) (c:List SV):List Nat :=
 let d:=c.flatMap SV.ids
 d++d.flatMap fun i=>match B i with
  | some b=>b.flatMap Cell.ids
  | none=>[]
def yB (b:Op) (B:bA) (d:List SV):List Nat:=match b with
 | .move _=>[]
 | _=>gB B d
inductive StepR where
 | bad
 | skip
 | run (out:Out) (ids:List Nat)
def mr (E:Env) (S:cD) (B:bA) (id:Nat) (o:Oper):StepR :=
 let b:=o.op.operands.toList.map (fG S);let ids:=yB o.op B b;match xop E.P E.sp E.w0 id o.op b (lL ids B) with
 | some out=>.run out ids
 | none=>.bad
def qb (E:Env) (ops:Array Oper) (S:cD) (B:bA) (id:Nat) (o:Oper):StepR :=
 match o.guard with
 | none=>mr E S B id o
 | some (j,b)=>match (ops[j]?).bind (·.dst) with
  | some d=>match S d,b with
   | .is (.one .T),true=>mr E S B id o
   | .is (.one .T),false=>.skip
   | .is (.one .F),true=>.skip
   | .is (.one .F),false=>mr E S B id o
   | .undef,_=>.skip
   | _,_=>.bad
  | none=>.bad
structure Rec where
 val:SV
 new:List (Nat × List Cell)
 wr:List (Nat × List Cell)
 ids:List Nat
def fy (n:Nat) (b:Option Tmp) (v:SV) (S:cD):cD:=fun t =>
 match b with
 | some d=>if t=d/\d<n then v else S t
 | none=>S t
def ir (r:Rec) (B:bA):bA:=fun id =>
 match cR r.new id with
 | some b=>some b
 | none=>match cR r.wr id with
  | some b=>some b
  | none=>B id
def cG (x y:SV):Prop:=∀ ρ v,x.rel ρ v->y.rel ρ v
def ll:Rec:=⟨.undef,[],[],[]⟩
def vn (E:Env) (ops:Array Oper) (S:cD) (B:bA) (id:Nat) (o:Oper) (r:Rec):Prop :=
 (qb E ops S B id o=.skip/\r=ll) \/
 (∃ out ids,qb E ops S B id o=.run out ids/\(∀ p∈out.pre,p)/\cG out.val r.val/\r.new=out.new/\r.wr=out.wr/\r.ids=ids)
theorem hO {l:List (Nat × List Cell)} {id:Nat} {b:List Cell} (h:cR l id=some b):(id,b)∈l:=by
 induction l with
 | nil=>simp[cR] at h
 | cons p l e =>obtain⟨i,c⟩:=p;simp only[cR] at h;split at h;rename_i d;have:=beq_true d;subst this;simp at h;subst h;simp;exact qh _ (e h)
theorem Gc {l:List (Nat × List Cell)} {id:Nat} (h:cR l id=none):∀ p∈l,p.1≠id:=by
 induction l with
 | nil=>intro p hp;cases hp
 | cons q l d =>obtain⟨i,c⟩:=q;simp only[cR] at h;split at h;simp at h;rename_i b;intro p hp;rcases mem_cons.1 hp with rfl|hp;intro e;subst e;simp at b;exact d h p hp
theorem nB {ids:List Nat} {B:bA} {i:Nat} {b:List Cell} (h:lL ids B i=some b):B i=some b:=by unfold lL at h;split at h;exact h;simp at h
section
variable {E:Env} {ops:Array Oper} {n:Nat} {S:cD} {B:bA} {ρ:ay} {a:Act} {w:World}
theorem Nf (v:Value):(N3 v).rel ρ v:=by
 cases v with
 | bool b=>cases b<;>exact rfl
 | agg _=>trivial
 | tuple _=>trivial
 | _=>exact⟨rfl,rfl⟩
structure cN (w0:cw) (n:Nat) (S:cD) (B:bA) (ρ:ay) (a:Act) (w:World):Prop where
 defers:a.defers=[]
 size:a.tmps.size=n
 slots:∀ t,(S t).rel ρ (a.tmps.getD t Go.undef)
 below:kW w0 w
 blks:∀ id cs,B id=some cs->cs≠[]->∀ b,ρ id=some b->∃ l,b6 w b (ρ.n id) l/\ax ρ cs l
 inj:∀ id id' cs cs' b,B id=some cs->cs≠[]->B id'=some cs'->cs'≠[]->ρ id=some b->ρ id'=some b->id=id'
 bound:∀ id b,ρ id=some b->w0.aY b/\b<w.heap.size
 init:∀ p∈w0.ids,ρ p.1=some p.2/\ρ.n p.1=w0.num p
 mem:∀ b l,ρ.M b=some l->(∀ i cs,B i=some cs->cs≠[]->ρ i≠some b)/\∃ el fr,w.heap[b]?=some (nA l el fr)
 old:∀ b l,ρ.M b=some l->b<w0.w.heap.size->w0.own b=true\/w0.M b=some l
 glob:∀ g e x,w0.gl g=some ⟨e,x⟩->mo (Rd ρ.M e) (width e) ρ.M g 0 [x]
 tops:∀ p∈w0.ids,p.1<w0.top
 memle:Mem.le w0.M ρ.M
theorem cN.fG (h:cN E.w0 n S B ρ a w) (x:Operand):(fG S x).rel ρ (a.eval x):=by
 cases x with
 | tmp t=>exact h.slots t
 | const v=>exact Nf v
 | global g=>exact⟨rfl,rfl⟩
 | func f=>exact⟨rfl,rfl⟩
theorem cN.ae9 (h:cN E.w0 n S B ρ a w):∀ (l:List Operand),bn ρ (l.map (Eng.fG S)) (l.map a.eval):=by
 intro l;induction l with
 | nil=>rfl
 | cons x l b=>exact⟨_,_,rfl,h.fG x,b⟩
theorem Dm (b:Option Tmp) (v:Value) (t:Nat) (f:a.tmps.size=n) :
  (a.put b v).tmps.getD t Go.undef=(match b with|some d=>if t=d/\d<n then v else a.tmps.getD t Go.undef|none=>a.tmps.getD t Go.undef):=by
 cases b with
 | none=>rfl
 | some d =>simp only[Act.put,cx];by_cases h:t=d;subst h;by_cases c:t<n;rw[so aa];simp[c];rw[Array.setIfInBounds_eq_of_size_le aa];simp[c];rw[vo (fun e=>h e.symm)];simp[h]
theorem zZ (b:Option Tmp) (v:Value):(a.put b v).tmps.size=a.tmps.size:=by cases b<;>simp[Act.put]
theorem put_defers (b:Option Tmp) (v:Value):(a.put b v).defers=a.defers:=by cases b<;>simp[Act.put]
theorem cN.step (h:cN E.w0 n S B ρ a w) {id:Nat} {B0:bA} {out:Out} {r:Rec} {x1:Option Tmp} {P:ay} {w':World} {v:Value} (F:∀ i j,B0 i=some j->B i=some j)
  (m:Eff id B0 out ρ P w w') (hv:r.val.rel P v) (hn:r.new=out.new) (hw:r.wr=out.wr) :
  cN E.w0 n (fy n x1 r.val S) (ir r B) P (a.put x1 v) w':=by
 have x9:∀ i b,P i=some b->E.w0.aY b:=by intro i b z;rcases m.dom i b z with h'|⟨_,_,_,h'|⟨q,_,h'⟩⟩;exact (h.bound i b h').1;exact .inl (ja h.below.size h');exact (h.bound _ b h').1
 -- z4 cells y3,of an id
 have D:∀ i j,ir r B i=some j->j≠[]->(∃ p∈out.new,p.1=i/\p.2=j)\/((∀ p∈out.new,p.1≠i)/\∃ p∈out.wr,p.1=i/\p.2=j)\/((∀ p∈out.new,p.1≠i)/\(∀ p∈out.wr,p.1≠i)/\B i=some j):=by
  intro i j z _;unfold ir at z;split at z;rename_i c hc;simp at z;subst z;exact .inl ⟨(i,c),by rw[<- hn];exact hO hc,rfl,rfl⟩
  ·rename_i y0;have hnn:∀ p∈out.new,p.1≠i:=by intro p u;rw[<- hn] at u;exact Gc y0 p u
   split at z;rename_i c hc;simp at z;subst z;exact .inr (.inl ⟨hnn,(i,c),by rw[<- hw];exact hO hc,rfl,rfl⟩);rename_i N;exact .inr (.inr ⟨hnn,by intro p u;rw[<- hw] at u;exact Gc N p u,z⟩)
 -- an id z0 is not z3 y4 for z1 it y9 for
 have H:∀ i b,P i=some b->(∀ p∈out.new,p.1≠i)->ρ i=some b:=by intro i b z hnn;rcases m.dom i b z with h'|⟨_,_,⟨p,u,e⟩,_⟩;exact h';exact (hnn p u e).elim
 refine⟨?_,?_,?_,?_,?_,?_,?_,?_,?_,?_,?_,?_,?_⟩;rw[put_defers];exact h.defers;rw[zZ];exact h.size
 ·intro t;rw[Dm x1 v t h.size];cases x1 with
  | none=>exact SV.fi m.le (h.slots t)
  | some d =>simp only[fy];by_cases hc:t=d/\d<n;simp only[hc,and_self,eA];exact hv;simp only[hc,dT];exact SV.fi m.le (h.slots t)
 refine⟨m.os.trans h.below.os,m.tape.trans h.below.tape,m.output.trans h.below.output,ja h.below.size m.size,fun k hk ho=>?_⟩;rw[<- h.below.block k hk ho];refine m.same k (fe hk h.below.size) (fun p _ e=>?_);rcases (h.bound _ _ e).1 with h'|h';omega;rw[ho] at h';cases h'
 ·intro i j z f b T;rcases D i j z f with ⟨p,u,rfl,rfl⟩|⟨hnn,p,u,rfl,rfl⟩|⟨hnn,N,L⟩;exact ((m.new p u).2.2 b T f).2;have I:=m.wr p u;have h':=H _ _ T hnn;obtain⟨l,g1,g2⟩:=I.2 b h' f;exact⟨l,by rw[(m.le.id _ _ h').2];exact g1,g2⟩
  ·have h':=H _ _ T hnn;obtain⟨l,g1,g2⟩:=h.blks i j L f b h';refine⟨l,?_,dW m.le g2⟩;rw[(m.le.id _ _ h').2]
   have hs:=m.same b g1.lt (fun p u e=>by
    obtain⟨⟨c,o,s⟩,_⟩:=m.wr p u
    exact N p u (h.inj _ _ _ _ _ (F _ _ o) s L f e h'))
   obtain⟨y2,el,fr,k1,k2,k3⟩:=g1;exact⟨y2,el,fr,by rw[hs];exact k1,k2,k3⟩
 ·have mixed:∀ p∈out.new,p.2≠[]->∀ i j b,ir r B i=some j->j≠[]->(∀ p∈out.new,p.1≠i)->P p.1=some b->P i=some b->False:=by
   intro p u x0 i j b z f hnn y6 y7;have h2:=H _ _ y7 hnn;rcases ((m.new p u).2.2 b y6 x0).1 with g|⟨q,V,G,W⟩;have:=(h.bound _ _ h2).2;omega;obtain⟨⟨c,o,s⟩,_⟩:=m.wr q V;rcases D i j z f with ⟨K,y,e,_⟩|⟨_,K,y,X,e2⟩|⟨_,N,L⟩;exact hnn K y e;obtain⟨⟨c',A,C⟩,_⟩:=m.wr K y;have:=h.inj _ _ _ _ _ (F _ _ o) s (F _ _ A) C G (by rw[X];exact h2);have:=m.wruniq q V K y this;subst this;exact f (by rw[<- e2];exact W);exact N q V (h.inj _ _ _ _ _ (F _ _ o) s L f G h2)
  have O:∀ i j,ir r B i=some j->j≠[]->(∀ p∈out.new,p.1≠i)->∃ c,B i=some c/\c≠[]:=by intro i j z f hnn;rcases D i j z f with ⟨K,y,e,_⟩|⟨_,K,y,X,e2⟩|⟨_,N,L⟩;exact (hnn K y e).elim;obtain⟨⟨c',A,C⟩,_⟩:=m.wr K y;exact⟨c',by rw[<- X];exact F _ _ A,C⟩;exact⟨j,L,f⟩
  intro i i' j x5 b z f x7 U T x2;have dec:∀ i j,ir r B i=some j->j≠[]->(∃ p∈out.new,p.1=i/\p.2=j)\/(∀ p∈out.new,p.1≠i):=by intro i j z f;rcases D i j z f with Y|⟨Y,_⟩|⟨Y,_⟩;exact .inl Y;exact .inr Y;exact .inr Y
  rcases dec i j z f with ⟨p,u,X,e2⟩|hnn<;>rcases dec i' x5 x7 U with ⟨K,y,x6,y5⟩|hnn';rw[<- X,<- x6];exact m.newinj p u K y b (by rw[X];exact T) (by rw[x6];exact x2);exact (mixed p u (by rw[e2];exact f) i' x5 b x7 U hnn' (by rw[X];exact T) x2).elim;exact (mixed K y (by rw[y5];exact U) i j b z f hnn (by rw[x6];exact x2) T).elim;obtain⟨c,o,s⟩:=O i j z f hnn;obtain⟨c',A,C⟩:=O i' x5 x7 U hnn';exact h.inj _ _ _ _ _ o s A C (H _ _ T hnn) (H _ _ x2 hnn')
 intro i b z;exact⟨x9 i b z,m.bound i b z⟩;intro p u;exact⟨(m.le.id _ _ (h.init p u).1).1,((m.le.id _ _ (h.init p u).1).2).trans (h.init p u).2⟩
 ·have O:∀ i j,ir r B i=some j->j≠[]->(∀ p∈out.new,p.1≠i)->(∃ c,B i=some c/\c≠[])/\∀ p∈out.wr,p.1=i->p.2≠[]:=by
   intro i j z f hnn;rcases D i j z f with ⟨K,y,e,_⟩|⟨_,K,y,X,e2⟩|⟨_,N,L⟩;exact (hnn K y e).elim;obtain⟨⟨c',A,C⟩,_⟩:=m.wr K y;refine⟨⟨c',by rw[<- X];exact F _ _ A,C⟩,fun p u e=>?_⟩;have:=m.wruniq p u K y (by rw[e,X]);rw[this,e2];exact f;exact⟨⟨j,L,f⟩,fun p u e=>(N p u e).elim⟩
  intro b l T;rcases m.mem b l T with R|⟨hnn,Z,x3⟩
  ·obtain⟨Y,el,fr,h2⟩:=h.mem b l R;have x8:b<w.heap.size:=by
    rcases bN b w.heap.size with h'|h';exact h';rw[eh h'] at h2;cases h2
   refine⟨fun i j z f I=>?_,el,fr,?_⟩
   ·rcases m.dom i b I with h'|⟨_,_,_,h'|⟨q,V,h'⟩⟩
    ·by_cases hnn:∀ p∈out.new,p.1≠i;obtain⟨⟨c,o,s⟩,_⟩:=O i j z f hnn;exact Y i c o s h'
     ·have hnn:∃ p∈out.new,p.1=i:=gj fun hh=>hnn fun p u e=>hh ⟨p,u,e⟩;obtain⟨p,u,e⟩:=hnn;have x0:p.2≠[]:=by
       rcases D i j z f with ⟨K,y,X,e2⟩|⟨hnn',_⟩|⟨hnn',_⟩
       ·intro h0;have z2:P p.1=some b:=by rw[e];exact I
        have:=(m.new K y).2.2 b (by rw[X];exact I) (by rw[e2];exact f);rcases this.1 with g|⟨q,V,G,W⟩;omega;obtain⟨⟨c,o,s⟩,_⟩:=m.wr q V;exact Y _ c (F _ _ o) s G
       exact (hnn' p u e).elim;exact (hnn' p u e).elim
      rcases ((m.new p u).2.2 b (by rw[e];exact I) x0).1 with g|⟨q,V,G,W⟩;omega;obtain⟨⟨c,o,s⟩,_⟩:=m.wr q V;exact Y _ c (F _ _ o) s G
    omega;obtain⟨⟨c,o,s⟩,_⟩:=m.wr q V;exact Y _ c (F _ _ o) s h'
   ·rw[m.same b x8 (fun p u e=>by
     obtain⟨⟨c,o,s⟩,_⟩:=m.wr p u
     exact Y _ c (F _ _ o) s e)]
    exact h2
  refine⟨fun i j z f I=>?_,x3⟩;have y1:∀ p∈out.new,p.1≠i:=fun p u e=>hnn p u (by rw[e];exact I);have x4:=H i b I y1;obtain⟨⟨c,o,s⟩,y8⟩:=O i j z f y1;rcases Z with Z|⟨q,V,G,W⟩;have:=(h.bound _ _ x4).2;omega;obtain⟨⟨c',A,C⟩,_⟩:=m.wr q V;have:=h.inj _ _ _ _ _ (F _ _ A) C o s G x4;exact y8 q V this W
 intro b l T x8;rcases m.mem b l T with R|⟨_,Z,_⟩;exact h.old b l R x8;rcases Z with Z|⟨q,V,G,W⟩;have:=h.below.size;omega;rcases (h.bound _ _ G).1 with h'|h';omega;exact .inl h';intro g e x hg;exact kg m.le.mem (h.glob g e x hg);exact h.tops;exact fun b l T=>m.le.mem b l (h.memle b l T)
theorem cN.skip (h:cN E.w0 n S B ρ a w) (b:Option Tmp):cN E.w0 n (fy n b .undef S) (ir ll B) ρ (a.put b Go.undef) w:=by
 have f:ir ll B=B:=by funext i;simp[ir,ll,cR]
 rw[f];refine⟨by rw[put_defers];exact h.defers,by rw[zZ];exact h.size,?_,h.below,h.blks,h.inj,h.bound,h.init,h.mem,h.old,h.glob,h.tops,h.memle⟩;intro t;rw[Dm b Go.undef t h.size];cases b with
 | none=>exact h.slots t
 | some d =>simp only[fy];by_cases e:t=d/\d<n;simp only[e,and_self,eA];exact rfl;simp only[e,dT];exact h.slots t
theorem nF {j d:Nat} (g:(ops[j]?).bind (·.dst)=some d) {b:Bool} (e:a.tmps.getD d Go.undef=.bool b):yielded ops a.tmps j=some b:=by
 unfold yielded;rw[g];simp only[Option.bind_some];rw[cx] at e;cases f:a.tmps[d]? with
 | none=>rw[f] at e;simp[Go.undef] at e
 | some y=>rw[f] at e;simp at e;subst e;rfl
theorem r9 (X:aD E.P E.sp) (h:cN E.w0 n S B ρ a w) {id:Nat} {o:Oper} {r:Rec} (e:vn E ops S B id o r) (H:∀ i,id<=i->i<id+8->ρ i=none)
  {next:Act->World->Prop} {Q:Exit->Act->World->Prop}
  (hn:∀ Z Y D,cN E.w0 n (fy n o.dst r.val S) (ir r B) D Z Y->(∀ i b,D i=some b->ρ i=some b\/(id<=i/\i<id+8))->next Z Y) :
  if Region.wanted o (yielded ops a.tmps) then o.wp E.P a w next Q\/(o.asks E.P a w/\LetsOut Q) else next (a.put o.dst Go.undef) w:=by
 have skip:r=ll->Region.wanted o (yielded ops a.tmps)=false->(if Region.wanted o (yielded ops a.tmps) then o.wp E.P a w next Q\/(o.asks E.P a w/\LetsOut Q) else next (a.put o.dst Go.undef) w):=by intro G t;subst G;simp only[t,lU,dT];exact hn _ _ ρ (h.skip o.dst) (fun _ _ h=>.inl h)
 have N:∀ out ids,mr E S B id o=.run out ids->(∀ p∈out.pre,p)->cG out.val r.val->r.new=out.new->r.wr=out.wr->Region.wanted o (yielded ops a.tmps)=true ->
   (if Region.wanted o (yielded ops a.tmps) then o.wp E.P a w next Q\/(o.asks E.P a w/\LetsOut Q) else next (a.put o.dst Go.undef) w):=by
  intro out ids G K q x z t;simp only[t,eA];refine .inl ?_;unfold mr at G;dsimp only at G;split at G;rename_i x0 hx;simp only[StepR.run.injEq] at G;obtain⟨rfl,rfl⟩:=G;have hc:Ctx E.w0 id ρ (lL (yB o.op B (o.op.operands.toList.map (fG S))) B) w:=⟨h.below,fun i I C=>h.blks i I (nB C),fun i b C=>(h.bound i b C).2,H,fun b l s=>(h.mem b l s).2,h.glob,fun i i' I W b x z h3 h4=>h.inj i i' I W b (nB x) z (nB h3) h4,fun b l s i I C=>(h.mem b l s).1 i I (nB C)⟩;refine UH hc X hx K (h.ae9 _) next Q (fun v Y D hv hE=>?_);exact hn _ _ D (h.step (fun i I C=>nB C) hE (q _ _ hv) x z) (fun i b C=>by rcases hE.dom i b C with h|⟨x,z,_⟩;exact .inl h;exact .inr ⟨x,z⟩);cases G
 unfold vn qb at e;cases U:o.guard with
 | none =>
  have t:Region.wanted o (yielded ops a.tmps)=true:=by simp[Region.wanted,U]
  simp only[U] at e;rcases e with ⟨e,_⟩|⟨out,ids,e,K,q,x,z,_⟩;unfold mr at e;dsimp only at e;split at e<;>cases e;exact N out ids e K q x z t
 | some g =>
  obtain⟨j,O⟩:=g;simp only[U] at e;have t:Region.wanted o (yielded ops a.tmps)=(yielded ops a.tmps j==some O):=by simp[Region.wanted,U]
  cases R:(ops[j]?).bind (·.dst) with
  | none=>simp only[R] at e;rcases e with ⟨e,_⟩|⟨_,_,e,_⟩<;>cases e
  | some d =>
   simp only[R] at e;have f:=h.slots d;have m:∀ b:Bool,a.tmps.getD d Go.undef=.bool b->yielded ops a.tmps j=some b:=by intro b s;exact nF R s
   have u:∀ L:Region.wanted o (yielded ops a.tmps)=true,((mr E S B id o=.skip/\r=ll)\/(∃ out ids,mr E S B id o=.run out ids/\(∀ p∈out.pre,p)/\cG out.val r.val/\r.new=out.new/\r.wr=out.wr/\r.ids=ids)) ->
     (if Region.wanted o (yielded ops a.tmps) then o.wp E.P a w next Q\/(o.asks E.P a w/\LetsOut Q) else next (a.put o.dst Go.undef) w):=by
    intro L e;rcases e with ⟨e,_⟩|⟨out,ids,e,K,q,x,z,_⟩;unfold mr at e;dsimp only at e;split at e<;>cases e;exact N out ids e K q x z L
   have k:((StepR.skip=.skip/\r=ll)\/(∃ out ids,StepR.skip=.run out ids/\(∀ p∈out.pre,p)/\cG out.val r.val/\r.new=out.new/\r.wr=out.wr/\r.ids=ids))->r=ll:=by intro e;rcases e with ⟨_,e⟩|⟨_,_,e,_⟩;exact e;cases e
   split at e;rename_i _ A;rw[A] at f;have s:=m true (gN (c:=.T) rfl f);exact u (by rw[t,s];rfl) e;rename_i _ A;rw[A] at f;have s:=m true (gN (c:=.T) rfl f);exact skip (k e) (by rw[t,s];rfl);rename_i _ A;rw[A] at f;have s:=m false (gN (c:=.F) rfl f);exact skip (k e) (by rw[t,s];rfl);rename_i _ A;rw[A] at f;have s:=m false (gN (c:=.F) rfl f);exact u (by rw[t,s];rfl) e
   ·rename_i A;rw[A] at f;have V:a.tmps.getD d Go.undef=Go.undef:=f;have hy:yielded ops a.tmps j=none:=by
     unfold yielded;rw[R];simp only[Option.bind_some];rw[cx] at V;cases hq:a.tmps[d]? with
     | none=>rfl
     | some y=>rw[hq] at V;simp at V;subst V;rfl
    exact skip (k e) (by rw[t,hy];rfl)
   rcases e with ⟨e,_⟩|⟨_,_,e,_⟩<;>cases e
end
def cg (n:Nat) (e:Nat->Bool):Nat->List (Oper × Rec)->cD->cD
 | _,[],S=>S
 | i,(o,r)::l,S=>cg n e (i+1) l (match e i with|true=>fy n o.dst r.val S|false=>S)
def cM (e:Nat->Bool):Nat->List (Oper × Rec)->bA->bA
 | _,[],B=>B
 | i,(_,r)::l,B=>cM e (i+1) l (match e i with|true=>ir r B|false=>B)
def Hj (E:Env) (ops:Array Oper) (n base:Nat):Nat->List (Oper × Rec)->cD->bA->Prop
 | _,[],_,_=>True
 | i,(o,r)::l,S,B=>vn E ops S B (base+8*i) o r/\Hj E ops n base (i+1) l (fy n o.dst r.val S) (ir r B)
section
variable {E:Env} {ops:Array Oper} {n base:Nat}
theorem lY {e f:Nat->Bool} {t:Nat}:∀ (l:List (Oper × Rec)) (i:Nat) (S c:cD),S t=c t ->
  (∀ j p,l[j]?=some p->p.1.dst=some t->e (i+j)=f (i+j))->cg n e i l S t=cg n f i l c t:=by
 intro l;induction l with
 | nil=>intro i S c h _;exact h
 | cons p l u =>
  intro i S c h m;obtain⟨o,r⟩:=p;simp only[cg]
  refine u (i+1) _ _ ?_ (fun j q s b=>by
   have:=m (j+1) q (by simpa using s) b
   rw[show i+1+j=i+(j+1) from by omega];exact this)
  by_cases b:o.dst=some t;have:=m 0 (o,r) rfl b;simp only[gn] at this;rw[this];cases f i;exact h;simp[fy,b,h]
  ·have k:∀ S:cD,fy n o.dst r.val S t=S t:=by
    intro S;unfold fy;split;rename_i d g;rw[ah];rintro⟨rfl,_⟩;exact b g;rfl
   cases e i<;>cases f i<;>simp[k,h]
def hX (r:Rec) (id:Nat):Bool:=(cR r.new id).isSome||(cR r.wr id).isSome
theorem Fs {r:Rec} {id:Nat} (h:hX r id=true) (B b:bA):ir r B id=ir r b id:=by unfold ir;simp only[hX,oD] at h;split;rfl;rename_i c;split;rfl;rename_i d;rw[c,d] at h;simp at h
theorem Ho {r:Rec} {id:Nat} (h:hX r id=false) (B:bA):ir r B id=B id:=by unfold ir;simp only[hX,wz] at h;split;rename_i b;rw[b] at h;simp at h;split;rename_i c;rw[c] at h;simp at h;rfl
theorem lX {e d:Nat->Bool} {t:Nat}:∀ (l:List (Oper × Rec)) (i:Nat) (B c:bA),B t=c t ->
  (∀ j p,l[j]?=some p->hX p.2 t=true->e (i+j)=d (i+j))->cM e i l B t=cM d i l c t:=by
 intro l;induction l with
 | nil=>intro i S m h _;exact h
 | cons p l k =>
  intro i B c h f;obtain⟨o,r⟩:=p;simp only[cM]
  refine k (i+1) _ _ ?_ (fun j q g b=>by
   have:=f (j+1) q (by simpa using g) b
   rw[show i+1+j=i+(j+1) from by omega];exact this)
  by_cases b:hX r t=true;have:=f 0 (o,r) rfl b;simp only[gn] at this;rw[this];cases d i;exact h;exact Fs b B c
  ·have b:hX r t=false:=by simpa using b
   cases e i<;>cases d i<;>simp[Ho b,h]
theorem Tx {S b:cD} {x:Operand} (h:∀ t,x=.tmp t->S t=b t):fG S x=fG b x:=by
 cases x with
 | tmp t=>exact h t rfl
 | _=>rfl
theorem RO {S S':cD}:∀ (l:List Operand),(∀ t,Operand.tmp t∈l->S t=S' t)->l.map (fG S)=l.map (fG S'):=by
 intro l;induction l with
 | nil=>intro _;rfl
 | cons x l c =>intro h;simp only[eI];rw[Tx (fun t b=>h t (by simp[b])),c (fun t b=>h t (by simp[b]))]
theorem vK {i:Nat} {l:List Nat} (h:ez i l=true):i∈l:=by
 induction l with
 | nil=>simp[ez] at h
 | cons j l c =>simp only[ez] at h;split at h;rename_i b;have:=beq_true b;subst this;simp;exact qh _ (c h)
theorem EF {i:Nat} {l:List Nat} (h:i∈l):ez i l=true:=by
 induction l with
 | nil=>cases h
 | cons j l c =>simp only[ez];split;rfl;rename_i b;rcases mem_cons.1 h with rfl|h;simp at b;exact c h
theorem Nw {ids:List Nat} {B b:bA} (h:∀ i∈ids,B i=b i):lL ids B=lL ids b:=by
 funext i;unfold lL;cases c:ez i ids with
 | true=>exact h i (vK c)
 | false=>rfl
def F3 (S:cD) (B:bA) (o:Oper):List Nat:=yB o.op B (o.op.operands.toList.map (fG S))
theorem Nl {B b:bA} {d:List SV} (h:∀ i∈gB B d,B i=b i):gB B d=gB b d:=by
 unfold gB at h ⊢;simp only at h ⊢;congr 1;have:∀ (l:List Nat),(∀ i∈l,B i=b i)->(l.flatMap fun i=>match B i with|some c=>c.flatMap Cell.ids|none=>[])=l.flatMap fun i=>match b i with|some c=>c.flatMap Cell.ids|none=>[]:=by
  intro l;induction l with
  | nil=>intro _;rfl
  | cons i l k=>intro e;simp only[List.flatMap_cons,e i au,k (fun j g=>e j (by simp[g]))]
 exact this _ (fun i f=>h i (gS _ f))
theorem Lk {b:Op} {B d:bA} {c:List SV} (h:∀ i∈yB b B c,B i=d i):yB b B c=yB b d c:=by cases b<;>first|rfl|exact Nl h
theorem Nq {o:Oper} {t:Nat} (h:Operand.tmp t∈o.op.operands.toList):t∈o.looksAt ops:=by unfold Oper.looksAt;refine List.mem_append.2 (.inl ?_);exact List.mem_filterMap.2 ⟨.tmp t,h,rfl⟩
theorem Nx {S S':cD} {B c:bA} {id:Nat} {o:Oper} (e:∀ t∈o.looksAt ops,S t=S' t) (b:∀ i∈F3 S B o,B i=c i):mr E S B id o=mr E S' c id o:=by have d:=RO (S:=S) (S':=S') o.op.operands.toList (fun t f=>e t (Nq f));unfold F3 at b;unfold mr;rw[d] at b;dsimp only;rw[d,Nw b,Lk b]
theorem D4 {S b:cD} {B c:bA} {id:Nat} {o:Oper} (e:∀ t∈o.looksAt ops,S t=b t) (h:∀ i∈F3 S B o,B i=c i):qb E ops S B id o=qb E ops b c id o:=by
 unfold qb;rw[Nx (E:=E) (id:=id) e h];cases l:o.guard with
 | none=>rfl
 | some g =>
  obtain⟨j,f⟩:=g;dsimp only;cases k:(ops[j]?).bind (·.dst) with
  | none=>rfl
  | some d =>
   dsimp only
   have:S d=b d:=e d (by
    unfold Oper.looksAt;refine List.mem_append.2 (.inr ?_)
    simp[l,k])
   rw[this]
theorem JD {S:cD} {B:bA} {id:Nat} {o:Oper} {out:Out} {ids:List Nat} (h:qb E ops S B id o=.run out ids):ids=F3 S B o:=by
 have b:mr E S B id o=.run out ids->ids=F3 S B o:=by intro h;unfold mr at h;dsimp only at h;split at h;simp only[StepR.run.injEq] at h;exact h.2.symm;cases h
 unfold qb at h
 repeat' split at h
 all_goals first|exact b h|cases h
def KE (a b:List Nat):Bool:=a.all fun i => !ez i b
def Iv (r:Rec):List Nat:=(r.new.map (·.1))++(r.wr.map (·.1))
def p7 (ops:Array Oper) (p q:Oper × Rec):Bool :=
 !(p.1.apart ops q.1&&KE (Iv p.2) q.2.ids&&KE (Iv q.2) p.2.ids&&KE (Iv p.2) (Iv q.2))
def rJ (b:List Nat) (c:List Edge):Nat :=
 match c with
 | []=>0
 | e::c=>match Region.binds .any e with
  | true=>(2^e.on) ||| (b.getD e.on 0) ||| rJ b c
  | false=>rJ b c
def hY:List Oper->List Nat->List Nat
 | [],b=>b
 | o::c,b=>hY c (b++[rJ b o.after.toList])
def Db (ops:Array Oper):Nat->List (Oper × Rec)->List (Oper × Rec)->List Nat->Bool
 | _,_,[],_=>true
 | _,_,_::_,[]=>false
 | i,b,q::l,m::ms =>
  (b.zipIdx.all fun (p,j)=>m.testBit j || !p7 ops p q)&&Db ops (i+1) (b++[q]) l ms
def nW (ops:List Oper):Bool:=ops.zipIdx.all fun (o,i)=>o.after.toList.all fun e => !Region.binds .any e||blt e.on i
def indep (ops:Array Oper) (l:List (Oper × Rec)):Bool :=
 nW ops.toList&&Db ops 0 [] l (hY ops.toList [])
theorem mX {a b:List Nat} (h:KE a b=true):∀ i∈a,i∉b:=by intro i d c;simp only[KE,mR] at h;have:=h i d;rw[EF c] at this;cases this
theorem Nr {b:List Nat} {i:Nat}:∀ (c:List Edge),(rJ b c).testBit i=true->∃ e∈c,Region.binds .any e=true/\(e.on=i\/(b.getD e.on 0).testBit i=true):=by
 intro c;induction c with
 | nil=>intro h;simp[rJ] at h
 | cons e c k =>intro h;simp only[rJ] at h;split at h;rename_i j;simp only[Nat.testBit_or,oD] at h;rcases h with (h|h)|h;refine⟨e,au,j,.inl ?_⟩;simpa[Nat.testBit_two_pow] using h;exact⟨e,au,j,.inr h⟩;obtain⟨d,f,g⟩:=k h;exact⟨d,by simp[f],g⟩;obtain⟨d,f,g⟩:=k h;exact⟨d,by simp[f],g⟩
theorem zI:∀ (c:List Oper) (b:List Nat),(hY c b).take b.length=b/\(hY c b).length=b.length+c.length /\
  ∀ j o,c[j]?=some o->(hY c b).getD (b.length+j) 0=rJ ((hY c b).take (b.length+j)) o.after.toList:=by
 intro c;induction c with
 | nil=>intro b;exact⟨by simp[hY],by simp[hY],fun j o h=>by simp at h⟩
 | cons o c k =>
  intro b;obtain⟨d,f,g⟩:=k (b++[rJ b o.after.toList]);simp only[bb,bG,eG,bH] at d f g;simp only[hY];refine⟨?_,by rw[f];simp;omega,?_⟩;have:=congrArg (take b.length) d;simpa[lv] using this
  ·intro j m e;cases j with
   | zero =>
    simp at e;subst e;have i:(hY c (b++[rJ b o.after.toList])).take b.length=b:=by have:=congrArg (take b.length) d;simpa[lv] using this
    rw[gn,i];have:=congrArg (fun l:List Nat=>l.getD b.length 0) d;simpa[fI] using this
   | succ j =>have:=g j m (by simpa using e);rw[show b.length+1+j=b.length+(j+1) from by omega] at this;exact this
theorem Ch:∀ (l:List (Oper × Rec)) (i:Nat) (b:List (Oper × Rec)) (ms:List Nat),Db ops i b l ms=true->l.length<=ms.length ->
  ∀ j p k q,(b++l)[j]?=some p->l[k]?=some q->j<b.length+k->(ms.getD k 0).testBit j=true\/p7 ops p q=false:=by
 intro l;induction l with
 | nil=>intro i b ms _ _ j p k q _ u;simp at u
 | cons x l y =>
  intro i b ms h c j p k q d f t;cases ms with
  | nil=>simp at c
  | cons m ms =>
   simp only[Db,aQ] at h;obtain⟨g,s⟩:=h;cases k with
   | zero =>
    simp at f;subst f;have e:b[j]?=some p:=by rw[oJ aa] at d;exact d
    simp only[mR] at g;have:=g (p,j) (List.mem_zipIdx_iff_getElem?.2 e);simpa using this
   | succ k =>have:=y (i+1) (b++[x]) ms s (by simpa using c) j p k q (by simpa using d) (by simpa using f) (by simp;omega);simpa using this
theorem jv {b:List Oper} (h:nW b=true) {i:Nat} {o:Oper} (f:b[i]?=some o):∀ e∈o.after.toList,Region.binds .any e=true->e.on<i:=by intro e d c;simp only[nW,mR] at h;have:=h (o,i) (List.mem_zipIdx_iff_getElem?.2 f) e d;simp only[c,oF,Bool.false_or] at this;simpa[lB] using this
def AR (ops:Array Oper) (e:Nat->Bool):Prop:=∀ j o,ops[j]?=some o->e j=true->∀ d∈o.after.toList,Region.binds .any d=true->e d.on=true
theorem nV {e:Nat->Bool} (t:nW ops.toList=true) (s:AR ops e):∀ (N j:Nat) (o:Oper),j<N->ops[j]?=some o->(∀ d∈o.after.toList,Region.binds .any d=true->e d.on=true) ->
  ∀ i,((hY ops.toList []).getD j 0).testBit i=true->e i=true:=by
 intro N;induction N with
 | zero=>intro j o h;omega
 | succ N u =>
  intro j o y k m i p;obtain⟨_,x,q⟩:=zI ops.toList [];have:=q j o (by simpa using k);simp only[eG,bH] at this;rw[this] at p;obtain⟨d,b,c,hd3⟩:=Nr _ p;have g:=jv t (by simpa using k:ops.toList[j]?=some o) d b c;rcases hd3 with rfl|hd3;exact m d b c
  ·have l:d.on<ops.size:=by
    have:j<ops.size:=by rcases bN j ops.size with h|h;exact h;simp[eh h] at k
    omega
   have f:ops[d.on]?=some ops[d.on]:=by simp[l]
   refine u d.on ops[d.on] aa f (s _ _ f (m d b c)) i ?_;have:((hY ops.toList []).take j).getD d.on 0=(hY ops.toList []).getD d.on 0:=by simp[g]
   rw[<- this];exact hd3
end
section
variable {E:Env} {ops:Array Oper} {n base:Nat} {Q:Exit->Act->World->Prop}
def rv (n:Nat) (l:List (Oper × Rec)) (S:cD):cD:=cg n (fun _=>true) 0 l S
def ru (l:List (Oper × Rec)) (B:bA):bA:=cM (fun _=>true) 0 l B
theorem xO (n:Nat):∀ (l:List (Oper × Rec)) (i j:Nat) (S:cD),cg n (fun _=>true) i l S=cg n (fun _=>true) j l S:=by
 intro l;induction l with
 | nil=>intro i j S;rfl
 | cons p l b=>intro i j S;obtain⟨o,r⟩:=p;simp only[cg];exact b _ _ _
theorem xN:∀ (l:List (Oper × Rec)) (i j:Nat) (B:bA),cM (fun _=>true) i l B=cM (fun _=>true) j l B:=by
 intro l;induction l with
 | nil=>intro i j S;rfl
 | cons p l b=>intro i j S;obtain⟨o,r⟩:=p;simp only[cM];exact b _ _ _
theorem T9 (A:aD E.P E.sp):∀ (l:List (Oper × Rec)) (i:Nat) (S:cD) (B:bA) (ρ:ay) (a:Act) (w:World),Hj E ops n base i l S B ->
  (∀ k p,l[k]?=some p->ops[i+k]?=some p.1)->cN E.w0 n S B ρ a w->(∀ id b,ρ id=some b->id<base+8*i) ->
  (∀ m t d,cN E.w0 n (rv n l S) (ru l B) d m t->(∀ id b,d id=some b->id<base+8*(i+l.length))->Q .normal m t) ->
  wpOps E.P ops Q (List.range' i l.length) a w:=by
 intro l;induction l with
 | nil=>intro i S B ρ a w _ _ y s x;exact x a w ρ y (by simpa using s)
 | cons p l L =>
  intro i S B ρ a w C e y s x;obtain⟨o,r⟩:=p;obtain⟨K,C⟩:=C;have F:=e 0 (o,r) rfl;simp only[gn] at F;simp only[bG,tF];unfold wpOps;simp only[F];refine r9 A y K (fun j O _=>?_) (fun m t d z f=>?_)
  ·cases g:ρ j with
   | none=>rfl
   | some b=>have:=s j b g;omega
  refine L (i+1) _ _ d m t C (fun k q I=>?_) z (fun j b g=>?_) (fun G N D H u=>?_);have:=e (k+1) q (by simpa using I);rw[show i+1+k=i+(k+1) from by omega];exact this;rcases f j b g with h|h;have:=s j b h;omega;omega;refine x G N D ?_ (fun j b g=>?_);unfold rv ru at *;simp only[cg,cM];rw[xO n l (0+1) 0,xN l (0+1) 0];exact H;have:=u j b g;simp only[bG];omega
theorem Kl:∀ (l:List (Oper × Rec)) (i k:Nat) (S:cD) (B:bA) (o:Oper) (r:Rec),Hj E ops n base i l S B->l[k]?=some (o,r) ->
  vn E ops (cg n (fun j=>decide (j<i+k)) i l S) (cM (fun j=>decide (j<i+k)) i l B) (base+8*(i+k)) o r:=by
 intro l;induction l with
 | nil=>intro i k S B o r _ h;simp at h
 | cons p l u =>
  intro i k S B o r e c;obtain⟨x,y⟩:=p;obtain⟨t,e⟩:=e;have b:∀ (m:Nat) (l:List (Oper × Rec)) (i:Nat),m<=i->∀ S B,cg n (fun j=>decide (j<m)) i l S=S/\cM (fun j=>decide (j<m)) i l B=B:=by
   intro m l;induction l with
   | nil=>intro i _ S B;exact⟨rfl,rfl⟩
   | cons q l f =>
    intro i z S B;obtain⟨A,C⟩:=q;have:decide (i<m)=false:=by simp;omega
    simp only[cg,cM,this];exact f (i+1) aa S B
  cases k with
  | zero =>simp at c;obtain⟨rfl,rfl⟩:=c;obtain⟨g,s⟩:=b (i+0) ((x,y)::l) i aa S B;rw[g,s];exact t
  | succ k =>have:=u (i+1) k _ _ o r e (by simpa using c);rw[show i+1+k=i+(k+1) from by omega] at this;simp only[cg,cM];have d:decide (i<i+(k+1))=true:=au;rw[d];exact this
theorem we {S c:cD} {B k:bA} {id:Nat} {o:Oper} (l:∀ t∈o.looksAt ops,S t=c t) (h:qb E ops S B id o=.skip):qb E ops c k id o=.skip:=by
 have b:∀ S B,mr E S B id o≠.skip:=by intro S B h;unfold mr at h;dsimp only at h;split at h<;>cases h
 unfold qb at h ⊢;cases f:o.guard with
 | none=>simp only[f] at h;exact absurd h (b _ _)
 | some g =>
  obtain⟨j,i⟩:=g;simp only[f] at h;dsimp only;cases e:(ops[j]?).bind (·.dst) with
  | none=>simp only[e] at h;cases h
  | some d =>
   simp only[e] at h;dsimp only
   have:S d=c d:=l d (by
    unfold Oper.looksAt;refine List.mem_append.2 (.inr ?_)
    simp[f,e])
   rw[<- this];split at h;exact absurd h (b _ _);rfl;rfl;exact absurd h (b _ _);rfl;cases h
theorem qP (n:Nat) (e:Nat->Bool) {t:Nat} (b:n<=t):∀ (l:List (Oper × Rec)) (i:Nat) (S:cD),cg n e i l S t=S t:=by
 intro l;induction l with
 | nil=>intro i S;rfl
 | cons p l c =>intro i S;obtain⟨o,r⟩:=p;simp only[cg];rw[c];cases e i;rfl;show fy n o.dst r.val S t=S t;unfold fy;split;rename_i d _;rw[ah (by rintro⟨rfl,h⟩;exact absurd h (Nat.not_lt.2 b))];rfl
theorem FT {e:Nat->Bool} {t:Nat} {o:Oper} {r:Rec} (x:o.dst=some t) (z:t<n):∀ (l:List (Oper × Rec)) (i k:Nat) (S:cD),l[k]?=some (o,r)->e (i+k)=true ->
  (∀ j p,l[j]?=some p->k<j->p.1.dst=some t->e (i+j)=false)->cg n e i l S t=r.val:=by
 intro l;induction l with
 | nil=>intro i k S h;simp at h
 | cons p l A =>
  intro i k S d c m;obtain⟨s,u⟩:=p;cases k with
  | zero =>
   simp at d;obtain⟨rfl,rfl⟩:=d;simp only[gn] at c;simp only[cg,c];have:cg n e (i+1) l (fy n s.dst u.val S) t=cg n (fun _=>false) (i+1) l (fy n s.dst u.val S) t :=
    lY l (i+1) _ _ rfl (fun j q f b=>by
     have:=m (j+1) q (by simpa using f) aa b
     rw[show i+1+j=i+(j+1) from by omega];exact this)
   rw[this];have none:∀ (l:List (Oper × Rec)) (i:Nat) (S:cD),cg n (fun _=>false) i l S=S:=by
    intro l;induction l with
    | nil=>intro i S;rfl
    | cons q l g=>intro i S;obtain⟨C,D⟩:=q;simp only[cg];exact g _ _
   rw[none];simp[fy,x,z]
  | succ k =>simp only[cg];refine A (i+1) k _ (by simpa using d) (by rw[show i+1+k=i+(k+1) from by omega];exact c) (fun j q f y b=>?_);have:=m (j+1) q (by simpa using f) aa b;rw[show i+1+j=i+(j+1) from by omega];exact this
theorem FR {e:Nat->Bool} {t:Nat} {o:Oper} {r:Rec} (x:hX r t=true) (u:bA):∀ (l:List (Oper × Rec)) (i k:Nat) (B:bA),l[k]?=some (o,r)->e (i+k)=true ->
  (∀ j p,l[j]?=some p->k<j->hX p.2 t=true->e (i+j)=false)->cM e i l B t=ir r u t:=by
 intro l;induction l with
 | nil=>intro i k S h;simp at h
 | cons p l z =>
  intro i k S d c m;obtain⟨A,s⟩:=p;cases k with
  | zero =>
   simp at d;obtain⟨rfl,rfl⟩:=d;simp only[gn] at c;simp only[cM,c];have:cM e (i+1) l (ir s S) t=cM (fun _=>false) (i+1) l (ir s S) t :=
    lX l (i+1) _ _ rfl (fun j q f b=>by
     have:=m (j+1) q (by simpa using f) aa b
     rw[show i+1+j=i+(j+1) from by omega];exact this)
   rw[this];have none:∀ (l:List (Oper × Rec)) (i:Nat) (S:bA),cM (fun _=>false) i l S=S:=by
    intro l;induction l with
    | nil=>intro i S;rfl
    | cons q l g=>intro i S;obtain⟨C,D⟩:=q;simp only[cM];exact g _ _
   rw[none];exact Fs x _ _
  | succ k =>simp only[cM];refine z (i+1) k _ (by simpa using d) (by rw[show i+1+k=i+(k+1) from by omega];exact c) (fun j q f y b=>?_);have:=m (j+1) q (by simpa using f) aa b;rw[show i+1+j=i+(j+1) from by omega];exact this
theorem n6 {r:Rec} {t:Nat} (h:hX r t=true):t∈Iv r:=by simp only[hX,oD] at h;unfold Iv;refine List.mem_append.2 ?_;rcases h with h|h;obtain⟨c,b⟩:=Option.isSome_iff_exists.1 h;exact .inl (mem_map.2 ⟨_,hO b,rfl⟩);obtain⟨c,b⟩:=Option.isSome_iff_exists.1 h;exact .inr (mem_map.2 ⟨_,hO b,rfl⟩)
def AO (l:List Bool):Nat:=l.countP (fun b => !b)
theorem Ix:∀ (l:List Bool) (i:Nat),l[i]?=some false->AO (l.set i true)+1=AO l:=by
 intro l;induction l with
 | nil=>intro i h;simp at h
 | cons b l c =>
  intro i h;cases i with
  | zero=>simp at h;subst h;simp[AO]
  | succ i =>have:=c i (by simpa using h);unfold AO at *;simp only[Be,List.countP_cons];omega
theorem Fc {l:List Bool} (h:AO l=0):∀ i,l.getD i true=true:=by
 intro i;unfold AO at h;rw[List.countP_eq_zero] at h;cases c:l[i]? with
 | none=>simp[c]
 | some b =>have:=h b (dS c);simp[c];simpa using this
theorem Ng (u0:aD E.P E.sp) {l:List (Oper × Rec)} {S:cD} {B:bA} (hl:l.map (·.1)=ops.toList) (ht:Hj E ops n base 0 l S B) (y7:indep ops l=true)
  (hq:∀ a w ρ,cN E.w0 n (rv n l S) (ru l B) ρ a w->(∀ id b,ρ id=some b->id<base+8*ops.size)->Q .normal a w) :
  ∀ (C:Nat) (f:Array Bool) (a:Act) (w:World) (ρ:ay),f.size=ops.size->AO f.toList<=C->AR ops (fun j=>f.getD j false) ->
   cN E.w0 n (cg n (fun j=>f.getD j false) 0 l S) (cM (fun j=>f.getD j false) 0 l B) ρ a w ->
   (∀ id b,ρ id=some b->id<base\/∃ j,f.getD j false=true/\base+8*j<=id/\id<base+8*j+8) ->
   wpAny E.P .any ops Q C f a w:=by
 simp only[indep,aQ] at y7;obtain⟨z,x3⟩:=y7;have x6:l.length=ops.size:=by have:=congrArg length hl;simpa using this
 have T:∀ (j:Nat) (p:Oper × Rec),l[j]?=some p->ops[j]?=some p.1:=by intro j p O;have:=congrArg (fun m:List Oper=>m[j]?) hl;simp only[dw,O,cY] at this;simpa using this.symm
 have y0:l.length<=(hY ops.toList []).length:=by rw[(zI ops.toList []).2.1];simp[x6]
 have A:∀ (j:Nat) (p:Oper × Rec) (k:Nat) (q:Oper × Rec),l[j]?=some p->l[k]?=some q->j<k->((hY ops.toList []).getD k 0).testBit j=true\/p7 ops p q=false:=by intro j p k q s hk x1;exact Ch l 0 [] _ x3 y0 j p k q (by simpa using s) hk (by simpa using x1)
 -- u3 f
 have I:∀ (f:Array Bool) (a:Act) (w:World) (ρ:ay),f.size=ops.size->(∀ i,i<ops.size->f.getD i false=true) ->
   cN E.w0 n (cg n (fun j=>f.getD j false) 0 l S) (cM (fun j=>f.getD j false) 0 l B) ρ a w ->
   (∀ id b,ρ id=some b->id<base\/∃ j,f.getD j false=true/\base+8*j<=id/\id<base+8*j+8)->Q .normal a w:=by
  intro f a w ρ x D hr hd;refine hq a w ρ ?_ (fun id b z8=>?_)
  ·have e1:cg n (fun j=>f.getD j false) 0 l S=rv n l S:=by
    funext t;refine lY l 0 S S rfl (fun j p s _=>?_);simp only[bH];refine D j ?_;rcases bN j l.length with h|h;omega;simp[dQ h] at s
   have e2:cM (fun j=>f.getD j false) 0 l B=ru l B:=by funext t;refine lX l 0 B B rfl (fun j p s _=>?_);simp only[bH];refine D j ?_;rcases bN j l.length with h|h;omega;simp[dQ h] at s
   rw[<- e1,<- e2];exact hr
  ·rcases hd id b z8 with h|⟨j,W,K,X⟩;omega
   ·have:j<ops.size:=by
     rcases bN j ops.size with h|h;exact h;rw[cx,eh aa] at W;cases W
    omega
 have q8:∀ f:Array Bool,f.size=ops.size->Region.ready .any ops f=[]->∀ i,i<ops.size->f.getD i false=true:=by
  intro f x hr;have:∀ N i,i<N->i<ops.size->f.getD i false=true:=by
   intro N;induction N with
   | zero=>intro i h;omega
   | succ N u1 =>
    intro i L F;cases hb:f.getD i false with
    | true=>rfl
    | false =>
     exfalso;have x7:i∈Region.ready .any ops f:=by
      unfold Region.ready;refine List.mem_filter.2 ⟨List.mem_range.2 F,?_⟩;have x2:ops[i]?=some ops[i]:=by simp[F]
      have z6:f.getD i true=false:=by
       rw[cx] at hb ⊢;have:f[i]?=some f[i]:=by simp[x,F]
       rw[this] at hb ⊢;simpa using hb
      rw[z6,x2];simp only[oE,cY,ct,dp];rw[ni];intro e he;cases z4:Region.binds .any e with
      | false=>rfl
      | true =>have x1:=jv z (by simp[F]:ops.toList[i]?=some ops[i]) e (by simpa using he) z4;simp[u1 e.on aa aa]
     rw[hr] at x7;cases x7
  exact fun i L=>this (i+1) i aa L
 intro C;induction C with
 | zero =>
  intro f a w ρ x hf hc hr hd;have D:∀ i,i<ops.size->f.getD i false=true:=by
   intro i L;have:=Fc (Nat.le_zero.1 hf) i;rw[cx];have K:f[i]?=some f[i]:=by simp[x,L]
   rw[K];have X:f.toList[i]?=some f[i]:=by simp[x,L]
   rw[aX,X] at this;simpa using this
  refine⟨?_,I f a w ρ x D hr hd⟩;unfold Region.ready;rw[List.filter_eq_nil_iff];intro i L;have L:=List.mem_range.1 L;have:=D i L;rw[cx] at this;have K:f[i]?=some f[i]:=by simp[x,L]
  rw[K] at this;rw[cx,K];simp at this ⊢;simp[this]
 | succ C ih =>
  intro f a w ρ x hf hc hr hd;refine⟨fun h0=>I f a w ρ x (q8 f x h0) hr hd,fun i L=>?_⟩;obtain⟨z7,y4⟩:=List.mem_filter.1 L;have F:=List.mem_range.1 z7;have x2:ops[i]?=some ops[i]:=by simp[F]
  have x9:f[i]?=some f[i]:=by simp[x,F]
  simp only[aQ,oz,x2,cY,ct] at y4;obtain⟨y5,y6⟩:=y4;have y8:f[i]=false:=by rw[cx,x9] at y5;simpa using y5
  have x0:f.getD i false=false:=by rw[cx,x9];simpa using y8
  obtain⟨⟨o,r⟩,O⟩:∃ p,l[i]?=some p:=⟨l[i],by simp[x6,F]⟩;have U:=T i _ O;have eo:ops[i]=o:=by rw[x2] at U;simpa using U
  have R:∀ d∈o.after.toList,Region.binds .any d=true->f.getD d.on false=true:=by intro d Y Z;rw[ni] at y6;have:=y6 d (by rw[eo];simpa using Y);simpa[Z] using this
  have early:∀ k,((hY ops.toList []).getD i 0).testBit k=true->f.getD k false=true:=nV z hc (i+1) i o aa U R;have x8:∀ j oj,ops[j]?=some oj->((hY ops.toList []).getD j 0).testBit i=true->f.getD j false=false:=by
   intro j oj s hb;cases H:f.getD j false with
   | false=>rfl
   | true =>have:=nV z hc (j+1) j oj aa s (hc j oj s H) i hb;rw[x0] at this;cases this
  -- y2 is not z3 from i is z2 with it
  have V:∀ (t j:Nat) (p:Oper × Rec),l[j]?=some p->p.1.dst=some t->(t∈o.looksAt ops\/o.dst=some t)->(decide (j<i)=f.getD j false\/j=i):=by intro t j p s g hto;rcases wK j i with h|h|h;left;rcases A j p i (o,r) s O h with hb|hb;rw[early j hb];simpa using h;exfalso;simp only[p7,oO,aQ] at hb;obtain⟨s1,s2,s3⟩:=Oper.apart_spec hb.1.1.1;rcases hto with hto|hto;exact s1 t g hto;exact s2 t g hto;right;exact h;left;rcases A i (o,r) j p O s h with hb|hb;rw[x8 j p.1 (T j p s) hb];simp;omega;exfalso;simp only[p7,oO,aQ] at hb;obtain⟨s1,s2,s3⟩:=Oper.apart_spec hb.1.1.1;rcases hto with hto|hto;exact s3 t g hto;exact s2 t hto g
  have x4:∀ (t j:Nat) (p:Oper × Rec),l[j]?=some p->hX p.2 t=true->(t∈r.ids\/hX r t=true)->(decide (j<i)=f.getD j false\/j=i):=by intro t j p s g hto;have g:=n6 g;rcases wK j i with h|h|h;left;rcases A j p i (o,r) s O h with hb|hb;rw[early j hb];simpa using h;exfalso;simp only[p7,oO,aQ] at hb;obtain⟨⟨⟨_,b1⟩,b2⟩,b3⟩:=hb;rcases hto with hto|hto;exact mX b1 t g hto;exact mX b3 t g (n6 hto);right;exact h;left;rcases A i (o,r) j p O s h with hb|hb;rw[x8 j p.1 (T j p s) hb];simp;omega;exfalso;simp only[p7,oO,aQ] at hb;obtain⟨⟨⟨_,b1⟩,b2⟩,b3⟩:=hb;rcases hto with hto|hto;exact mX b2 t g hto;exact mX b3 t (n6 hto) g
  have y9:=Kl l 0 i S B o r ht O;simp only[bH] at y9;have x5:∀ t∈o.looksAt ops,cg n (fun j=>decide (j<i)) 0 l S t=cg n (fun j=>f.getD j false) 0 l S t:=by intro t hto;refine lY l 0 S S rfl (fun j p s g=>?_);simp only[bH];rcases V t j p s g (.inl hto) with h|h;exact h;subst h;rw[x0];simp
  have z0:vn E ops (cg n (fun j=>f.getD j false) 0 l S) (cM (fun j=>f.getD j false) 0 l B) (base+8*i) o r:=by rcases y9 with ⟨W,K⟩|⟨out,ids,W,K,X,h4,h5,h6⟩;exact .inl ⟨we x5 W,K⟩;refine .inr ⟨out,ids,?_,K,X,h4,h5,h6⟩;rw[<- D4 x5 ?_];exact W;intro t z1;rw[<- JD W,<- h6] at z1;refine lX l 0 B B rfl (fun j p s g=>?_);simp only[bH];rcases x4 t j p s g (.inl z1) with h|h;exact h;subst h;rw[x0];simp
  have u:∀ j,(f.setIfInBounds i true).getD j false=if j=i then true else f.getD j false:=by intro j;rw[cx,cx];by_cases h:j=i;subst h;rw[so aa];simp;rw[vo (fun e=>h e.symm)];simp[h]
  unfold wpOp;simp only[U];refine r9 u0 hr z0 (fun k W K=>?_) (fun a' w' u2 z9 y3=>?_)
  ·cases hk:ρ k with
   | none=>rfl
   | some b =>
    exfalso;rcases hd k b hk with h|⟨j,X,h4,h5⟩;omega
    ·have:j=i:=by omega
     subst this;rw[x0] at X;cases X
  ·have e1:cg n (fun j=>(f.setIfInBounds i true).getD j false) 0 l S=fy n o.dst r.val (cg n (fun j=>f.getD j false) 0 l S):=by
    funext t;by_cases y1:t<n
    ·by_cases y:o.dst=some t
     ·rw[FT (o:=o) (r:=r) y y1 l 0 i S O (by simp only[bH];rw[u];simp) (fun j p s x1 g=>by
       simp only[bH];rw[u,ah aa];rcases V t j p s g (.inr y) with h|h;rw[<- h];simp;omega
       ·omega)]
      simp[fy,y,y1]
     ·have:fy n o.dst r.val (cg n (fun j=>f.getD j false) 0 l S) t=cg n (fun j=>f.getD j false) 0 l S t:=by
       unfold fy;split;rename_i d z5;rw[ah];rintro⟨rfl,_⟩;exact y z5;rfl
      rw[this];refine lY l 0 S S rfl (fun j p s g=>?_);simp only[bH];rw[u];by_cases G:j=i;subst G;rw[O] at s;simp at s;subst s;exact absurd g y;simp[G]
    rw[qP n _ aa];unfold fy;split;rw[ah (by rintro⟨rfl,h⟩;exact y1 h),qP n _ aa];rw[qP n _ aa]
   have e2:cM (fun j=>(f.setIfInBounds i true).getD j false) 0 l B=ir r (cM (fun j=>f.getD j false) 0 l B):=by
    funext t;cases y:hX r t with
    | true =>
     exact FR (o:=o) (r:=r) y _ l 0 i B O (by simp only[bH];rw[u];simp) (fun j p s x1 g=>by
       simp only[bH];rw[u,ah aa];rcases x4 t j p s g (.inr y) with h|h;rw[<- h];simp;omega
       ·omega)
    | false =>rw[Ho y];refine lX l 0 B B rfl (fun j p s g=>?_);simp only[bH];rw[u];by_cases G:j=i;subst G;rw[O] at s;simp at s;subst s;rw[y] at g;cases g;simp[G]
   refine ih (f.setIfInBounds i true) a' w' u2 (by simpa using x) ?_ ?_ (by rw[e1,e2];exact z9) ?_;have:=Ix f.toList i (by simpa[y8] using x9);simp only[AZ];omega
   ·intro j oj s H d Y Z;have H:(f.setIfInBounds i true).getD j false=true:=H;show (f.setIfInBounds i true).getD d.on false=true;rw[u] at H ⊢;by_cases G:j=i
    ·subst G;have:oj=o:=by rw[U] at s;simpa using s.symm
     subst this;have:=R d Y Z;simp[this]
    simp only[G,dT] at H;have:=hc j oj s H d Y Z;simp[this]
   intro k b hk;rcases y3 k b hk with h|⟨W,K⟩;rcases hd k b h with h|⟨j,X,h4⟩;exact .inl h;exact .inr ⟨j,by rw[u];simp[X],h4⟩;exact .inr ⟨i,by rw[u];simp,W,K⟩
