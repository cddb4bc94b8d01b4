import Derived.Orders
import Derived.Below
import Derived.Laws.Cells
import Derived.Laws.StructEq
import Derived.KernelRfl
import Derived.Laws.BytesArg
import Derived.Laws.MakeOwn
import Derived.Laws.IdiomStrings
import Derived.Laws.Slices
import Derived.Deep.LoopGhost
set_option maxRecDepth 100000
noncomputable section
open List(all_eq_true drop length mem_cons mem_map mem_range range replicate take)
open Nat(beq ble blt)
open Option(isSome)
open Int(toNat)
abbrev LI:=List Int
theorem aa{p:Prop}(h:p:=by omega):p:=h
theorem az{p:Prop}(h:p:=by simp):p:=h
abbrev aJ:=@Int.toNat_natCast
abbrev bx:=@List.getD_eq_getElem?_getD
abbrev ah:=@if_pos
abbrev ai:=@if_neg
abbrev bO:=@List.getElem?_eq_getElem
abbrev bA:=@List.length_append
abbrev bg:=@List.take_length
abbrev aQ:=@Nat.le_refl
abbrev bD:=@Bool.and_eq_true
abbrev dA:=@List.take_succ_eq_append_getElem
abbrev bF:=@List.append_nil
abbrev aY:=@Nat.zero_le
abbrev cA:=@List.take_of_length_le
abbrev cd:=@Option.some.injEq
abbrev b5:=@List.length_map
abbrev b6:=@decide_eq_true
abbrev cm:=@decide_eq_false
abbrev eh:=@Array.getD_eq_getD_getElem?
abbrev eL:=@List.eq_nil_of_length_eq_zero
abbrev cp:=@Prod.mk.injEq
abbrev cE:=@List.map_append
abbrev cP:=@List.length_cons
abbrev cZ:=@List.append_assoc
abbrev c6:=@List.length_take
abbrev c7:=@Option.getD_some
abbrev cy:=@Nat.zero_add
abbrev de:=@List.getElem_mem
abbrev cG:=@Nat.lt_or_ge
abbrev dM:=@List.getElem?_map
abbrev ff:=@List.take_append_drop
abbrev ei:=@Int.emod_eq_of_lt
abbrev fQ:=@List.getElem?_eq_none
abbrev fR:=@Nat.le_of_ble_eq_true
abbrev dS:=@List.cons.injEq
abbrev ft:=@List.mem_of_getElem?
abbrev iH:=@Classical.byContradiction
abbrev gH:=@Array.getElem?_eq_none
abbrev gr:=@Nat.mul_le_mul_right
abbrev gI:=@List.getElem?_take
abbrev gJ:=@Nat.lt_of_lt_of_le
abbrev mD:=@List.take_append_of_le_length
abbrev ji:=@Nat.eq_of_beq_eq_true
abbrev eM:=@Int.mul_assoc
abbrev hV:=@List.mem_singleton
abbrev gu:=@List.length_drop
abbrev fU:=@Option.map_some
abbrev eV:=@List.map_cons
abbrev jN:=@List.mem_append_left
abbrev eW:=@Int.mul_emod
abbrev lN:=@Int.eq_ofNat_of_zero_le
abbrev kH:=@List.mem_append_right
abbrev gK:=@List.nil_append
abbrev eN:=@Nat.add_mul
abbrev kJ:=@List.mem_of_mem_take
abbrev fu:=@List.map_map
abbrev jO:=@decide_eq_true_iff
abbrev fw:=@Nat.le_trans
abbrev fV:=@Int.le_of_lt
abbrev pb:=@Int.tmod_eq_emod_of_nonneg
abbrev qN:=@List.drop_append_of_le_length
abbrev pd:=@List.drop_eq_getElem_cons
abbrev jj:=@List.length_nil
abbrev iI:=@List.drop_drop
abbrev jQ:=@Nat.mod_eq_of_lt
abbrev jR:=@Nat.min_eq_left
abbrev jT:=@List.length_set
abbrev nM:=@List.length_filter_le
abbrev mE:=@Array.length_toList
abbrev pf:=@Int.ediv_ediv_of_nonneg
abbrev pg:=@List.drop_of_length_le
abbrev uP:=@Nat.Coprime.mul_dvd_of_dvd_of_dvd
abbrev jU:=@List.drop_zero
abbrev pk:=@List.length_replicate
abbrev mF:=@decide_eq_true_eq
abbrev jk:=@Int.mul_comm
abbrev nN:=@List.filter_append
abbrev fW:=@and_true
abbrev kL:=@Nat.succ_mul
abbrev B2:=@Array.getElem?_setIfInBounds_self_of_lt
abbrev uQ:=@Int.fdiv_eq_ediv_of_nonneg
abbrev uR:=@Int.tdiv_eq_ediv_of_nonneg
abbrev mG:=@Bool.false_and
abbrev pn:=@List.getElem?_set
abbrev qO:=@List.replicate_succ
abbrev qP:=@beq_eq_false_iff_ne
abbrev uS:=@List.getElem?_append_left
abbrev nO:=@Option.some.inj
abbrev sj:=@List.set_append_right
abbrev qQ:=@Array.all_eq_true'
abbrev po:=@List.cons_append
abbrev qR:=@Bool.not_eq_false'
abbrev pr:=@Nat.zero_lt_succ
abbrev nP:=@List.take_take
abbrev qS:=@List.ext_getElem?
abbrev pv:=@Bool.eq_iff_iff
abbrev px:=@List.take_left'
abbrev pz:=@List.mem_append
abbrev qE:=@List.map_congr_left
abbrev lf:=@Nat.add_zero
abbrev lh:=@Nat.beq_refl
abbrev mj:=@Int.emod_emod
abbrev mn:=@Bool.true_and
abbrev vP:=@List.getElem?_append_right
abbrev oT:=@List.ext_getElem
abbrev yY:=@List.findIdx_lt_length_of_exists
abbrev oU:=@List.filter_cons
abbrev sG:=@Array.getElem?_modify
abbrev qF:=@List.set_cons_zero
abbrev yZ:=@Array.getElem?_setIfInBounds_ne
abbrev lj:=@Nat.one_mul
abbrev mo:=@Nat.add_comm
abbrev oV:=@Nat.zero_lt_one
abbrev sH:=@List.findIdx_getElem
abbrev qG:=@List.findIdx_cons
abbrev iP:=@Prod.ext
abbrev qH:=@List.drop_append
abbrev oW:=@List.drop_take
abbrev oX:=@Int.mul_nonneg
abbrev qI:=@List.drop_length
abbrev qJ:=@List.getElem_map
abbrev oY:=@Bool.and_false
abbrev lk:=@Array.ext'
abbrev nh:=@Nat.zero_mul
abbrev sK:=@Nat.eq_zero_or_pos
abbrev ni:=@Nat.mul_comm
abbrev sL:=@BitVec.toNat_ofNat
abbrev nj:=@Nat.pow_succ
abbrev qK:=@List.range_succ
abbrev za:=@Int.add_mul_emod_self_left
abbrev oZ:=@List.cons.inj
abbrev vQ:=@BitVec.ofInt_natCast
abbrev zb:=@List.mem_or_eq_of_mem_set
abbrev nk:=@Int.mul_one
abbrev sM:=@all_eq_true
abbrev vR:=@List.flatten_append
abbrev zc:=@List.getElem?_cons_succ
abbrev jo:=@if_true
abbrev sN:=@Int.emod_nonneg
abbrev vS:=@Int.emod_lt_of_pos
abbrev Dv:=@Array.eq_empty_of_size_eq_zero
abbrev Dw:=@List.eq_nil_iff_forall_not_mem
abbrev sO:=@Bool.or_eq_true
abbrev Dx:=@Nat.and_two_pow_sub_one_eq_mod
abbrev Dy:=@Int.mul_le_mul_of_nonneg_right
abbrev sP:=@Nat.not_lt_zero
abbrev Dz:=@Int.mul_le_mul_of_nonneg_left
abbrev vT:=@Function.comp_def
abbrev vU:=@List.flatten_cons
abbrev vV:=@List.filter_congr
abbrev zd:=@Int.emod_add_mul_ediv
abbrev kk:=@Iff.rfl
abbrev ze:=@List.getElem?_toArray
abbrev qL:=@Nat.sub_self
abbrev vW:=@List.range'_succ
abbrev mq:=@if_false
abbrev zf:=@List.mem_cons_of_mem
abbrev vX:=@Nat.le_add_right
abbrev vY:=@List.any_eq_true
abbrev sQ:=@Nat.le_of_dvd
abbrev zg:=@List.getD_cons_zero
abbrev zh:=@Array.toList_append
abbrev vZ:=@Option.map_none
abbrev DA:=@Nat.add_mul_mod_self_left
abbrev zi:=@Int.sub_emod_right
abbrev zj:=@List.getElem?_drop
abbrev sR:=@List.map_nil
abbrev wa:=@Nat.mul_le_mul
abbrev wb:=@Bool.not_false
abbrev wc:=@List.take_zero
abbrev qM:=@beq_iff_eq
abbrev DB:=@List.getElem?_cons_zero
abbrev DC:=@List.getElem?_replicate
abbrev zl:=@Bool.not_eq_true'
abbrev zn:=@Nat.lt_trichotomy
abbrev zo:=@Int.mul_left_comm
abbrev sS:=@Int.mul_add
abbrev sU:=@Int.add_mul
abbrev DD:=@Int.ediv_eq_zero_of_lt
abbrev sV:=@Nat.add_mod
abbrev DE:=@List.drop_eq_nil_of_le
abbrev DF:=@List.getElem?_set_self
abbrev we:=@mem_cons
abbrev wg:=@Nat.add_assoc
abbrev zp:=@BitVec.toNat_and
abbrev DG:=@List.length_singleton
abbrev DH:=@List.mem_of_mem_erase
abbrev DI:=@List.getElem_set_self
abbrev DJ:=@Nat.ble_eq_true_of_le
abbrev LM:=@List.findIdx_eq_length_of_false
abbrev wh:=@Int.emod_def
abbrev sW:=@Nat.blt_eq
abbrev wi:=@Nat.le_of_lt
abbrev zq:=@List.mem_filter
abbrev DK:=@List.mem_of_mem_drop
abbrev zr:=@Int.natCast_mul
abbrev DL:=@Int.emod_emod_of_dvd
abbrev zt:=@Int.ediv_nonneg
abbrev wm:=@List.map_set
abbrev DM:=@Int.toNat_of_nonneg
abbrev DN:=@List.takeWhile_cons
abbrev zu:=@List.nodup_nil
abbrev wo:=@Nat.mul_one
abbrev wq:=@Int.le_refl
abbrev DO:=@Int.add_emod_right
abbrev DP:=@List.mem_cons_self
abbrev zv:=@Nat.dvd_trans
abbrev zw:=@Nat.lt_irrefl
abbrev DQ:=@Nat.lt_succ_of_lt
abbrev DR:=@List.length_range
abbrev DS:=@List.nodup_append
abbrev zx:=@Nat.le_of_eq
abbrev zy:=@Nat.mul_succ
theorem Odt{p:Prop}[Decidable p](h:decide p=true):p:=of_decide_eq_true h
theorem Odf{p:Prop}[Decidable p](h:decide p=false):Not p:=of_decide_eq_false h
namespace Cr
def jI(a:Int):Prop:=0<=a/\a<18446744073709551616
def Ws(xs:LI):Prop:=∀x∈xs,jI x
def val:LI->Int
 |[]=>0
 |x::xs=>x+18446744073709551616*val xs
def bp:Nat->Int->LI
 |0,_=>[]
 |n+1,N=>N%18446744073709551616::bp n (N/18446744073709551616)
def pw:Nat->Int
 |0=>1
 |n+1=>18446744073709551616*pw n
theorem yI(n:Nat):0<pw n:=by
 induction n with
 |zero=>decide
 |succ n a=>simp only[pw];omega
theorem tV(n:Nat)(N:Int):(bp n N).length=n:=by
 induction n generalizing N with
 |zero=>rfl
 |succ n a=>simp[bp,a]
theorem lr(n:Nat)(N:Int):Ws (bp n N):=by
 induction n generalizing N with
 |zero=>intro x h;cases h
 |succ n a=>intro x h;simp only[bp,we]at h;rcases h with rfl|h;exact⟨aa,aa⟩;exact a _ x h
theorem fO{xs:LI}(h:Ws xs):0<=val xs:=by
 induction xs with
 |nil=>decide
 |cons x xs d=>have a:=h x az;have e:=d (λy b=>h y (by simp[b]));simp only[val];have:=a.1;omega
theorem BT{a:LI}(h:Ws a):val a<pw a.length:=by
 induction a with
 |nil=>decide
 |cons x a e=>have b:=h x az;have f:=e (λy d=>h y (by simp[d]));simp only[val,pw,cP];have:=b.2;omega
theorem vA(n:Nat)(N:Int):val (bp n N)=N%pw n:=by
 induction n generalizing N with
 |zero=>simp[bp,val,pw,Int.emod_one]
 |succ n g=>simp only[bp,val,pw,g];have e:=yI n;rw[<-zd N 18446744073709551616];generalize i:N/18446744073709551616=q;generalize j:N%18446744073709551616=r;have f:0<=r/\r<18446744073709551616:=aa;have a:(r+18446744073709551616*q)%18446744073709551616=r:=aa;have b:(r+18446744073709551616*q)/18446744073709551616=q:=aa;rw[a,b];have c:q=q%pw n+pw n*(q/pw n):=(zd q (pw n)).symm;have h:=sN q (by omega:pw n≠0);have d:=vS q e;generalize k:q%pw n=s at *;generalize q/pw n=t at *;subst c;rw[show r+18446744073709551616*(s+pw n*t)=(r+18446744073709551616*s)+18446744073709551616*pw n*t from by rw[sS,eM];omega];rw[za];exact(ei aa aa).symm
theorem vg{xs:LI}(h:Ws xs):bp xs.length (val xs)=xs:=by
 induction xs with
 |nil=>rfl
 |cons x xs g=>have d:=h x az;have e:=g (λy f=>h y (by simp[f]));simp only[val,bp,cP];obtain⟨a,b⟩:=d;rw[show(x+18446744073709551616*val xs)%18446744073709551616=x from by omega,show(x+18446744073709551616*val xs)/18446744073709551616=val xs from by omega,e]
theorem val_inj{a b:LI}(d:Ws a)(e:Ws b)(c:a.length=b.length)(h:val a=val b):a=b:=by rw[<-vg d,<-vg e,c,h]
def pT:LI->LI->Int->LI×Int
 |a::us,b::vs,k=>((a-b-k)%18446744073709551616::(pT us vs (if a<b+k then 1 else 0)).1,(pT us vs (if a<b+k then 1 else 0)).2)
 |_,_,k=>([],k)
def rV:LI->LI->Int->LI×Int
 |a::us,b::vs,k=>((a+b+k)%18446744073709551616::(rV us vs ((a+b+k)/18446744073709551616)).1,(rV us vs ((a+b+k)/18446744073709551616)).2)
 |_,_,k=>([],k)
theorem Zs:∀(e d:LI)(k:Int),e.length=d.length->Ws e->Ws d->(k=0\/k=1) ->
  (pT e d k).1.length=e.length/\Ws (pT e d k).1/\((pT e d k).2=0\/(pT e d k).2=1)/\val (pT e d k).1=val e-val d-k+pw e.length*(pT e d k).2:=by
 intro e;induction e with
 |nil=>
  intro d k h _ _ j;cases d with
  |nil=>refine⟨rfl,λx h=>(nomatch h),j,?_⟩;simp[pT,val,pw];omega
  |cons b d=>simp at h
 |cons a e n=>
  intro d k h g i j;cases d with
  |nil=>simp at h
  |cons b d=>obtain⟨o,p⟩:=g a az;obtain⟨q,r⟩:=i b az;obtain⟨g1,g2,l,m⟩:=n d (if a<b+k then 1 else 0) (by simpa using h) (λy f=>g y (by simp[f])) (λy f=>i y (by simp[f])) (by split<;>simp);refine⟨by simp[pT,g1],?_,l,?_⟩;intro x hx;simp only[pT,we]at hx;rcases hx with rfl|hx;exact⟨aa,aa⟩;exact g2 x hx;simp only[pT,val,cP,pw,m];generalize (pT e d (if a<b+k then 1 else 0)).2=c at *;rw[eM];generalize pw e.length*c=pc at *;split<;>omega
theorem Wy:∀(e d:LI)(k:Int),e.length=d.length->Ws e->Ws d->(k=0\/k=1) ->
  (rV e d k).1.length=e.length/\Ws (rV e d k).1/\((rV e d k).2=0\/(rV e d k).2=1)/\val (rV e d k).1=val e+val d+k-pw e.length*(rV e d k).2:=by
 intro e;induction e with
 |nil=>
  intro d k h _ _ j;cases d with
  |nil=>refine⟨rfl,λx h=>(nomatch h),j,?_⟩;simp[rV,val,pw]
  |cons b d=>simp at h
 |cons a e n=>
  intro d k h g i j;cases d with
  |nil=>simp at h
  |cons b d=>obtain⟨o,p⟩:=g a az;obtain⟨q,r⟩:=i b az;obtain⟨g1,g2,l,m⟩:=n d ((a+b+k)/18446744073709551616) (by simpa using h) (λy f=>g y (by simp[f])) (λy f=>i y (by simp[f])) aa;refine⟨by simp[rV,g1],?_,l,?_⟩;intro x hx;simp only[rV,we]at hx;rcases hx with rfl|hx;exact⟨aa,aa⟩;exact g2 x hx;simp only[rV,val,cP,pw,m];generalize (rV e d ((a+b+k)/18446744073709551616)).2=c at *;rw[eM];generalize pw e.length*c=pc at *;omega
theorem TT{us vs:LI}(f:us.length=vs.length)(c:Ws us)(d:Ws vs):(pT us vs 0).1=bp us.length (val us-val vs)/\(pT us vs 0).2=if val us<val vs then 1 else 0:=by obtain⟨e,b,h3,a⟩:=Zs us vs 0 f c d (.inl rfl);have i:=yI us.length;have j:=fO b;have g:=BT b;rw[e]at g;have k:=fO c;have l:=BT c;have m:=fO d;have h:=BT d;rw[<-f]at h;constructor;refine val_inj b (lr _ _) (by rw[e,tV]) ?_;rw[vA,a];rcases h3 with h3|h3;rw[h3]at a⊢;rw[ei aa aa];omega;rw[h3]at a⊢;rw[show val us-val vs-0+pw us.length*1=val us-val vs+pw us.length from by omega];rw[<-DO,ei aa aa];rcases h3 with h3|h3;rw[h3]at a⊢;rw[ai aa];rw[h3]at a⊢;rw[ah aa]
theorem RO{us vs:LI}(f:us.length=vs.length)(d:Ws us)(e:Ws vs):(rV us vs 0).1=bp us.length (val us+val vs):=by obtain⟨c,a,h3,b⟩:=Wy us vs 0 f d e (.inl rfl);have h:=yI us.length;have i:=fO a;have g:=BT a;rw[c]at g;refine val_inj a (lr _ _) (by rw[c,tV]) ?_;rw[vA,b];rcases h3 with h3|h3;rw[h3]at b⊢;rw[ei aa aa];omega;rw[h3]at b⊢;rw[show val us+val vs+0-pw us.length*1=val us+val vs-pw us.length from by omega];rw[<-zi,ei aa aa]
class Md(M:Int) where
 n:Nat
 c9:Int
 gt:1<M
 Ik:2*M<=pw n
 inv:(pw n*c9)%M=1
structure Zm(M:Int) where
 v:Int
 nn:0<=v
 lt:v<M
theorem Zm.ext{M:Int}{a b:Zm M}(h:a.v=b.v):a=b:=by cases a;cases b;simp at h;subst h;rfl
instance {M : Int} : DecidableEq (Zm M):=λa b=>
 if h:a.v=b.v then isTrue (Zm.ext h)else isFalse (λe=>h (by rw[e]))
section
variable {M:Int}[Md M]
theorem ZO:0<M:=by have:=Md.gt (M:=M);omega
def zm(a:Int):Zm M:=⟨a%M,sN _ (by have:=ZO (M:=M);omega),vS _ ZO⟩
instance : Add (Zm M):=⟨λa b=> zm (a.v + b.v)⟩
instance : Mul (Zm M):=⟨λa b=> zm (a.v * b.v)⟩
instance : Neg (Zm M):=⟨λa=> zm (-a.v)⟩
instance : Sub (Zm M):=⟨λa b=> zm (a.v - b.v)⟩
instance : Zero (Zm M):=⟨zm 0⟩
instance : One (Zm M):=⟨zm 1⟩
theorem C6(a:Int):(zm a:Zm M).v=a%M:=rfl
theorem Uw(a b:Zm M):(a+b).v=(a.v+b.v)%M:=rfl
theorem zS(a b:Zm M):(a*b).v=(a.v*b.v)%M:=rfl
theorem Nr(a:Zm M):(-a).v=(-a.v)%M:=rfl
theorem V8(a b:Zm M):(a-b).v=(a.v-b.v)%M:=rfl
theorem w4:(0:Zm M).v=0:=by show(0:Int)%M=0;simp
theorem Jf:(1:Zm M).v=1:=by show(1:Int)%M=1;exact ei aa Md.gt
omit [Md M] in
theorem Wj(a:Zm M):a.v%M=a.v:=ei a.nn a.lt
theorem kj(a:Zm M):zm a.v=a:=Zm.ext (Wj a)
theorem w5(a b:Int):(zm a+zm b:Zm M)=zm (a+b):=Zm.ext (by simp[Uw,C6])
theorem w6(a b:Int):(zm a*zm b:Zm M)=zm (a*b):=Zm.ext (by simp[zS,C6,<-eW])
theorem Fq(a b:Int):(zm a-zm b:Zm M)=zm (a-b):=Zm.ext (by simp[V8,C6])
theorem J8(a:Int):(-zm a:Zm M)=zm (-a):=Zm.ext (by
 rw[Nr,C6,C6];have h:=wh a M
 rw[show -(a%M)=-a+M*(a/M) by omega,za])
theorem aeK{a b:Int}(h:a%M=b%M):(zm a:Zm M)=zm b:=Zm.ext h
theorem Uo:(zm 0:Zm M)=0:=rfl
def R2:Zm M:=zm (pw (Md.n M))
def R2i:Zm M:=zm (Md.c9 M)
theorem Ww:(R2:Zm M)*R2i=1:=by unfold R2 R2i;rw[w6];exact Zm.ext (by rw[C6,Jf];exact Md.inv)
def enc(x:Zm M):LI:=bp (Md.n M) (x*R2).v
def dec(c:LI):Zm M:=zm (val c)*R2i
def Canon(M:Int)[Md M](d:LI):Prop:=d.length=Md.n M/\Ws d/\val d<M
theorem tY(a b c:Zm M):a*b*c=a*(b*c):=Zm.ext (by
 simp only[zS]
 rw[eW,mj,<-eW,eW a.v,mj,<-eW,eM])
theorem zR(a b:Zm M):a*b=b*a:=Zm.ext (by simp only[zS,jk])
theorem Cq(a:Zm M):a*1=a:=Zm.ext (by rw[zS,Jf,nk,Wj])
theorem aeL:M<pw (Md.n M):=by have:=Md.Ik (M:=M);have:=ZO (M:=M);omega
theorem tN(x:Zm M):(enc x).length=Md.n M:=tV _ _
theorem gB(x:Zm M):Ws (enc x):=lr _ _
theorem Ga(x:Zm M):val (enc x)=(x*R2).v:=by unfold enc;rw[vA,ei (x*R2).nn (by have:=(x*R2).lt;have:=aeL (M:=M);omega)]
theorem dB(x:Zm M):Canon M (enc x):=⟨tN x,gB x,by rw[Ga];exact(x*R2).lt⟩
theorem fj(x:Zm M):dec (enc x)=x:=by unfold dec;rw[Ga,kj,tY,Ww,Cq]
theorem A5(a:LI):dec a*R2=(zm (val a):Zm M):=by unfold dec;rw[tY,zR R2i,Ww,Cq]
theorem Sc{a:LI}(h:Canon M a):enc (dec a:Zm M)=a:=by obtain⟨c,b,d⟩:=h;unfold enc;rw[A5,C6,ei (fO b) d,<-c];exact vg b
theorem Sd{x y:Zm M}(h:enc x=enc y):x=y:=by rw[<-fj x,<-fj y,h]
theorem Iy{x:Zm M}{N:Int}(h:x*R2=zm N):enc x=bp (Md.n M) (N%M):=by unfold enc;rw[h,C6]
theorem NQ(a b c:Zm M):(a+b)*c=a*c+b*c:=by rw[<-kj a,<-kj b,<-kj c];simp only[w5,w6,sU]
theorem acy(a b c:Zm M):(a-b)*c=a*c-b*c:=by rw[<-kj a,<-kj b,<-kj c];simp only[Fq,w6,Int.sub_mul]
theorem ae3{a b:LI}:enc (dec a+dec b:Zm M)=bp (Md.n M) ((val a+val b)%M):=
 Iy (by rw[NQ,A5,A5,w5])
theorem Se{a b:LI}:enc (dec a-dec b:Zm M)=bp (Md.n M) ((val a-val b)%M):=
 Iy (by rw[acy,A5,A5,Fq])
theorem ae4{a b:LI}:enc (dec a*dec b:Zm M)=bp (Md.n M) (val a*val b*Md.c9 M%M):=
 Iy (by
  rw[tY,A5,zR (dec a)];show zm (val b)*(zm (val a)*zm (Md.c9 M))=_
  rw[w6,w6,<-eM,jk (val b)])
theorem Pb(n:Nat):bp n 0=replicate n 0:=by
 induction n with
 |zero=>rfl
 |succ n a=>simp[bp,a,qO]
theorem Oa:enc (0:Zm M)=replicate (Md.n M) 0:=by unfold enc;rw[show(0:Zm M)*R2=0 from Zm.ext (by rw[zS,w4];simp),w4,Pb]
theorem ahQ{N:Int}:enc (zm N:Zm M)=bp (Md.n M) (N*pw (Md.n M)%M):=
 Iy (by unfold R2;rw[w6])
end
end Cr
theorem ae{p:Prop}(h:p:=by decide):p:=h
namespace Cr
def Mp:Int:=4002409555221667393417789825735904156556882819939007885332058136124031650490837864442687629129015664037894272559787
def Mr:Int:=52435875175126190479447740508185965837690552500527637822603658699938581184513
instance : Md Mp where
 n:=6
 c9:=3231460744492646417066832100176244795738767926513225105051837195607029917124509527734802654356338138714468589979680
 gt:=ae
 Ik:=ae
 inv:=ae
instance : Md Mr where
 n:=4
 c9:=12549076656233958353659347336803947287922716146853412054870763148006372261952
 gt:=ae
 Ik:=ae
 inv:=ae
abbrev Fp:=Zm Mp
abbrev Fr:=Zm Mr
abbrev J9(a:Int):Fp:=zm a
abbrev kX(a:Int):Fr:=zm a
end Cr
abbrev cj:=List (Cr.Fp×Cr.Fp)
abbrev NI:=Cr.Fp×Cr.Fp
abbrev cO:=List Cr.Fr
abbrev bn:=List Go.Value
open Go Go.RowKit Cr
namespace Go.Eng
inductive Kd where
 |int (k:IntKind)
 |bool
 |str
 |fp
 |fr
 |pair (a b:Kd)
 |arr (n:Nat) (e:Kd)
 |sl (e:Kd)
 |ptr (e:Kd)
 |fn (f:Nat)
 |cap (c e:Kd)
 |pq
 |mp
abbrev a6:Kd->Type
 |.int _=>Int
 |.bool=>Bool
 |.str=>ByteArray
 |.fp=>Fp
 |.fr=>Fr
 |.pair a b=>a6 a×a6 b
 |.arr _ e=>List (a6 e)
 |.sl e=>List (a6 e)
 |.ptr e=>a6 e
 |.fn _=>Unit
 |.cap c e=>a6 c×a6 e
 |.pq=>Option Nat
 |.mp=>Unit
def aC:Kd->Nat
 |.fp=>6
 |.fr=>4
 |.pair a b=>aC a+aC b
 |.arr n e=>n*aC e
 |_=>1
def Kd.eq?:(a b:Kd)->Option (PLift (a=b))
 |.int k,.int l=>if h:k=l then some ⟨h▸rfl⟩else none
 |.bool,.bool=>some ⟨rfl⟩
 |.str,.str=>some ⟨rfl⟩
 |.fp,.fp=>some ⟨rfl⟩
 |.fr,.fr=>some ⟨rfl⟩
 |.pair a b,.pair g i=>match a.eq? g,b.eq? i with
  |some ⟨h⟩,some ⟨d⟩=>some ⟨h▸d▸rfl⟩
  |_,_=>none
 |.arr n e,.arr m c=>if h:n=m then match e.eq? c with
  |some ⟨d⟩=>some ⟨h▸d▸rfl⟩
  |none=>none
  else none
 |.sl e,.sl c=>match e.eq? c with
  |some ⟨h⟩=>some ⟨h▸rfl⟩
  |none=>none
 |.ptr e,.ptr c=>match e.eq? c with
  |some ⟨h⟩=>some ⟨h▸rfl⟩
  |none=>none
 |.fn f,.fn j=>if h:f=j then some ⟨h▸rfl⟩else none
 |.cap a b,.cap g i=>match a.eq? g,b.eq? i with
  |some ⟨h⟩,some ⟨d⟩=>some ⟨h▸d▸rfl⟩
  |_,_=>none
 |.pq,.pq=>some ⟨rfl⟩
 |.mp,.mp=>some ⟨rfl⟩
 |_,_=>none
def gn:(e:Kd)->a6 e
 |.int _=>(0:Int)
 |.bool=>false
 |.str=>ByteArray.empty
 |.fp=>(0:Fp)
 |.fr=>(0:Fr)
 |.pair a b=>(gn a,gn b)
 |.arr n e=>replicate n (gn e)
 |.sl _=>[]
 |.ptr e=>gn e
 |.fn _=>()
 |.cap c e=>(gn c,gn e)
 |.pq=>none
 |.mp=>()
abbrev Mem:=Nat->Option bn
def Mem.le(M a:Mem):Prop:=∀b l,M b=some l->a b=some l
def eQ{α:Type}(R:α->bn->Prop):List α->bn->Prop
 |[],a=>a=[]
 |x::xs,a=>∃b c,a=b++c/\R x b/\eQ R xs c
def n9{d:Type}(R:d->bn->Prop)(c:Nat)(M:Mem)(b o:Nat)(a:List d):Prop:=
 ∃l,(l≠[]->M b=some l)/\o+a.length*c<=l.length/\eQ R a ((l.drop o).take (a.length*c))
def Rd(M:Mem):(e:Kd)->a6 e->bn->Prop
 |.int k,x,h=>h=[Value.int k x]
 |.bool,x,h=>h=[Value.bool x]
 |.str,x,h=>h=[Value.string x]
 |.fp,x,h=>h=(enc (M:=Mp) x).map (Value.int .u64)
 |.fr,x,h=>h=(enc (M:=Mr) x).map (Value.int .u64)
 |.pair a b,x,h=>∃m q,h=m++q/\Rd M a x.1 m/\Rd M b x.2 q
 |.arr n e,xs,h=>xs.length=n/\eQ (Rd M e) xs h
 |.sl e,xs,h=>(xs=[]/\∃a j,h=[Value.slice a 0 j]/\(a=none->j=0))\/
  ∃b o j,h=[Value.slice (some ⟨b,o,none⟩) xs.length j]/\xs.length<=j/\n9 (Rd M e) (aC e) M b o xs
 |.ptr e,x,h=>∃b o,h=[Value.pointer (some ⟨b,o,none⟩)]/\n9 (Rd M e) (aC e) M b o [x]
 |.fn f,_,h=>h=[Value.func (.func f) ⟨[]⟩ ⟨[]⟩]
 |.cap c e,x,h=>∃g l b o,h=[Value.func g ⟨[]⟩ ⟨l++[Value.pointer (some ⟨b,o,none⟩)]⟩]/\Rd M c x.1 [Value.func g ⟨[]⟩ ⟨l⟩]/\n9 (Rd M e) (aC e) M b o [x.2]
 |.pq,x,h=>h=[Value.pointer (Option.map (λp=>⟨p,0,none⟩) x)]
 |.mp,_,h=>∃b,h=[Value.map (some b)]/\M b=some []
theorem fe{d:Type}{R c:d->bn->Prop}(h:∀x a,R x a->c x a):∀{b:List d}{a:bn},eQ R b a->eQ c b a:=by
 intro b;induction b with
 |nil=>intro a i;exact i
 |cons x b j=>intro a⟨k,l,e,f,g⟩;exact⟨k,l,e,h _ _ f,j g⟩
theorem dT{M C:Mem}(u:Mem.le M C):∀{e:Kd}{x:a6 e}{d:bn},Rd M e x d->Rd C e x d:=by
 intro e;induction e with
 |int k=>intro x d h;exact h
 |bool=>intro x d h;exact h
 |str=>intro x d h;exact h
 |fp=>intro x d h;exact h
 |fr=>intro x d h;exact h
 |pair a b w y=>intro x d⟨D,E,e,i,j⟩;exact⟨D,E,e,w i,y j⟩
 |arr n e t=>intro x d⟨i,j⟩;exact⟨i,fe (λ_ _=>t) j⟩
 |sl e t=>intro x d h;rcases h with h|⟨b,o,cap,i,j,l,p,q,r⟩;exact .inl h;exact .inr ⟨b,o,cap,i,j,l,λs=>u _ _ (p s),q,fe (λ_ _=>t) r⟩
 |ptr e t=>intro x d⟨b,o,i,l,p,q,r⟩;exact⟨b,o,i,l,λs=>u _ _ (p s),q,fe (λ_ _=>t) r⟩
 |fn f=>intro x d h;exact h
 |cap c e z A=>intro x d⟨g,m,b,o,i,j,l,p,q,r⟩;exact⟨g,m,b,o,i,z j,l,λs=>u _ _ (p s),q,fe (λ_ _=>A) r⟩
 |pq=>intro x d h;exact h
 |mp=>intro x d⟨b,i,j⟩;exact⟨b,i,u _ _ j⟩
theorem iu{b:Type}{R:b->bn->Prop}{c:Nat}(h:∀x a,R x a->a.length=c):∀{xs:List b}{a:bn},eQ R xs a->a.length=xs.length*c:=by
 intro xs;induction xs with
 |nil=>intro a g;have e:a=[]:=g;subst e;simp
 |cons x xs j=>intro a⟨k,l,e,d,f⟩;subst e;simp[h _ _ d,j f,kL];omega
theorem cK{M:Mem}:∀{e:Kd}{x:a6 e}{d:bn},Rd M e x d->d.length=aC e:=by
 intro e;induction e with
 |int k=>intro x d h;have e:d=_:=h;subst e;rfl
 |bool=>intro x d h;have e:d=_:=h;subst e;rfl
 |str=>intro x d h;have e:d=_:=h;subst e;rfl
 |fp=>intro x d h;have e:d=_:=h;subst e;rw[b5];exact tN (M:=Mp) x
 |fr=>intro x d h;have e:d=_:=h;subst e;rw[b5];exact tN (M:=Mr) x
 |pair a b p q=>intro x d⟨u,w,e,j,l⟩;subst e;simp[p j,q l,aC]
 |arr n e m=>intro x d⟨j,l⟩;rw[iu (λ_ _=>m) l,j];rfl
 |sl e m=>intro x d h;rcases h with ⟨_,a,cap,e,_⟩|⟨b,o,cap,j,_⟩;subst e;rfl;subst j;rfl
 |ptr e m=>intro x d⟨b,o,j,_⟩;subst j;rfl
 |fn f=>intro x d h;have e:d=_:=h;subst e;rfl
 |cap c e s t=>intro x d⟨g,r,b,o,j,_⟩;subst j;rfl
 |pq=>intro x d h;have e:d=_:=h;subst e;rfl
 |mp=>intro x d⟨b,j,_⟩;subst j;rfl
theorem xB{d:Type}{R:d->bn->Prop}{p:Value->Prop}(h:∀x a,R x a->∀v∈a,p v):∀{xs:List d}{a:bn},eQ R xs a->∀v∈a,p v:=by
 intro xs;induction xs with
 |nil=>intro a j;have e:a=[]:=j;subst e;intro v b;cases b
 |cons x xs k=>intro a⟨l,m,e,f,i⟩v b;subst e;rcases List.mem_append.1 b with g|g;exact h _ _ f v g;exact k i v g
theorem vN{M:Mem}:∀{e:Kd}{x:a6 e}{i:bn},Rd M e x i->∀v∈i,v.oneCell'=true:=by
 intro e;induction e with
 |int k=>intro x i h;have e:i=_:=h;subst e;intro v d;simp at d;subst d;rfl
 |bool=>intro x i h;have e:i=_:=h;subst e;intro v d;simp at d;subst d;rfl
 |str=>intro x i h;have e:i=_:=h;subst e;intro v d;simp at d;subst d;rfl
 |fp=>intro x i h;have e:i=_:=h;subst e;intro v d;obtain⟨y,_,rfl⟩:=mem_map.1 d;rfl
 |fr=>intro x i h;have e:i=_:=h;subst e;intro v d;obtain⟨y,_,rfl⟩:=mem_map.1 d;rfl
 |pair a b p q=>intro x i⟨u,w,e,j,l⟩v d;subst e;rcases List.mem_append.1 d with g|g;exact p j v g;exact q l v g
 |arr n e m=>intro x i⟨j,l⟩;exact xB (λ_ _=>m) l
 |sl e m=>intro x i h;rcases h with ⟨_,a,cap,e,_⟩|⟨b,o,cap,j,_⟩;subst e;intro v d;simp at d;subst d;rfl;subst j;intro v d;simp at d;subst d;rfl
 |ptr e m=>intro x i⟨b,o,j,_⟩;subst j;intro v d;simp at d;subst d;rfl
 |fn f=>intro x i h;have e:i=_:=h;subst e;intro v d;simp at d;subst d;rfl
 |cap c e s t=>intro x i⟨g,r,b,o,j,_⟩;subst j;intro v d;simp at d;subst d;rfl
 |pq=>intro x i h;have e:i=_:=h;subst e;intro v d;simp at d;subst d;rfl
 |mp=>intro x i⟨b,j,_⟩;subst j;intro v d;simp at d;subst d;rfl
theorem tD{g:Type}{R:g->bn->Prop}:∀{xs d:List g}{b a:bn},eQ R xs b->eQ R d a->eQ R (xs++d) (b++a):=by
 intro xs;induction xs with
 |nil=>intro d b a h f;have e:b=[]:=h;subst e;exact f
 |cons x xs k=>intro d b a⟨l,m,e,i,j⟩f;subst e;exact⟨l,m++a,az,i,k j f⟩
theorem jn{g:Type}{R:g->bn->Prop}{c:Nat}(h:∀x a,R x a->a.length=c):∀(n:Nat){xs:List g}{a:bn},eQ R xs a ->
  eQ R (xs.take n) (a.take (n*c))/\eQ R (xs.drop n) (a.drop (n*c)):=by
 intro n;induction n with
 |zero=>intro xs a b;rw[nh];exact⟨rfl,b⟩
 |succ n k=>
  intro xs a b;cases xs with
  |nil=>have e:a=[]:=b;subst e;rw[List.take_nil,List.drop_nil,List.take_nil,List.drop_nil];exact⟨rfl,rfl⟩
  |cons x xs=>obtain⟨l,m,e,d,j⟩:=b;have f:=h _ _ d;subst e;obtain⟨g1,g2⟩:=k j;rw[kL,mo (n*c),<-f,List.take_length_add_append,List.drop_length_add_append];rw[<-f]at g1 g2;exact⟨⟨l,_,rfl,d,g1⟩,g2⟩
theorem AU{f:Type}{R:f->bn->Prop}{c:Nat}(h:∀x a,R x a->a.length=c){b:List f}{a:bn}(l:eQ R b a){i:Nat}(k:i<b.length)(d:f):
  R (b.getD i d) ((a.drop (i*c)).take c):=by
 have j:=(jn h i l).2;rw[pd k]at j;obtain⟨o,p,e,g,m⟩:=j;rw[e,<-h _ _ g];simp[bO k];exact g
theorem ru{b:Type}{R:b->bn->Prop}{x:b}{a:bn}(h:R x a):eQ R [x] a:=⟨a,[],az,h,rfl⟩
theorem qb{b:Type}{R:b->bn->Prop}{x:b}{a:bn}(h:eQ R [x] a):R x a:=by obtain⟨i,g,e,d,f⟩:=h;have c:g=[]:=f;subst c;subst e;simpa using d
theorem RK{j:Type}{R:j->bn->Prop}{c:Nat}(h:∀x a,R x a->a.length=c){xs b:List j}{a d:bn}(f:eQ R xs a)(g:eQ R b d)(i:Nat):
  eQ R (xs.take i++(b++xs.drop (i+b.length))) (a.take (i*c)++(d++a.drop (i*c+d.length))):=by
 have l:=iu h g;have k:=(jn h i f).1;have e:=(jn h (i+b.length) f).2;rw[eN,<-l]at e;exact tD k (tD g e)
theorem xC{M:Mem}{k:IntKind}:∀{a:LI}{b:bn},eQ (Rd M (.int k)) a b↔b=a.map (Value.int k):=by
 intro a;induction a with
 |nil=>intro b;exact kk
 |cons x a d=>intro b;constructor;rintro⟨h,i,e,g,c⟩;have f:h=[Value.int k x]:=g;rw[d]at c;subst e f c;rfl;rintro rfl;exact⟨[Value.int k x],a.map (Value.int k),rfl,rfl,d.2 rfl⟩
def kU:Kd->bn
 |.int k=>[.int k 0]
 |.bool=>[.bool false]
 |.str=>[.string ByteArray.empty]
 |.fp=>replicate 6 (.int .u64 0)
 |.fr=>replicate 4 (.int .u64 0)
 |.pair a b=>kU a++kU b
 |.arr n e=>(replicate n (kU e)).flatten
 |.sl _=>[.slice none 0 0]
 |.fn f=>[.func (.func f) ⟨[]⟩ ⟨[]⟩]
 |_=>[.pointer none]
def zk:Kd->Bool
 |.pair a b=>zk a&&zk b
 |.arr _ e=>zk e
 |.ptr _ | .fn _ | .cap _ _ | .mp=>false
 |_=>true
theorem AV{M:Mem}:∀{e:Kd},zk e=true->Rd M e (gn e) (kU e):=by
 intro e;induction e with
 |int k=>intro _;exact rfl
 |bool=>intro _;exact rfl
 |str=>intro _;exact rfl
 |fp=>intro _;show _=(enc (M:=Mp) (0:Fp)).map _;rw[Oa];rfl
 |fr=>intro _;show _=(enc (M:=Mr) (0:Fr)).map _;rw[Oa];rfl
 |pair a b g i=>intro h;simp only[zk,bD]at h;exact⟨_,_,rfl,g h.1,i h.2⟩
 |arr n e d=>
  intro l;have d:=d l;clear l;refine⟨pk,?_⟩;show eQ _ (replicate n (gn e)) (replicate n (kU e)).flatten;induction n with
  |zero=>exact rfl
  |succ n j=>exact⟨_,_,rfl,d,j⟩
 |sl e d=>intro _;exact .inl ⟨rfl,none,0,rfl,λ_=>rfl⟩
 |ptr e d=>intro h;simp[zk]at h
 |fn f=>intro h;simp[zk]at h
 |cap c e m o=>intro h;simp[zk]at h
 |pq=>intro _;exact rfl
 |mp=>intro h;simp[zk]at h
def EB:Value->Value->Bool
 |.int k n,.int c m=>decide (k=c)&&decide (n=0)&&decide (m=0)
 |.bool false,.bool false=>true
 |.string a,.string b=>beq a.size 0&&beq b.size 0
 |.slice none 0 0,.slice none 0 0=>true
 |_,_=>false
def pK:bn->bn->Bool
 |[],[]=>true
 |a::c,b::d=>EB a b&&pK c d
 |_,_=>false
theorem MW{a:ByteArray}(h:a.size=0):a=ByteArray.empty:=by
 cases a with
 |mk d=>have:d.size=0:=h;have:=Dv this;subst this;rfl
theorem O0{a b:Value}(h:EB a b=true):a=b:=by unfold EB at h;split at h;simp at h;obtain⟨⟨rfl,rfl⟩,rfl⟩:=h;rfl;rfl;simp only[bD]at h;rw[MW (ji h.1),MW (ji h.2)];rfl;cases h
theorem Df:∀{a b:bn},pK a b=true->a=b:=by
 intro a;induction a with
 |nil=>intro b h;cases b with
  |nil=>rfl
  |cons _ _=>simp[pK]at h
 |cons x a c=>intro b h;cases b with
  |nil=>simp[pK]at h
  |cons y b=>simp[pK]at h;rw[O0 h.1,c h.2]
def sc:Kd->Bool
 |.int _ | .fp | .fr=>true
 |.pair a b=>sc a&&sc b
 |.arr _ e=>sc e
 |_=>false
abbrev IV:=IntKind×Int
def iv(p:IV):Value:=.int p.1 p.2
def fl:(e:Kd)->a6 e->List IV
 |.int k,x=>[(k,x)]
 |.fp,x=>(enc (M:=Mp) x).map λa=>(.u64,a)
 |.fr,x=>(enc (M:=Mr) x).map λa=>(.u64,a)
 |.pair a b,x=>fl a x.1++fl b x.2
 |.arr _ e,c=>(c.map (fl e)).flatten
 |_,_=>[]
def kl:Kd->List IntKind
 |.int k=>[k]
 |.fp=>replicate 6 .u64
 |.fr=>replicate 4 .u64
 |.pair a b=>kl a++kl b
 |.arr n e=>(replicate n (kl e)).flatten
 |_=>[]
theorem Fv{M:Mem}:∀{e:Kd}{x:a6 e}{c:bn},sc e=true->Rd M e x c->c=(fl e x).map iv/\(fl e x).map Prod.fst=kl e:=by
 intro e;induction e with
 |int y=>intro x c _ h;exact⟨h,rfl⟩
 |fp=>intro x c _ h;have g:=cK (e:=.fp) h;have h:c=(enc (M:=Mp) x).map (Value.int .u64):=h;rw[h,b5]at g;refine⟨by rw[h];simp only[fl,fu];rfl,?_⟩;simp only[fl,fu,vT,List.map_const',g,kl,aC]
 |fr=>intro x c _ h;have g:=cK (e:=.fr) h;have h:c=(enc (M:=Mr) x).map (Value.int .u64):=h;rw[h,b5]at g;refine⟨by rw[h];simp only[fl,fu];rfl,?_⟩;simp only[fl,fu,vT,List.map_const',g,kl,aC]
 |pair a b i j=>intro x c d⟨w,p,e,k,l⟩;simp[sc]at d;rw[e,(i d.1 k).1,(j d.2 l).1];exact⟨by simp[fl],by simp[fl,kl,(i d.1 k).2,(j d.2 l).2]⟩
 |arr n e q=>
  intro f c d ⟨k,l⟩;have d:sc e=true:=d;have m:∀(f:List (a6 e))(c:bn),eQ (Rd M e) f c->c=((f.map (fl e)).flatten).map iv/\((f.map (fl e)).flatten).map Prod.fst=(replicate f.length (kl e)).flatten:=by
   intro f;induction f with
   |nil=>intro c h;exact⟨h,rfl⟩
   |cons x f o=>intro c ⟨w,p,e,g1,g2⟩;obtain⟨r,s⟩:=q d g1;obtain⟨t,u⟩:=o p g2;refine⟨by rw[e,r,t];simp,?_⟩;rw[eV,vU,cE,s,u,cP,qO,vU]
  have:=m f c l;rw[show length (α:=a6 e) f=n from k]at this;exact this
 |_=>intro x c d;simp[sc]at d
theorem ah3{M:Mem}:∀{e:Kd}{x y:a6 e}{f d:bn},sc e=true->Rd M e x f->Rd M e y d->fl e x=fl e y->x=y:=by
 intro e;have j:∀{l m:LI},l.map (λa=>(IntKind.u64,a))=m.map (λa=>(IntKind.u64,a))->l=m:=λh=>List.map_inj_right (λ_ _ h=>(Prod.mk.inj h).2) |>.1 h;induction e with
 |int P=>intro x y f d c _ _ h;simp[fl]at h;exact h
 |fp=>intro x y f d c _ _ h;exact Sd (M:=Mp) (j h)
 |fr=>intro x y f d c _ _ h;exact Sd (M:=Mr) (j h)
 |pair a b t u=>intro x y f d c ⟨O,D,E,o,s⟩ ⟨N,C,F,g1,g2⟩ h;simp[sc]at c;have k:=congrArg length ((Fv c.1 o).2.trans (Fv c.1 g1).2.symm);simp only[b5]at k;simp only[fl]at h;obtain⟨q,z⟩:=List.append_inj h k;exact iP (t c.1 o g1 q) (u c.2 s g2 z)
 |arr n e H=>
  intro i g f d c ⟨o,s⟩ ⟨g1,g2⟩ h;have c:sc e=true:=c;have r:∀(i g:List (a6 e))(f d:bn),eQ (Rd M e) i f->eQ (Rd M e) g d->i.length=g.length->(i.map (fl e)).flatten=(g.map (fl e)).flatten->i=g:=by
   intro i;induction i with
   |nil=>intro g f d _ _ p _;cases g with
    |nil=>rfl
    |cons _ _=>simp at p
   |cons x i w=>
    intro g f d⟨O,D,E,q,z⟩G p h;cases g with
    |nil=>simp at p
    |cons y g=>obtain⟨N,C,F,A,L⟩:=G;have k:=congrArg length ((Fv c q).2.trans (Fv c A).2.symm);simp only[b5]at k;simp only[eV,vU]at h;obtain⟨I,K⟩:=List.append_inj h k;rw[H c q A I,w g D C z L (by simpa using p) K]
  exact r i g f d s g2 (by rw[o,g1]) h
 |_=>intro x y f d c;simp[sc]at c
def Oi{a:Type}(f:a->a->Bool):List a->List a->Bool
 |[],[]=>true
 |x::b,y::c=>f x y&&Oi f b c
 |_,_=>false
def p3:(e:Kd)->a6 e->a6 e->Bool
 |.int _,x,y=>decide ((x:Int)=y)
 |.bool,x,y=>decide ((x:Bool)=y)
 |.str,x,y=>decide ((x:ByteArray)=y)
 |.fp,x,y=>decide ((x:Fp)=y)
 |.fr,x,y=>decide ((x:Fr)=y)
 |.pair a b,x,y=>p3 a x.1 y.1&&p3 b x.2 y.2
 |.arr _ e,d,f=>Oi (p3 e) d f
 |.sl e,d,f=>Oi (p3 e) d f
 |.ptr e,x,y=>p3 e x y
 |.fn _,_,_=>true
 |.cap c e,x,y=>p3 c x.1 y.1&&p3 e x.2 y.2
 |.pq,x,y=>decide ((x:Option Nat)=y)
 |.mp,_,_=>true
theorem Si{c:Type}{f:c->c->Bool}(h:∀x y,f x y=true↔x=y):∀(b a:List c),Oi f b a=true↔b=a:=by
 intro b;induction b with
 |nil=>intro a;cases a<;>simp[Oi]
 |cons x b d=>intro a;cases a with
  |nil=>simp[Oi]
  |cons y a=>simp[Oi,h,d]
theorem Ba:∀{e:Kd}(x y:a6 e),p3 e x y=true↔x=y:=by
 intro e;induction e with
 |int k=>intro x y;exact jO
 |bool=>intro x y;exact jO
 |str=>intro x y;exact jO
 |fp=>intro x y;exact jO
 |fr=>intro x y;exact jO
 |pair a b j l=>intro x y;simp only[p3,bD,j,l];exact⟨λ⟨g,i⟩=>iP g i,λh=>by rw[h];exact⟨rfl,rfl⟩⟩
 |arr n e d=>intro x y;exact Si d x y
 |sl e d=>intro x y;exact Si d x y
 |ptr e d=>intro x y;exact d x y
 |fn f=>intro x y;exact⟨λ_=>rfl,λ_=>rfl⟩
 |cap c e m o=>intro x y;simp only[p3,bD,m,o];exact⟨λ⟨g,i⟩=>iP g i,λh=>by rw[h];exact⟨rfl,rfl⟩⟩
 |pq=>intro x y;exact jO
 |mp=>intro x y;exact⟨λ_=>rfl,λ_=>rfl⟩
def abg(f:TypeId->Option Kd):List Field->Option Kd
 |[]=>none
 |[x]=>match f x.type with
  |some (.arr 6 (.int .u64))=>some .fp
  |some (.arr 4 (.int .u64))=>some .fr
  |_=>none
 |x::r=>match f x.type,kdTail f r with
  |some a,some b=>some (.pair a b)
  |_,_=>none
where
 kdTail (f:TypeId->Option Kd):List Field->Option Kd
  |[]=>none
  |[x]=>f x.type
  |x::r=>match f x.type,kdTail f r with
   |some a,some b=>some (.pair a b)
   |_,_=>none
def Hq(P:Program):Nat->TypeId->Option Kd
 |0,_=>none
 |d+1,t=>match P.underlying t with
  |some (.int k)=>some (.int k)
  |some .bool=>some .bool
  |some .string=>some .str
  |some (.array n e)=>match Hq P d e with
   |some a=>some (.arr n a)
   |none=>none
  |some (.slice e)=>match Hq P d e with
   |some a=>some (.sl a)
   |none=>none
  |some (.struct b)=>abg (Hq P d) b.toList
  |_=>none
end Go.Eng
abbrev dF:=Nat->Option (Sigma Go.Eng.a6)
abbrev gi:=List Prop
namespace Go.Eng
inductive ax where
 |v (x:Value)
 |T
 |F
 |ints (k:IntKind) (n:Nat) (xs:LI)
 |row (e:Kd) (n:Nat) (xs:List (a6 e))
 |ptr (id off:Nat)
 |pe (id base i c:Nat)
 |sl (id base off len c:Nat)
 |ro (e:Kd) (xs:List (a6 e))
 |rp (e:Kd) (xs:List (a6 e)) (i off:Nat)
 |fv (e:Kd) (x:a6 e)
 |clo (f:Nat) (ids:List Nat)
 |rn (e:Kd) (xs:List (a6 e))
 |junk
inductive TV where
 |one (c:ax)
 |agg (cs:List ax)
inductive SV where
 |is (x:TV)
 |tup (l:List TV)
 |undef
 |junk
structure aI where
 m:Nat->Option Nat
 n:Nat->Nat
 M:Mem
instance : CoeFun aI (λ_=> Nat -> Option Nat):=⟨aI.m⟩
def ax.size:ax->Nat
 |.ints _ n _=>n
 |.row e n _=>n*aC e
 |_=>1
def kb(d:aI):List Nat->bn->Prop
 |[],a=>a=[]
 |i::l,a=>∃b c,d i=some b/\kb d l c/\a=c++[.pointer (some ⟨b,0,none⟩)]
def ax.rel(ρ:aI):ax->bn->Prop
 |.v x,d=>d=[x]/\x.oneCell'=true
 |.T,d=>d=[.bool true]
 |.F,d=>d=[.bool false]
 |.ints k n g,d=>g.length=n/\d=g.map (Value.int k)
 |.row e n g,d=>g.length=n/\eQ (Rd ρ.M e) g d
 |.ptr id off,d=>∃b,ρ id=some b/\d=[.pointer (some ⟨b,off,none⟩)]
 |.pe id h i c,d=>∃b,ρ id=some b/\d=[.pointer (some ⟨b,h+i*c,none⟩)]
 |.sl id h off len c,d=>(len=0/\d=[.slice none 0 0])\/
  ∃b o j,ρ id=some b/\len<=j/\(o=h+off*c\/j=0)/\o+j*c<=ρ.n id/\d=[.slice (some ⟨b,o,none⟩) len j]
 |.ro e g,d=>Rd ρ.M (.sl e) g d
 |.rp e g i off,d=>∃b o,n9 (Rd ρ.M e) (aC e) ρ.M b o g/\i<g.length/\d=[.pointer (some ⟨b,o+(i*aC e+off),none⟩)]
 |.fv e x,d=>Rd ρ.M e x d/\d.length=1
 |.clo f l,d=>∃m,kb ρ l m/\d=[.func (.func f) ⟨[]⟩ ⟨m⟩]
 |.rn e g,d=>Rd ρ.M (.sl e) g d/\∃a n c,d=[.slice (some a) n c]
 |.junk,d=>∃x,d=[x]/\x.oneCell'=true
def aH(ρ:aI):List ax->bn->Prop
 |[],a=>a=[]
 |c::cs,a=>∃b d,a=b++d/\c.rel ρ b/\aH ρ cs d
def dk:List ax->Nat
 |[]=>0
 |c::cs=>c.size+dk cs
def TV.cells:TV->List ax
 |.one c=>[c]
 |.agg cs=>cs
def TV.rel(ρ:aI):TV->Value->Prop
 |.one c,v=>c.rel ρ [v]
 |.agg cs,v=>∃l,v=.agg ⟨l⟩/\aH ρ cs l
def gh(c:aI):List TV->bn->Prop
 |[],a=>a=[]
 |t::d,a=>∃x b,a=x::b/\t.rel c x/\gh c d b
def SV.rel(ρ:aI):SV->Value->Prop
 |.is x,v=>x.rel ρ v
 |.tup l,v=>∃a,v=.tuple ⟨a⟩/\gh ρ l a
 |.undef,v=>v=Go.undef
 |.junk,_=>True
structure aI.le(ρ ρ':aI):Prop where
 id:∀id b,ρ id=some b->ρ' id=some b/\ρ'.n id=ρ.n id
 mem:Mem.le ρ.M ρ'.M
theorem Mem.le_refl(M:Mem):Mem.le M M:=λ_ _ h=>h
theorem aI.le_refl(ρ:aI):aI.le ρ ρ:=⟨λ_ _ h=>⟨h,rfl⟩,Mem.le_refl _⟩
theorem aI.le_trans{a b c:aI}(h:aI.le a b)(k:aI.le b c):aI.le a c:=
 ⟨λ_ _ e=>⟨(k.id _ _ (h.id _ _ e).1).1,((k.id _ _ (h.id _ _ e).1).2).trans (h.id _ _ e).2⟩,λ_ _ e=>k.mem _ _ (h.mem _ _ e)⟩
theorem l7{e:Kd}{M a:Mem}(h:Mem.le M a){b o:Nat}{c:List (a6 e)}(j:n9 (Rd M e) (aC e) M b o c):n9 (Rd a e) (aC e) a b o c:=by obtain⟨l,d,f,g⟩:=j;exact⟨l,λi=>h _ _ (d i),f,fe (λ_ _=>dT h) g⟩
theorem N1{d a:aI}(h:aI.le d a):∀{l:List Nat}{c:bn},kb d l c->kb a l c:=by
 intro l;induction l with
 |nil=>intro c k;exact k
 |cons i l m=>intro c⟨b,n,f,g,j⟩;exact⟨b,n,(h.id _ _ f).1,m g,j⟩
theorem ax.gM{ρ ρ':aI}(h:aI.le ρ ρ'){c:ax}{s:bn}(a:c.rel ρ s):c.rel ρ' s:=by
 cases c with
 |ptr id p=>obtain⟨b,d,e⟩:=a;exact⟨b,(h.id _ _ d).1,e⟩
 |pe id g i c=>obtain⟨b,d,e⟩:=a;exact⟨b,(h.id _ _ d).1,e⟩
 |sl id g p len c=>rcases a with a|⟨b,o,r,d,j,m,t,e⟩;exact .inl a;exact .inr ⟨b,o,r,(h.id _ _ d).1,j,m,by rw[(h.id _ _ d).2];exact t,e⟩
 |row e n q=>exact⟨a.1,fe (λ_ _=>dT h.mem) a.2⟩
 |ro e q=>exact dT (e:=.sl e) h.mem a
 |rp e q i p=>obtain⟨b,o,j,m⟩:=a;exact⟨b,o,l7 h.mem j,m⟩
 |fv e x=>exact⟨dT h.mem a.1,a.2⟩
 |clo f l=>obtain⟨u,j,m⟩:=a;exact⟨u,N1 h j,m⟩
 |rn e q=>exact⟨dT (e:=.sl e) h.mem a.1,a.2⟩
 |v x=>exact a
 |T=>exact a
 |F=>exact a
 |ints k n q=>exact a
 |junk=>exact a
theorem fi{ρ ρ':aI}(h:aI.le ρ ρ'){cs:List ax}:∀{a:bn},aH ρ cs a->aH ρ' cs a:=by
 induction cs with
 |nil=>intro a b;exact b
 |cons c cs g=>intro a b;obtain⟨i,j,e,d,f⟩:=b;exact⟨i,j,e,ax.gM h d,g f⟩
theorem TV.gM{ρ ρ':aI}(h:aI.le ρ ρ'){x:TV}{v:Value}(a:x.rel ρ v):x.rel ρ' v:=by
 cases x with
 |one c=>exact ax.gM h a
 |agg cs=>obtain⟨l,e,b⟩:=a;exact⟨l,e,fi h b⟩
theorem RI{d a:aI}(h:aI.le d a){l:List TV}:∀{b:bn},gh d l b->gh a l b:=by
 induction l with
 |nil=>intro b c;exact c
 |cons t k i=>intro b c;obtain⟨x,j,e,f,g⟩:=c;exact⟨x,j,e,TV.gM h f,i g⟩
theorem SV.gM{ρ ρ':aI}(h:aI.le ρ ρ'){x:SV}{v:Value}(a:x.rel ρ v):x.rel ρ' v:=by
 cases x with
 |is x=>exact TV.gM h a
 |tup l=>obtain⟨c,e,b⟩:=a;exact⟨c,e,RI h b⟩
 |undef=>exact a
 |junk=>trivial
theorem ax.CF{s:aI}{c:ax}{h:bn}(a:c.rel s h):h.length=c.size:=by
 cases c with
 |ints k n j=>obtain⟨m,p⟩:=a;subst p;simpa[ax.size]using m
 |row e n j=>obtain⟨m,p⟩:=a;rw[iu (λ_ _=>cK) p,m];rfl
 |ptr id g=>obtain⟨b,q,e⟩:=a;subst e;rfl
 |pe id d i c=>obtain⟨b,q,e⟩:=a;subst e;rfl
 |sl id d g len c=>rcases a with ⟨_,e⟩|⟨b,o,r,q,_,_,_,e⟩<;>(subst e;rfl)
 |ro e j=>exact cK (e:=.sl e) a
 |rp e j i g=>obtain⟨b,o,_,_,e⟩:=a;subst e;rfl
 |fv e x=>exact a.2
 |clo f l=>obtain⟨t,_,e⟩:=a;subst e;rfl
 |rn e j=>exact cK (e:=.sl e) a.1
 |junk=>obtain⟨x,e,_⟩:=a;subst e;rfl
 |v x=>obtain⟨e,_⟩:=a;subst e;rfl
 |T=>have e:h=_:=a;subst e;rfl
 |F=>have e:h=_:=a;subst e;rfl
theorem iR{h:aI}{cs:List ax}:∀{a:bn},aH h cs a->a.length=dk cs:=by
 induction cs with
 |nil=>intro a b;have e:a=[]:=b;subst e;rfl
 |cons c cs g=>intro a b;obtain⟨i,j,e,d,f⟩:=b;subst e;simp[ax.CF d,g f,dk]
theorem ax.Le{t:aI}{c:ax}{m:bn}(d:c.rel t m):∀x∈m,x.oneCell'=true:=by
 cases c with
 |ints k n p=>obtain⟨u,s⟩:=d;subst s;intro x a;obtain⟨y,_,rfl⟩:=mem_map.1 a;rfl
 |row e n p=>exact xB (λ_ _=>vN) d.2
 |ptr id j=>obtain⟨b,q,e⟩:=d;subst e;intro x a;simp at a;subst a;rfl
 |pe id g i c=>obtain⟨b,q,e⟩:=d;subst e;intro x a;simp at a;subst a;rfl
 |sl id g j len c=>rcases d with ⟨_,e⟩|⟨b,o,r,q,_,_,_,e⟩<;>(subst e;intro x a;simp at a;subst a;rfl)
 |ro e p=>exact vN (e:=.sl e) d
 |rp e p i j=>obtain⟨b,o,_,_,e⟩:=d;subst e;intro x a;simp at a;subst a;rfl
 |fv e x=>exact vN d.1
 |clo f l=>obtain⟨w,_,e⟩:=d;subst e;intro x a;simp at a;subst a;rfl
 |rn e p=>exact vN (e:=.sl e) d.1
 |junk=>obtain⟨y,e,h⟩:=d;subst e;intro x a;simp at a;subst a;exact h
 |v y=>obtain⟨e,h⟩:=d;subst e;intro x a;simp at a;subst a;exact h
 |T=>have e:m=_:=d;subst e;intro x a;simp at a;subst a;rfl
 |F=>have e:m=_:=d;subst e;intro x a;simp at a;subst a;rfl
theorem D1{j:aI}{cs:List ax}:∀{a:bn},aH j cs a->∀x∈a,x.oneCell'=true:=by
 induction cs with
 |nil=>intro a b x d;have e:a=[]:=b;subst e;cases d
 |cons c cs i=>intro a b x d;obtain⟨k,l,e,f,g⟩:=b;subst e;rcases List.mem_append.1 d with h|h;exact ax.Le f x h;exact i g x h
theorem iQ{g:aI}{cs h:List ax}:∀{b a:bn},aH g cs b->aH g h a->aH g (cs++h) (b++a):=by
 induction cs with
 |nil=>intro b a d f;have e:b=[]:=d;subst e;exact f
 |cons c cs k=>intro b a d f;obtain⟨l,m,e,i,j⟩:=d;subst e;exact⟨l,m++a,az,i,k j f⟩
theorem TV.Ad{d:aI}{x:TV}{v:Value}(a:x.rel d v):∃l,v.cells=⟨l⟩/\aH d x.cells l:=by
 cases x with
 |one c=>have b:=ax.Le (c:=c) a v az;refine⟨[v],?_,[v],[],az,a,rfl⟩;cases v<;>simp_all [Value.cells,Value.oneCell']
 |agg cs=>obtain⟨l,e,f⟩:=a;subst e;exact⟨l,rfl,f⟩
def qv:bn->TypeId->Nat×Nat->Obj
 |[],t,_=>.map #[] t
 |v::l,t,fr=>.cells ⟨v::l⟩ t fr
theorem vG{l:bn}(h:l≠[])(t:TypeId)(fr:Nat×Nat):qv l t fr=.cells ⟨l⟩ t fr:=by
 cases l with
 |nil=>exact absurd rfl h
 |cons v l=>rfl
def cN(w:World)(b n:Nat)(l:bn):Prop:=
 ∃(a:bn)(el:TypeId)(fr:Nat×Nat),w.heap[b]?=some (.cells ⟨l++a⟩ el fr)/\(l++a).length=n/\(fr=(0,0)\/n<=fr.1)
abbrev dr:=Nat->SV
abbrev b8:=Nat->Option (List ax)
structure dn where
 w:World
 ids:List (Nat×Nat)
 gl:dF:=λ_=>none
 M:Mem:=λ_=>none
 num:Nat×Nat->Nat
 top:Nat
def eB(w:World)(b:Nat):Nat:=match w.heap[b]? with
 |some (.cells c _ _)=>c.size
 |_=>0
def dn.own(W:dn)(b:Nat):Bool:=W.ids.any λp=>p.2==b
def dn.bB(W:dn)(b:Nat):Prop:=W.w.heap.size<=b\/W.own b=true
structure mV(W:dn)(w:World):Prop where
 os:w.os=W.w.os
 tape:w.tape=W.w.tape
 output:w.output=W.w.output
 size:W.w.heap.size<=w.heap.size
 block:∀k,k<W.w.heap.size->W.own k=false->w.heap[k]?=W.w.heap[k]?
theorem mV.refl(W:dn):mV W W.w:=⟨rfl,rfl,rfl,aQ _,λ_ _ _=>rfl⟩
theorem mV.drew{W:dn}{w:World}(h:mV W w):mV W {w with drawn:=w.drawn+1}:=⟨h.os,h.tape,h.output,h.size,h.block⟩
theorem mV.below{W:dn}{w:World}(h:mV W w)(d:W.ids=[]):Below W.w.heap.size W.w w:=
 ⟨h.os,h.tape,h.output,h.size,λk c=>h.block k c (by simp[dn.own,d])⟩
theorem cN.lt{w:World}{b n:Nat}{l:bn}(h:cN w b n l):b<w.heap.size:=by obtain⟨a,el,fr,h,_⟩:=h;rcases cG b w.heap.size with h'|h';exact h';simp[gH h']at h
theorem cN.cell{w:World}{b n:Nat}{l:bn}(h:cN w b n l){i:Nat}{x:Value}(a:l[i]?=some x):w.cell? ⟨b,i,none⟩=some x:=by
 obtain⟨c,el,fr,h,_⟩:=h;simp only[World.cell?,h];have d:i<l.length:=by rcases cG i l.length with h'|h';exact h';simp[fQ h']at a
 simp[uS d,a]
theorem cN.frozen{w:World}{b n:Nat}{l:bn}(h:cN w b n l){i:Nat}(c:i<n):w.frozen? ⟨b,i,none⟩=false:=by obtain⟨a,el,fr,h,_,hf⟩:=h;simp only[World.frozen?,h];rcases hf with rfl|hf;simp;simp;omega
theorem cN.len{w:World}{b n:Nat}{l:bn}(h:cN w b n l):l.length<=n:=by obtain⟨f,el,fr,_,h,_⟩:=h;simp at h;omega
def Au(n:Nat):LI:=replicate n 0
structure Out where
 val:SV
 new:List (Nat×List ax):=[]
 wr:List (Nat×List ax):=[]
 pre:gi:=[]
abbrev Spec:=dn->Nat->List SV->b8->Option Out
def DU:Nat->Nat->Nat
 |0,n=>n
 |m+1,n=>m+1+n
theorem Ke(m n:Nat):DU m n=m+n:=by cases m<;>simp[DU]
abbrev Ut:=(e:Kd)×Nat×List (a6 e)
def mW:ax->Option Ut
 |.ints k n a=>some ⟨.int k,n,a⟩
 |.row e n a=>some ⟨e,n,a⟩
 |_=>none
def mc:(e:Kd)->Nat->List (a6 e)->ax
 |.int k,n,a=>.ints k n a
 |e,n,a=>.row e n a
def cellsOf:(e:Kd)->a6 e->List ax
 |.int k,x=>[.v (.int k x)]
 |.bool,x=>[.v (.bool x)]
 |.str,x=>[.v (.string x)]
 |.fp,x=>[.row .fp 1 [x]]
 |.fr,x=>[.row .fr 1 [x]]
 |.pair a b,x=>cellsOf a x.1++cellsOf b x.2
 |.arr n e,xs=>[mc e n xs]
 |.sl e,xs=>[.ro e xs]
 |.ptr e,x=>[.rp e [x] 0 0]
 |.fn f,_=>[.v (.func (.func f) ⟨[]⟩ ⟨[]⟩)]
 |.cap c e,x=>[.fv (.cap c e) x]
 |.pq,x=>[.fv .pq x]
 |.mp,x=>[.fv .mp x]
def zeroCells:Kd->List ax
 |.int k=>[.v (.int k 0)]
 |.bool=>[.F]
 |.str=>[.v (.string ByteArray.empty)]
 |.fp=>[.row .fp 1 [(0:Fp)]]
 |.fr=>[.row .fr 1 [(0:Fr)]]
 |.pair a b=>zeroCells a++zeroCells b
 |.arr n e=>[mc e n (replicate n (gn e))]
 |.sl _=>[.v (.slice none 0 0)]
 |.fn f=>[.v (.func (.func f) ⟨[]⟩ ⟨[]⟩)]
 |_=>[.v (.pointer none)]
def ka:List ax->Nat->Option (List ax×List ax)
 |cs,0=>some ([],cs)
 |[],_+1=>none
 |c::cs,n+1=>match mW c with
  |some ⟨e,m,d⟩=>match blt (n+1) (m*aC e)with
   |true=>match beq ((n+1)/aC e*aC e) (n+1)with
    |true=>some ([mc e ((n+1)/aC e) (d.take ((n+1)/aC e))],mc e (m-(n+1)/aC e) (d.drop ((n+1)/aC e))::cs)
    |false=>none
   |false=>match ka cs (n+1-m*aC e)with
    |some (a,b)=>some (c::a,b)
    |none=>none
  |none=>match ka cs n with
   |some (a,b)=>some (c::a,b)
   |none=>none
def nZ(cs:List ax)(a n:Nat):Option (List ax):=
 match ka cs a with
 |some (_,r)=>match ka r n with
  |some (m,_)=>some m
  |none=>none
 |none=>none
def yL:List ax->Nat->Option (List ax×Ut×Nat×List ax)
 |[],_=>none
 |c::cs,b=>match mW c with
  |some s=>match blt b (aC s.1)with
   |true=>some ([],s,b,cs)
   |false=>match blt b (s.2.1*aC s.1)with
    |true=>some ([],s,b,cs)
    |false=>match yL cs (b-s.2.1*aC s.1)with
     |some (a,d,q,r)=>some (c::a,d,q,r)
     |none=>none
  |none=>match b with
   |0=>none
   |b+1=>match yL cs b with
    |some (a,d,q,r)=>some (c::a,d,q,r)
    |none=>none
def HK(cs:List ax)(d:Nat)(c:List ax):Option (List ax):=
 match ka cs d with
 |some (a,r)=>match ka r (dk c)with
  |some (_,b)=>some (a++(c++b))
  |none=>none
 |none=>none
def qo{a b:Kd}(h:a=b)(c:List (a6 a)):List (a6 b):=h▸c
def Is{a b:Kd}(h:a=b)(x:a6 a):a6 b:=h▸x
def vF(e:Kd):List ax->Option (a6 e×List ax)
 |[]=>none
 |c::r=>match mW c with
  |some ⟨d,n,f⟩=>match d.eq? e with
   |some ⟨h⟩=>match n with
    |0=>none
    |1=>some (Is h (f.getD 0 (gn d)),r)
    |m+2=>some (Is h (f.getD 0 (gn d)),mc d (m+1) (f.drop 1)::r)
   |none=>none
  |none=>none
def IP(e:Kd)(cs:List ax):Option (a6 e×gi×List ax):=match vF e cs with
 |some (x,r)=>some (x,[],r)
 |none=>none
def rm(k:IntKind):List ax->Nat->Option (LI×List ax)
 |cs,0=>some ([],cs)
 |[],_+1=>none
 |.ints d n c::r,m+1=>match decide (d=k)with
  |true=>match beq n (m+1)with
   |true=>some (c,r)
   |false=>match blt (m+1) n with
    |true=>some (c.take (m+1),.ints d (n-(m+1)) (c.drop (m+1))::r)
    |false=>match rm k r (m+1-n)with
     |some (f,e)=>some (c++f,e)
     |none=>none
  |false=>none
 |.v (.int d x)::r,m+1=>match decide (d=k),rm k r m with
  |true,some (f,e)=>some (x::f,e)
  |_,_=>none
 |.row .fp 1 c::r,m+1=>match decide (k=.u64)&&beq (m+1) 6 with
  |true=>some (enc (M:=Mp) (c.getD 0 0),r)
  |false=>none
 |.row .fr 1 c::r,m+1=>match decide (k=.u64)&&beq (m+1) 4 with
  |true=>some (enc (M:=Mr) (c.getD 0 0),r)
  |false=>none
 |_::_,_+1=>none
def Kj:(e:Kd)->Nat->List ax->Option (List (a6 e)×List ax)
 |.int k,n,cs=>rm k cs n
 |_,_,_=>none
def VU(e:Kd)(n:Nat):List ax->Option (List (a6 e)×List ax)
 |[]=>none
 |c::r=>match mW c with
  |some ⟨g,d,f⟩=>match g.eq? e with
   |some ⟨h⟩=>match beq d n with
    |true=>some (qo h f,r)
    |false=>match blt n d with
     |true=>some (qo h (f.take n),mc g (d-n) (f.drop n)::r)
     |false=>none
   |none=>none
  |none=>none
def pN{c:Type}(f:List ax->Option (c×gi×List ax)):Nat->List ax->Option (List c×gi×List ax)
 |0,cs=>some ([],[],cs)
 |n+1,cs=>match f cs with
  |some (x,p,r)=>match pN f n r with
   |some (g,d,e)=>some (x::g,p++d,e)
   |none=>none
  |none=>none
def xw(e:Kd)(cs:List ax)(d f len c:Nat):Option (List (a6 e)×gi):=
 match yL cs d with
 |some (_,⟨g,n,i⟩,q,_)=>match g.eq? e,beq q 0&&beq c (aC e)with
  |some ⟨h⟩,true=>some (((qo h i).drop f).take len,[f+len<=n])
  |_,_=>none
 |none=>none
def xv{g:Type}(f:List ax->Option (g×gi×List ax))(w:Nat)(cs:List ax)(d e len c:Nat):Option (List g×gi):=
 match beq c w,ka cs (d+e*c)with
 |true,some (_,r)=>match pN f len r with
  |some (i,h,_)=>some (i,h)
  |none=>none
 |_,_=>none
def iB(B:b8):(e:Kd)->List ax->Option (a6 e×gi×List ax)
 |.int k,cs=>match cs with
  |.v (.int u x)::r=>match decide (u=k)with
   |true=>some (x,[],r)
   |false=>none
  |cs=>IP (.int k) cs
 |.bool,cs=>match cs with
  |.v (.bool x)::r=>some (x,[],r)
  |.T::r=>some (true,[],r)
  |.F::r=>some (false,[],r)
  |cs=>IP .bool cs
 |.str,cs=>match cs with
  |.v (.string x)::r=>some (x,[],r)
  |cs=>IP .str cs
 |.fp,cs=>match vF .fp cs with
  |some (x,r)=>some (x,[],r)
  |none=>match rm .u64 cs 6 with
   |some (ws,r)=>some (dec (M:=Mp) ws,[Canon Mp ws],r)
   |none=>none
 |.fr,cs=>match vF .fr cs with
  |some (x,r)=>some (x,[],r)
  |none=>match rm .u64 cs 4 with
   |some (ws,r)=>some (dec (M:=Mr) ws,[Canon Mr ws],r)
   |none=>none
 |.pair a b,cs=>match vF (.pair a b) cs with
  |some (x,r)=>some (x,[],r)
  |none=>match iB B a cs with
   |some (x,p,r)=>match iB B b r with
    |some (y,q,w)=>some ((x,y),p++q,w)
    |none=>none
   |none=>none
 |.arr n e,cs=>match vF (.arr n e) cs with
  |some (x,r)=>some (x,[],r)
  |none=>match VU e n cs with
   |some (j,r)=>some (j,[],r)
   |none=>match Kj e n cs with
    |some (j,r)=>some (j,[],r)
    |none=>pN (iB B e) n cs
 |.sl e,cs=>match vF (.sl e) cs with
  |some (x,r)=>some (x,[],r)
  |none=>match cs with
   |.ro o j::r=>match o.eq? e with
    |some ⟨h⟩=>some (qo h j,[],r)
    |none=>none
   |.v (.slice none 0 0)::r=>some ([],[],r)
   |.sl id m t len c::r=>match B id with
    |some (d::s)=>match xw e (d::s) m t len c with
     |some (j,p)=>some (j,p,r)
     |none=>match xv (iB B e) (aC e) (d::s) m t len c with
      |some (j,p)=>some (j,p,r)
      |none=>none
    |_=>none
   |_=>none
 |.ptr e,cs=>match cs with
  |.rp o j i 0::r=>match o.eq? e with
   |some ⟨h⟩=>some (Is (a:=o) (b:=e) h (j.getD i (gn o)),[],r)
   |none=>none
  |.ptr id 0::r=>match B id with
   |some (d::s)=>match iB B e (d::s)with
    |some (x,p,[])=>some (x,p,r)
    |_=>none
   |_=>none
  |_=>none
 |.fn f,cs=>match cs with
  |.v (.func (.func g) ⟨[]⟩ ⟨[]⟩)::r=>match decide (g=f)with
   |true=>some ((),[],r)
   |false=>none
  |.clo g []::r=>match decide (g=f)with
   |true=>some ((),[],r)
   |false=>none
  |_=>none
 |.cap c e,cs=>match cs with
  |.fv o x::r=>match o.eq? (.cap c e)with
   |some ⟨h⟩=>some (Is (a:=o) (b:=.cap c e) h x,[],r)
   |none=>none
  |.clo g (i::l)::r=>match B i with
   |some (d::s)=>match iB B e (d::s)with
    |some (y,q,[])=>match iB B c [.clo g l]with
     |some (x,p,[])=>some ((x,y),p++q,r)
     |_=>none
    |_=>none
   |_=>none
  |_=>none
 |.pq,cs=>match cs with
  |.fv .pq x::r=>some (x,[],r)
  |.v (.pointer none)::r=>some (none,[],r)
  |.v (.pointer (some ⟨p,0,none⟩))::r=>some (some p,[],r)
  |_=>none
 |.mp,cs=>match cs with
  |.fv .mp x::r=>some (x,[],r)
  |_=>none
def tg:b8:=λ_=>none
def c3(P:Program)(t:TypeId):Bool:=
 match P.underlying t with
 |some (.struct _)|some (.array _ _)=>true
 |_=>false
def PC:Value->ax
 |.bool true=>.T
 |.bool false=>.F
 |x=>.v x
def Gd(P:Program)(t:TypeId):Option (List ax):=
 match P.info? t with
 |some {zero:=some z,.. }=>match Hq P 20 t with
  |some a=>match pK z.cells.toList (kU a)&&zk a with
   |true=>some (zeroCells a)
   |false=>none
  |none=>match z.cells.toList.all (·.oneCell')with
   |true=>some (z.cells.toList.map PC)
   |false=>none
 |_=>none
def rE(a:Bool)(cs:List ax):Option TV:=
 match a with
 |true=>some (.agg cs)
 |false=>match cs with
  |[c]=>match mW c with
   |some ⟨e,_,d⟩=>match cellsOf e (d.getD 0 (gn e))with
    |[b]=>some (.one b)
    |_=>none
   |none=>some (.one c)
  |_=>none
def aN(d:BinOp)(k:IntKind)(x y:Int):Int:=
 let a:=BitVec.ofInt k.bits x;let b:=BitVec.ofInt k.bits y;match d with
 |.and=>k.wrap (a &&& b).toNat
 |.or=>k.wrap (a ||| b).toNat
 |.xor=>k.wrap (a ^^^ b).toNat
 |_=>k.wrap (a &&& ~~~b).toNat
def OX(c:BinOp)(k:IntKind)(a b:Int):Option (Value×gi):=
 match c with
 |.add=>some (.int k (k.wrap (a+b)),[])
 |.sub=>some (.int k (k.wrap (a-b)),[])
 |.mul=>some (.int k (k.wrap (a*b)),[])
 |.quo=>some (.int k (k.wrap (a.tdiv b)),[b≠0])
 |.rem=>some (.int k (a.tmod b),[b≠0])
 |.and=>some (.int k (aN .and k a b),[])
 |.or=>some (.int k (aN .or k a b),[])
 |.xor=>some (.int k (aN .xor k a b),[])
 |.andNot=>some (.int k (aN .andNot k a b),[])
 |.eql=>some (.bool (a==b),[])
 |.neq=>some (.bool (a != b),[])
 |.lss=>some (.bool (decide (a<b)),[])
 |.leq=>some (.bool (decide (a<=b)),[])
 |.gtr=>some (.bool (decide (a>b)),[])
 |.geq=>some (.bool (decide (a>=b)),[])
 |_=>none
def Qw(c:BinOp)(k:IntKind)(a b:Int):Option Value:=
 match c with
 |.shl=>some (.int k (k.wrap (a*2^(min b.toNat k.bits))))
 |.shr=>some (.int k (a.fdiv (2^(min b.toNat k.bits))))
 |_=>none
def uW(P:Program)(a:TypeId->Bool):Nat->Nat->List Field->Bool
 |o,n,[]=>beq o n
 | o, n, f :: b => f.name != "_" && a f.type && beq f.offset o && uW P a (o + P.cellsOf f.type) n b
def pJ(P:Program):Nat->TypeId->Bool
 |0,_=>false
 |d+1,t=>match P.underlying t with
  |some (.int _)=>beq (P.cellsOf t) 1
  |some (.array n e)=>match beq (P.cellsOf t) (n*P.cellsOf e)with
   |true=>pJ P d e
   |false=>false
  |some (.struct a)=>uW P (pJ P d) 0 (P.cellsOf t) a.toList && !P.stoodInHeld t
  |_=>false
def SY(i:Int)(n:Nat):Bool:=match i with
 |.ofNat m=>blt m n
 |_=>false
def ret(x:SV):Option Out:=some {val:=x}
def gY(x:Value):Option Out:=some {val:=.is (.one (.v x))}
def uV(P:Program)(t:TypeId)(f:Nat):Option Field:=
 match P.underlying t with
 |some (.struct a)=>a[f]?
 |_=>none
def tO(a:Nat->Option (Nat×Nat)):List ax->List (Nat×SV)->Option (List ax)
 |cs,[]=>some cs
 |cs,(i,.is x)::r=>match a i with
  |some (c,d)=>match beq (dk x.cells) d with
   |true=>match HK cs c x.cells with
    |some b=>tO a b r
    |none=>none
   |false=>none
  |none=>none
 |_,_=>none
def yr(P:Program)(t:TypeId):Nat->Option (Nat×Nat):=
 match P.underlying t with
 |some (.struct a)=>λi=>match a[i]? with
  |some f=>some (f.offset,P.cellsOf f.type)
  |none=>none
 |some (.array _ e)=>λi=>some (i*P.cellsOf e,P.cellsOf e)
 |_=>λ_=>none
def As:List SV->Option Out
 |[x]=>ret x
 |_=>none
def Wt:List SV->Option Out
 |[.is (.one .T),x,_]=>ret x
 |[.is (.one .F),_,y]=>ret y
 |[.is (.one (.v (.bool c))),.is (.one (.v (.bool x))),.is (.one (.v (.bool y)))]=>gY (.bool (bif c then x else y))
 |_=>none
def Q3(P:Program)(id:Nat)(t:TypeId):Option Out:=
 match Gd P t with
 |some cs=>some {val:=.is (.one (.ptr id 0)),new:=[(id,cs)]}
 |none=>none
def ac9(id:Nat):List SV->Option Out
 |[.is x]=>some {val:=.is (.one (.ptr id 0)),new:=[(id,x.cells)]}
 |_=>none
def rep{a:Type}:Nat->List a->List a
 |0,_=>[]
 |n+1,l=>l++rep n l
def AZ(P:Program)(e:TypeId)(n:Nat)(cs:List ax):List ax×gi:=
 match Hq P 20 e with
 |some a=>match pN (iB tg a) n cs with
  |some (c,b,[])=>([mc a n c],b)
  |_=>(cs,[])
 |none=>(cs,[])
def DZ(P:Program)(t:TypeId)(cs:List ax):List ax×gi:=
 match P.underlying t with
 |some (.array n e)=>AZ P e n cs
 |_=>(cs,[])
def Q4(P:Program)(t:TypeId)(b:List Nat)(c:List SV):Option Out:=
 match c3 P t,beq b.length c.length,Gd P t with
 |true,true,some cs=>match tO (yr P t) cs (b.zip c)with
  |some a=>some {val:=.is (.agg (DZ P t a).1),pre:=(DZ P t a).2}
  |none=>none
 |_,_,_=>none
def AR(P:Program)(id:Nat)(t:TypeId)(len:Nat)(b:List Nat)(c:List SV):Option Out:=
 match P.underlying t,beq b.length c.length with
 |some (.slice e),true=>match Gd P e,blt (len*P.cellsOf e) 16777217&&blt 0 (P.cellsOf e)&&beq (dk ((Gd P e).getD [])) (P.cellsOf e)with
  |some cs,true=>match tO (λi=>some (i*P.cellsOf e,P.cellsOf e)) (rep len cs) (b.zip c)with
   |some a=>match (AZ P e len a).1 with
    |[]=>none
    |d::f=>some {val:=.is (.one (.sl id 0 0 len (P.cellsOf e))),new:=[(id,d::f)],pre:=(AZ P e len a).2}
   |none=>none
  |_,_=>none
 |_,_=>none
def B8(e:Kd)(n:Nat)(c:List (a6 e))(j q a:Nat)(b:Bool):Option (TV×gi):=
 match ble (q+a) (aC e)with
 |true=>match nZ (cellsOf e (c.getD j (gn e))) q a with
  |some m=>match rE b m with
   |some x=>some (x,[j<n])
   |none=>none
  |none=>none
 |false=>match beq q 0&&b&&beq (a/aC e*aC e) a with
  |true=>some (.agg [mc e (a/aC e) ((c.drop j).take (a/aC e))],[j+a/aC e<=n])
  |false=>none
def D5(e:Kd)(n:Nat)(b:List (a6 e))(j q:Nat)(a:List ax):Option (List (a6 e)×gi):=
 match HK (cellsOf e (b.getD j (gn e))) q a with
 |some cs=>match iB tg e cs with
  |some (y,c,[])=>some (b.set j y,(j<n)::c)
  |_=>none
 |none=>none
def I4(P:Program)(t:TypeId)(cs:List ax)(a i c:Nat):Option Out:=
 match yL cs a with
 |some (_,⟨e,n,b⟩,q,_)=>match beq c (aC e)with
  |true=>match B8 e n b (DU (q/c) i) (q%c) (P.cellsOf t) (c3 P t)with
   |some (x,p)=>some {val:=.is x,pre:=p}
   |none=>none
  |false=>none
 |none=>none
def xP(b:Nat)(cs:List ax)(d i c:Nat)(f:List ax):Option Out:=
 match yL cs d with
 |some (a,⟨e,n,g⟩,q,r)=>match beq c (aC e)with
  |true=>match D5 e n g (DU (q/c) i) (q%c) f with
   |some (h,p)=>some {val:=.undef,wr:=[(b,a++(mc e n h::r))],pre:=p}
   |none=>none
  |false=>none
 |none=>none
def V1(cs:List ax)(a:Nat):Nat:=match yL cs a with
 |some (_,s,_,_)=>aC s.1
 |none=>0
def Wp(P:Program)(t:TypeId)(j:List SV)(B:b8):Option Out:=
 match j with
 |[.is (.one (.ptr b a))]=>match B b with
  |some (c::cs)=>match nZ (c::cs) a (P.cellsOf t)with
   |some m=>match rE (c3 P t) m with
    |some x=>ret (.is x)
    |none=>none
   |none=>I4 P t (c::cs) a 0 (V1 (c::cs) a)
  |_=>none
 |[.is (.one (.pe b f i c))]=>match B b with
  |some (d::h)=>I4 P t (d::h) f i c
  |_=>none
 |[.is (.one (.rp e g i a))]=>match B8 e g.length g (DU (a/aC e) i) (a%aC e) (P.cellsOf t) (c3 P t)with
  |some (x,p)=>some {val:=.is x,pre:=p}
  |none=>none
 |_=>none
def alp(cs:List ax)(a:Nat):Bool:=match yL cs a with
 |some (_,s,_,_)=>blt 1 s.2.1
 |none=>false
def CU(b:Nat)(cs:List ax)(d:Nat)(c:List ax):Option Out:=
 match HK cs d c with
 |some a=>some {val:=.undef,wr:=[(b,a)]}
 |none=>none
def QH(b:Nat)(cs:List ax)(a:Nat)(c:List ax):Option Out:=
 match alp cs a with
 |true=>match xP b cs a 0 (V1 cs a) c with
  |some o=>some o
  |none=>CU b cs a c
 |false=>match CU b cs a c with
  |some o=>some o
  |none=>xP b cs a 0 (V1 cs a) c
def Q9(P:Program)(t:TypeId)(g:List SV)(B:b8):Option Out:=
 match g with
 |[.is (.one (.ptr b e)),.is x]=>match B b,beq (dk x.cells) (P.cellsOf t)with
  |some (c::cs),true=>QH b (c::cs) e x.cells
  |_,_=>none
 |[.is (.one (.pe b a i c)),.is x]=>match B b,beq (dk x.cells) (P.cellsOf t)with
  |some (d::f),true=>xP b (d::f) a i c x.cells
  |_,_=>none
 |_=>none
def C4(P:Program)(t:TypeId)(f:Nat)(h:List SV):Option Out:=
 match uV P t f with
 |some g=>match beq (P.cellsOf g.type) 0,h with
  |false,[.is (.one (.ptr b a))]=>ret (.is (.one (.ptr b (a+g.offset))))
  |false,[.is (.one (.pe b d i c))]=>ret (.is (.one (.pe b (d+g.offset) i c)))
  |false,[.is (.one (.rp e j i a))]=>ret (.is (.one (.rp e j i (a+g.offset))))
  |_,_=>none
 |none=>none
def isConst:Operand->Bool
 |.const _=>true
 |_=>false
def ab4:(e:Kd)->List (a6 e)->Nat->Nat->Nat->Nat->Nat->Option ax
 |.arr m b,d,i,a,c,n,j=>match beq a 0&&beq (aC b) c&&ble n m with
  |true=>some (.rp b (d.getD i []) j 0)
  |false=>none
 |_,_,_,_,_,_,_=>none
def C5(P:Program)(t:TypeId)(f:Bool)(k:List SV):Option Out:=
 match P.underlying t,k with
 |some (.array n e),[.is (.one (.ptr b a)),.is (.one (.v (.int _ i)))]=>
  match f with
  |true=>match SY i n with
   |true=>ret (.is (.one (.ptr b (a+i.toNat*P.cellsOf e))))
   |false=>none
  |false=>some {val:=.is (.one (.pe b a i.toNat (P.cellsOf e))),pre:=[0<=i/\i<(n:Int)]}
 |some (.array n e),[.is (.one (.pe b d j c)),.is (.one (.v (.int _ i)))]=>
  match f,SY i n with
  |true,true=>ret (.is (.one (.pe b (d+i.toNat*P.cellsOf e) j c)))
  |_,_=>none
 |some (.array n e),[.is (.one (.rp g h j a)),.is (.one (.v (.int _ i)))]=>
  match f with
  |true=>match SY i n with
   |true=>ret (.is (.one (.rp g h j (a+i.toNat*P.cellsOf e))))
   |false=>none
  |false=>match ab4 g h j a (P.cellsOf e) n i.toNat with
   |some c=>some {val:=.is (.one c),pre:=[0<=i/\i<(n:Int)]}
   |none=>none
 |some (.slice e),[.is (.one (.sl b d a len c)),.is (.one (.v (.int _ i)))]=>
  match beq c (P.cellsOf e)with
  |true=>some {val:=.is (.one (.pe b d (DU a i.toNat) c)),pre:=[0<=i/\i<(len:Int)]}
  |false=>none
 |some (.slice e),[.is (.one (.ro g h)),.is (.one (.v (.int _ i)))]=>
  match beq (aC g) (P.cellsOf e)with
  |true=>some {val:=.is (.one (.rp g h i.toNat 0)),pre:=[0<=i/\i<(h.length:Int)]}
  |false=>none
 |_,_=>none
def lz(s:ByteArray):LI:=s.data.toList.map λb=>(b.toNat:Int)
def Q6(P:Program)(t:TypeId)(b:Bool)(d:List SV):Option Out:=
 match P.underlying t,d with
 |some (.array n e),[.is (.agg cs),.is (.one (.v (.int _ i)))]=>match b with
  |true=>match SY i n,nZ cs (i.toNat*P.cellsOf e) (P.cellsOf e)with
   |true,some m=>match rE (c3 P e) m with
    |some x=>ret (.is x)
    |none=>none
   |_,_=>none
  |false=>match cs with
   |[c]=>match mW c with
    |some ⟨a,m,f⟩=>match beq (aC a) (P.cellsOf e)&&ble n m,rE (c3 P e) (cellsOf a (f.getD i.toNat (gn a)))with
     |true,some x=>some {val:=.is x,pre:=[0<=i/\i<(n:Int)]}
     |_,_=>none
    |none=>none
   |_=>none
 |some .string,[.is (.one (.v (.string x))),.is (.one (.v (.int _ i)))]=>some {val:=.is (.one (.v (.int .u8 ((lz x).getD i.toNat 0)))),pre:=[0<=i/\i<(x.size:Int)]}
 |_,_=>none
def Q5(P:Program)(t:TypeId)(f:Nat)(b:List SV):Option Out:=
 match uV P t f,b with
 |some a,[.is (.agg cs)]=>match nZ cs a.offset (P.cellsOf a.type)with
  |some m=>match rE (c3 P a.type) m with
   |some x=>ret (.is x)
   |none=>none
  |none=>none
 |_,_=>none
def H9(i:Nat):List SV->Option Out
 |[.tup l]=>match l[i]? with
  |some x=>ret (.is x)
  |none=>none
 |_=>none
def KR:BinOp->Bool
 |.shl | .shr=>true
 |_=>false
def xEq(P:Program)(t:TypeId)(c:Bool)(cs b:List ax):Option Out:=
 match pJ P 20 t,Hq P 20 t with
 |true,some a=>match iB tg a cs,iB tg a b,sc a&&c3 P t && !P.eqGuardType P.depth t&&beq (aC a) (P.cellsOf t)with
  |some (x,d,[]),some (y,e,[]),true=>some {val:=.is (.one (.v (.bool (bif c then !p3 a x y else p3 a x y)))),pre:=d++e}
  |_,_,_=>none
 |_,_=>none
def xU:ax->Option Bool
 |.T=>some true
 |.F=>some false
 |.v (.bool b)=>some b
 |_=>none
def OY:ax->Bool
 |.ptr _ _ | .pe _ _ _ _ | .rp _ _ _ _=>true
 |_=>false
def KQ:ax->Bool
 |.v (.pointer none)=>true
 |_=>false
def ac8(P:Program)(e:BinOp)(t:TypeId)(h:List SV):Option Out:=
 match h with
 |[.is (.one (.v (.int k a))),.is (.one (.v (.int g b)))]=>
  match KR e with
  |true=>match Qw e k a b with
   |some x=>some {val:=.is (.one (.v x)),pre:=[0<=b]}
   |none=>none
  |false=>match decide (k=g),OX e k a b with
   |true,some (x,p)=>some {val:=.is (.one (.v x)),pre:=p}
   |_,_=>none
 |[.is (.agg cs),.is (.agg f)]=>match e with
  |.eql=>xEq P t false cs f
  |.neq=>xEq P t true cs f
  |_=>none
 |[.is (.one c),.is (.one d)]=>match P.underlying t with
  |some .bool=>match xU c,xU d,e with
   |some a,some b,.eql=>gY (.bool (a==b))
   |some a,some b,.neq=>gY (.bool (!(a==b)))
   |_,_,_=>none
  |some (.pointer _)=>match KQ d with
   |true=>match OY c,e with
    |true,.eql=>ret (.is (.one .F))
    |true,.neq=>ret (.is (.one .T))
    |false,.eql=>match c with
     |.fv .pq x=>gY (.bool (!isSome x))
     |.v (.pointer none)=>ret (.is (.one .T))
     |_=>none
    |false,.neq=>match c with
     |.fv .pq x=>gY (.bool (isSome x))
     |.v (.pointer none)=>ret (.is (.one .F))
     |_=>none
    |_,_=>none
   |false=>none
  |_=>none
 |_=>none
def xUn(b:UnOp)(c:List SV):Option Out:=
 match b,c with
 |.not,[.is (.one .T)]=>ret (.is (.one .F))
 |.not,[.is (.one .F)]=>ret (.is (.one .T))
 |.not,[.is (.one (.v (.bool a)))]=>gY (.bool (!a))
 |.neg,[.is (.one (.v (.int k a)))]=>gY (.int k (k.wrap (0-a)))
 |.xor,[.is (.one (.v (.int k a)))]=>gY (.int k (aN .xor k (if k.signed then -1 else k.max) a))
 |_,_=>none
def NV(n:Nat)(b a c:Option Operand)(d:List SV):Option (Int×Int×Option Int×gi):=
 match b,a,c,d with
 |none,none,none,[]=>some (0,n,none,[])
 |none,some _,none,[.is (.one (.v (.int _ h)))]=>some (0,h,none,[0<=h/\h<=(n:Int)])
 |some _,none,none,[.is (.one (.v (.int _ l)))]=>some (l,n,none,[0<=l/\l<=(n:Int)])
 |some _,some _,none,[.is (.one (.v (.int _ l))),.is (.one (.v (.int _ h)))]=>some (l,h,none,[0<=l/\l<=h/\h<=(n:Int)])
 |none,some _,some _,[.is (.one (.v (.int _ h))),.is (.one (.v (.int _ m)))]=>some (0,h,some m,[0<=h/\h<=m/\m<=(n:Int)])
 |some _,some _,some _,[.is (.one (.v (.int _ l))),.is (.one (.v (.int _ h))),.is (.one (.v (.int _ m)))]=>some (l,h,some m,[0<=l/\l<=h/\h<=m/\m<=(n:Int)])
 |_,_,_,_=>none
def Q8(P:Program)(t:TypeId)(g f i:Option Operand)(m:List SV)(B:b8):Option Out:=
 match P.underlying t,m with
 |some (.array n e),.is (.one (.ptr b a))::r=>
  match B b,NV n g f i r with
  |some (c::cs),some (l,h,_,p)=>match ble (a+n*P.cellsOf e) (dk (c::cs))with
   |true=>some {val:=.is (.one (.sl b a l.toNat (h-l).toNat (P.cellsOf e))),pre:=p}
   |false=>none
  |_,_=>none
 |some (.slice e),.is (.one (.sl b d a len c))::r=>
  match NV len g f i r,beq c (P.cellsOf e)with
  |some (l,h,_,p),true=>some {val:=.is (.one (.sl b d (DU a l.toNat) (h-l).toNat c)),pre:=p}
  |_,_=>none
 |some (.slice e),.is (.one (.ro j k))::r=>
  match NV k.length g f i r,beq (aC j) (P.cellsOf e)with
  |some (l,h,_,p),true=>some {val:=.is (.one (.ro j ((k.drop l.toNat).take (h-l).toNat))),pre:=p}
  |_,_=>none
 |_,_=>none
def ada(P:Program)(a:Array TypeId)(b:List SV):Option Out:=
 match (a[0]?).bind P.underlying,b with
 |some (.slice _),[.is (.one (.sl _ _ _ n _))]=>gY (.int .i64 n)
 |some (.slice _),[.is (.one (.ro _ c))]=>gY (.int .i64 c.length)
 |some (.slice _),[.is (.one (.v (.slice _ n _)))]=>gY (.int .i64 n)
 |some .string,[.is (.one (.v (.string s)))]=>gY (.int .i64 s.size)
 |_,_=>none
def bytesOf(P:Program)(t:TypeId):Nat:=match P.info? t with
 |some i=>i.bytes
 |none=>0
def Iv(P:Program)(e:TypeId):Option Kd:=
 match P.info? e,Hq P 20 e with
 |some {zero:=some z,.. },some a=>match pK z.cells.toList (kU a)&&zk a&&beq (aC a) (P.cellsOf e)&&blt 0 (aC a)with
  |true=>some a
  |false=>none
 |_,_=>none
def Wq(P:Program)(id:Nat)(t:TypeId)(b:List SV):Option Out:=
 match P.underlying t,b with
 |some (.slice e),[.is (.one (.v (.int _ l))),.is (.one (.v (.int _ c)))]=>match Iv P e with
  |some a=>some {val:=.is (.one (.sl id 0 0 l.toNat (aC a))),new:=[(id,[mc a c.toNat (replicate c.toNat (gn a))])],pre:=[0<=l/\l<=c/\(bytesOf P e:Int)*c<=281474976710656/\c<=9223372036854775807]}
  |none=>none
 |_,_=>none
def F5(B:b8)(g:Kd):SV->Option (Nat×List (a6 g)×gi)
 |.is (.one (.sl id a f m c))=>match B id with
  |some (d::i)=>match xw g (d::i) a f m c with
   |some (b,p)=>some (m,b,p)
   |none=>match xv (iB tg g) (aC g) (d::i) a f m c with
    |some (b,p)=>some (m,b,p)
    |none=>none
  |_=>none
 |.is (.one (.ro e b))=>match e.eq? g with
  |some ⟨h⟩=>some (b.length,qo h b,[])
  |none=>none
 |.is (.one (.v (.slice none 0 0)))=>some (0,[],[])
 |_=>none
def LH(P:Program)(id:Nat)(k:Array TypeId)(l:List SV)(B:b8):Option Out:=
 match k.toList,l with
 |[t,j],[.is (.one d),x]=>match beq t j,P.underlying t with
  |true,some (.slice e)=>match Iv P e with
   |some a=>match F5 B a x,d with
    |some (m,b,p),.sl i 0 0 len c=>match B i,beq c (aC a)with
     |some [f],true=>match mW f with
      |some ⟨g,n,xs⟩=>match g.eq? a with
       |some ⟨h⟩=>some {val:=.is (.one (.sl id 0 0 (len+m) c)),new:=[(id,[mc a (len+m) ((qo h xs).take len++b)])],wr:=[(i,[])],pre:=p++[len<=n,(len+m)*bytesOf P e<=140737488355328,len+m<=4611686018427387904]}
       |none=>none
      |none=>none
     |_,_=>none
    |some (m,b,p),.v (.slice none 0 0)=>some {val:=.is (.one (.sl id 0 0 m (aC a))),new:=[(id,[mc a m b])],pre:=p++[m*bytesOf P e<=140737488355328,m<=4611686018427387904]}
    |_,_=>none
   |none=>none
  |_,_=>none
 |_,_=>none
def Wo(P:Program)(h:Array TypeId)(j:List SV)(B:b8):Option Out:=
 match h.toList,j with
 |[t,_],[.is (.one (.sl i b off len c)),x]=>match P.underlying t with
  |some (.slice e)=>match B i,beq c (P.cellsOf e)&&(P.info? e).isSome with
   |some (d::g),true=>match yL (d::g) b with
    |some (a,⟨f,n,xs⟩,q,r)=>match F5 B f x,beq q 0&&beq c (aC f)with
     |some (m,k,p),true=>some {val:=.is (.one (.v (.int .i64 (Nat.min m len)))),wr:=[(i,a++(mc f n (xs.take off++(k.take (Nat.min m len)++xs.drop (off+Nat.min m len)))::r))],pre:=p++[off+len<=n]}
     |_,_=>none
    |none=>none
   |_,_=>none
  |_=>none
 |_,_=>none
def H8(P:Program)(id:Nat)(s d:TypeId)(h:List SV)(B:b8):Option Out:=
 match P.underlying s,P.underlying d,h with
 |some (.int _),some (.int k),[.is (.one (.v (.int _ a)))]=>gY (.int k (k.wrap a))
 |some .string,some (.slice e),[.is (.one (.v (.string x)))]=>match P.underlying e with
  |some (.int .u8)=>some {val:=.is (.one (.sl id 0 0 x.size 1)),new:=[(id,[.ints .u8 x.size (lz x)])]}
  |_=>none
 |some (.slice _),some (.slice e),[.is (.one (.sl i b f (len+1) c))]=>match beq s d,P.underlying e,B i with
  |true,some (.int .u8),some (k::g)=>some {val:=.is (.one (.sl i b f (len+1) c)),wr:=[(i,k::g)]}
  |_,_,_=>none
 |_,_,_=>none
def adb:List SV->Option Out
 |[.is (.one c)]=>match OY c with
  |true=>ret (.is (.one c))
  |false=>none
 |_=>none
def ac7(P:Program)(t:TypeId)(h:List SV):Option Out:=
 match P.underlying t,h with
 |some (.array n e),[.is (.one (.sl b a d len c))]=>match blt 0 n&&beq c (P.cellsOf e)with
  |true=>some {val:=.is (.one (.pe b a d c)),pre:=[n<=len]}
  |false=>none
 |some (.array n e),[.is (.one (.ro f g))]=>match blt 0 n&&beq (aC f) (P.cellsOf e)with
  |true=>some {val:=.is (.one (.rp f g 0 0)),pre:=[n<=g.length]}
  |false=>none
 |_,_=>none
def wY(P:Program)(t:TypeId):Bool:=(P.info? t).isSome&&(P.underlying t).isSome&&(c3 P t||beq (P.cellsOf t) 1)
def m7(P:Program)(t:TypeId):Bool:=
 match P.underlying t with
 |some (.array _ e)=>wY P e
 |some (.slice e)=>wY P e
 |some (.struct a)=>a.all λf=>wY P f.type
 |some _=>true
 |none=>false
def aoX(P:Program):Op->Bool
 |.load t _=>wY P t
 |.store t _ _=>wY P t
 |.fieldAddr t _ _ | .indexAddr t _ _ | .index t _ _ | .field t _ _ | .build t _ | .buildSlice t _ _ | .slice t _ _ _ _=>m7 P t
 |_=>true
def NZ:(a:Kd)->a6 a->Option (FuncId×List SV)
 |.fn f,_=>some (f,[])
 |.cap c e,x=>match NZ c x.1 with
  |some (f,l)=>some (f,l++[.is (.one (.rp e [x.2] 0 0))])
  |none=>none
 |_,_=>none
def Ko:List Nat->List SV
 |[]=>[]
 |i::l=>Ko l++[.is (.one (.ptr i 0))]
def A0:List SV->List Nat->Option (List Nat)
 |[],l=>some l
 |.is (.one (.ptr i 0))::a,l=>A0 a (i::l)
 |_,_=>none
def Fl(fn:Fn)(first:Array Operand)(a:List SV):Option Out:=
 match fn,first.size,A0 a []with
 |.func f,0,some []=>gY (.func (.func f) ⟨[]⟩ ⟨[]⟩)
 |.func f,0,some l=>ret (.is (.one (.clo f l)))
 |_,_,_=>none
def aeI(P:Program)(e:FuncId->Option Spec)(g:dn)(id:Nat)(c:Call)(d:List SV)(B:b8):Option Out:=
 match c.callee,d with
 |.value (.func f),_::args=>match e f with
  |some F=>F g id args B
  |none=>none
 |.value _,.is (.one (.v (.func (.func f) ⟨[]⟩ ⟨[]⟩)))::args=>match e f with
  |some F=>F g id args B
  |none=>none
 |.value _,.is (.one (.fv h x))::args=>match NZ h x with
  |some (f,l)=>match e f with
   |some F=>F g id (args++l) B
   |none=>none
  |none=>none
 |.value _,.is (.one (.clo f l))::args=>match e f with
  |some F=>F g id (args++Ko l) B
  |none=>none
 |.builtin .len,d=>ada P c.argTypes d
 |.builtin .append,d=>LH P id c.argTypes d B
 |.builtin .copy,d=>Wo P c.argTypes d B
 |.builtin .max,[.is (.one (.v (.int k a))),.is (.one (.v (.int _ b)))]=>gY (.int k (if b>a then b else a))
 |.builtin .min,[.is (.one (.v (.int k a))),.is (.one (.v (.int _ b)))]=>gY (.int k (if b<a then b else a))
 |_,_=>none
def norm(W:dn)(s:SV):SV:=
 match s with
 |.is (.one (.v (.pointer (some ⟨g,0,none⟩))))=>match W.gl g with
  |some ⟨e,x⟩=>.is (.one (.rp e [x] 0 0))
  |none=>s
 |s=>s
def Ia(P:Program)(k:FuncId->Option Spec)(l:dn)(id:Nat)(o:Op)(a:List SV)(B:b8):Option Out:=
 match aoX P o with
 |false=>none
 |true=>match o with
 |.move _=>As a
 |.assign _=>As a
 |.pick _ _ _=>Wt a
 |.alloc t=>Q3 P id t
 |.box _ _=>ac9 id a
 |.build t e=>Q4 P t (e.toList.map (·.1)) a
 |.buildSlice t n e=>AR P id t n (e.toList.map (·.1)) a
 |.load t _=>Wp P t a B
 |.store t _ _=>Q9 P t a B
 |.nilCheck _=>adb a
 |.fieldAddr t _ f=>C4 P t f a
 |.indexAddr t _ i=>C5 P t (isConst i) a
 |.index t _ i=>Q6 P t (isConst i) a
 |.field t _ f=>Q5 P t f a
 |.extract _ i=>H9 i a
 |.binOp b t _ _ _=>ac8 P b t a
 |.unOp b _ _=>xUn b a
 |.convert s d _=>H8 P id s d a B
 |.sliceToArrayPointer t _=>ac7 P t a
 |.makeSlice t _ _=>Wq P id t a
 |.slice t _ h g j=>Q8 P t h g j a B
 |.makeFunc fn first _=>Fl fn first a
 |.call c=>aeI P k l id c a B
 |_=>none
def C0:SV->SV
 |.is (.one (.rn e a))=>.is (.one (.ro e a))
 |s=>s
def Q7(P:Program)(a:BinOp)(t:TypeId)(b:List SV):Option Out:=
 match b with
 |[.is (.one c),.is (.one (.v (.slice none 0 0)))]=>match P.underlying t,a with
  |some (.slice _),.eql=>match c with
   |.rn _ _=>ret (.is (.one .F))
   |.v (.slice none 0 0)=>ret (.is (.one .T))
   |_=>none
  |some (.slice _),.neq=>match c with
   |.rn _ _=>ret (.is (.one .T))
   |.v (.slice none 0 0)=>ret (.is (.one .F))
   |_=>none
  |_,_=>none
 |_=>none
def aaU:Option Out->Option Out
 |some {val:=.is (.one (.sl i 0 0 k _)),new:=[(j,[cell])],wr:=wr,pre:=pre}=>
  match beq i j&&wr.all (λp=>p.2.isEmpty),mW cell with
  |true,some ⟨e,_,a⟩=>some {val:=.is (.one (.ro e a)),new:=[],wr:=wr,pre:=(a.length=k)::pre}
  |_,_=>none
 |_=>none
def ahd(a:FuncId->Option Spec)(c:Call):Bool:=match c.callee,c.argTypes.toList with
 |.builtin .append,t::_=>(a (1000000+t)).isSome
 |_,_=>false
def isStr(P:Program)(t:TypeId):Bool:=match P.underlying t with
 |some .string=>true
 |_=>false
def abd(P:Program)(t:TypeId):Bool:=match P.underlying t with
 |some (.int .u8)=>true
 |_=>false
def Wr(P:Program)(o:Op)(a:List SV)(B:b8):Option Out:=
 match o with
 |.binOp b t _ _ _=>match a with
  |[.is (.one (.v (.string x))),.is (.one (.v (.string y)))]=>match isStr P t,b with
   |true,.eql=>gY (.bool (decide (x=y)))
   |true,.neq=>gY (.bool (!decide (x=y)))
   |_,_=>none
  |_=>none
 |.convert s d _=>match P.underlying s,isStr P d,a with
  |some (.slice e),true,[x]=>match abd P e,F5 B (.int .u8) x with
   |true,some (_,c,p)=>some {val:=.is (.one (.v (.string (strOfNums c)))),pre:=p}
   |_,_=>none
  |_,_,_=>none
 |_=>none
def adf(P:Program)(d:FuncId->Option Spec)(a:dn)(id:Nat)(o:Op)(b:List SV)(B:b8):Option Out:=
 match o with
 |.move _=>As b
 |.assign _=>As b
 |.call c=>match ahd d c with
  |true=>aaU (Ia P d a id (.call c) (b.map λs=>C0 (norm a s)) B)
  |false=>Ia P d a id (.call c) (b.map λs=>C0 (norm a s)) B
 |.binOp e t x y f=>match Q7 P e t b with
  |some out=>some out
  |none=>Ia P d a id (.binOp e t x y f) (b.map λs=>C0 (norm a s)) B
 |o=>Ia P d a id o (b.map λs=>C0 (norm a s)) B
def xop(P:Program)(c:FuncId->Option Spec)(b:dn)(id:Nat)(o:Op)(a:List SV)(B:b8):Option Out:=
 match Wr P o (a.map λs=>C0 (norm b s)) B with
 |some out=>some out
 |none=>adf P c b id o a B
end Go.Eng
abbrev e5:=List (Nat×List Go.Eng.ax)
abbrev g9:=List (Nat×Go.Eng.SV)
abbrev cb:=List Go.Eng.ax
abbrev dq:=List Go.Eng.SV
abbrev cn:=@Go.Result.andThen_ok
abbrev cf:=@Go.Sem.run_bind
abbrev c1:=@Go.Sem.run_pure
namespace Go.Eng
abbrev aA:=Act->World->Prop
theorem ct{ρ:aI}{c:ax}{b:bn}(h:c.rel ρ b):aH ρ [c] b:=⟨b,[],(bF _).symm,h,rfl⟩
theorem dP{ρ:aI}{c:ax}{b:bn}(h:aH ρ [c] b):c.rel ρ b:=by obtain⟨g,j,e,f,d⟩:=h;subst d;simp_all
theorem mr{ρ:aI}{c:ax}{s:Ut}{d:bn}(h:mW c=some s)(b:c.rel ρ d):s.2.2.length=s.2.1/\eQ (Rd ρ.M s.1) s.2.2 d/\c.size=s.2.1*aC s.1:=by cases c<;>simp[mW]at h;subst h;exact⟨b.1,xC.2 b.2,by simp[ax.size,aC]⟩;subst h;exact⟨b.1,b.2,rfl⟩
theorem ib{ρ:aI}{e:Kd}{n:Nat}{xs:List (a6 e)}{b:bn}(c:xs.length=n)(h:eQ (Rd ρ.M e) xs b):(mc e n xs).rel ρ b:=by
 cases e with
 |int k=>exact⟨c,xC.1 h⟩
 |_=>trivial
theorem Vn{e:Kd}{n:Nat}{b:List (a6 e)}:(mc e n b).size=n*aC e:=by cases e<;>simp[mc,ax.size,aC]
theorem jL{ρ:aI}:∀{e:Kd}{x:a6 e}{d:bn},Rd ρ.M e x d->aH ρ (cellsOf e x) d:=by
 intro e;induction e with
 |int k=>intro x d h;exact ct ⟨h,rfl⟩
 |bool=>intro x d h;exact ct ⟨h,rfl⟩
 |str=>intro x d h;exact ct ⟨h,rfl⟩
 |fp=>intro x d h;exact ct ⟨rfl,ru h⟩
 |fr=>intro x d h;exact ct ⟨rfl,ru h⟩
 |pair a b l m=>intro x d⟨s,t,e,g,j⟩;subst e;exact iQ (l g) (m j)
 |arr n e p=>intro x d⟨g,j⟩;exact ct (ib g j)
 |sl e p=>intro x d h;exact ct h
 |ptr e p=>intro x d⟨b,o,g,j⟩;exact ct ⟨b,o,j,az,by rw[g];simp⟩
 |fn f=>intro x d h;exact ct ⟨h,rfl⟩
 |cap c e q r=>intro x d h;exact ct ⟨h,cK h⟩
 |pq=>intro x d h;exact ct ⟨h,cK h⟩
 |mp=>intro x d h;exact ct ⟨h,cK h⟩
theorem Ni{ρ:aI}:∀{e:Kd},zk e=true->aH ρ (zeroCells e) (kU e):=by
 intro e;induction e with
 |int k=>intro _;exact ct ⟨rfl,rfl⟩
 |bool=>intro _;exact ct rfl
 |str=>intro _;exact ct ⟨rfl,rfl⟩
 |fp=>intro h;exact ct ⟨rfl,ru (AV h)⟩
 |fr=>intro h;exact ct ⟨rfl,ru (AV h)⟩
 |pair a b d g=>intro h;simp[zk]at h;exact iQ (d h.1) (g h.2)
 |arr n e i=>intro h;exact ct (ib pk (AV h).2)
 |sl e i=>intro _;exact ct ⟨rfl,rfl⟩
 |ptr e i=>intro h;simp[zk]at h
 |fn f=>intro h;simp[zk]at h
 |cap c e j l=>intro h;simp[zk]at h
 |pq=>intro _;exact ct ⟨rfl,rfl⟩
 |mp=>intro h;simp[zk]at h
theorem hX{m n:Nat}(h:blt m n=true):m<n:=by simp_all
theorem zA{m n:Nat}(h:blt m n=false):n<=m:=by
 rcases cG m n with h'|h'
 ·have:blt m n=true:=by simpa[sW]using h'
  simp_all
 exact h'
theorem ca{m n:Nat}(h:beq m n=true):m=n:=ji h
theorem uu{ρ:aI}:∀(cs:cb)(n:Nat)(a b:cb)(l:bn),ka cs n=some (a,b)->aH ρ cs l->aH ρ a (l.take n)/\aH ρ b (l.drop n)/\n<=l.length:=by
 intro cs;induction cs with
 |nil=>
  intro n a b l h j;cases n with
  |zero=>obtain⟨rfl,rfl⟩:=h;exact⟨by simp[aH],by simpa using j,aY _⟩
  |succ n=>simp[ka]at h
 |cons c cs A=>
  intro n a b l h j;cases n with
  |zero=>obtain⟨rfl,rfl⟩:=h;exact⟨by simp[aH],by simpa using j,aY _⟩
  |succ n=>
   obtain⟨z,g,e,i,s⟩:=j;subst e;have d:=ax.CF i;simp[ka]at h;split at h
   ·rename_i e m F t;obtain⟨g1,g2,r⟩:=mr t i;simp only at g1 g2 r;rw[r]at d;split at h
    ·rename_i f;have f:=hX f;split at h
     ·rename_i u;have u:=ca u;obtain⟨rfl,rfl⟩:=h;obtain⟨k,o⟩:=jn (λ_ _=>cK) ((n+1)/aC e) g2;rw[u]at k o;have D:(n+1)/aC e<=m:=by
       rcases cG m ((n+1)/aC e)with h'|h';have:=gr (aC e) (wi h');omega;exact h'
      refine⟨ct (ib (by simp;omega) ?_),⟨z.drop (n+1),g,?_,ib (by simp;omega) o,s⟩,by simp;omega⟩;rw[mD aa];exact k;rw[qN aa]
     simp at h
    rename_i f;have f:=zA f;split at h;rename_i p q y;simp at h;obtain⟨rfl,rfl⟩:=h;obtain⟨k,o,E⟩:=A _ p q g y s;refine⟨⟨z,g.take (n+1-m*aC e),?_,i,k⟩,?_,?_⟩;rw[List.take_append,d,cA aa];rw[qH,d,pg aa];simpa using o;simp;omega;simp at h
   ·rename_i t;have C:c.size=1:=by cases c<;>simp[mW]at t<;>rfl
    split at h
    ·rename_i p q y;simp at h;obtain⟨rfl,rfl⟩:=h;obtain⟨g1,g2,r⟩:=A n p q g y s;rw[C]at d;match z,d with
     |[x],_=>exact⟨⟨[x],g.take n,az,i,g1⟩,by simpa using g2,by simp;omega⟩
    simp at h
theorem yP{ρ:aI}{cs m:cb}{b n:Nat}{l:bn}(h:nZ cs b n=some m)(e:aH ρ cs l):
  aH ρ m ((l.drop b).take n)/\b+n<=l.length:=by
 unfold nZ at h;cases d:ka cs b with
 |none=>simp_all
 |some p=>
  obtain⟨a,r⟩:=p;rw[d]at h;simp only at h;cases c:ka r n with
  |none=>simp_all
  |some k=>obtain⟨j,o⟩:=k;rw[c]at h;simp at h;subst h;obtain⟨_,g2,q⟩:=uu cs b a r l d e;obtain⟨f,_,g⟩:=uu r n j o _ c g2;refine⟨f,?_⟩;simp at g;omega
theorem HM{ρ:aI}{cs c d:cb}{b:Nat}{l u:bn}(h:HK cs b c=some d)(k:aH ρ cs l)(j:aH ρ c u):
  aH ρ d (l.take b++(u++l.drop (b+u.length)))/\b+u.length<=l.length:=by
 unfold HK at h;cases g:ka cs b with
 |none=>simp_all
 |some p=>
  obtain⟨a,r⟩:=p;rw[g]at h;simp only at h;cases e:ka r (dk c)with
  |none=>simp_all
  |some o=>
   obtain⟨n,q⟩:=o;rw[e]at h;simp at h;subst h;obtain⟨g1,g2,s⟩:=uu cs b a r l g k;obtain⟨t,x,m⟩:=uu r _ n q _ e g2;have f:=iR j;refine⟨iQ g1 (iQ j ?_),?_⟩;·simp_all
   simp at m;omega
theorem yM{ρ:aI}:∀{cs:cb}{b:Nat}{a r:cb}{s:Ut}{q:Nat}{l:bn},yL cs b=some (a,s,q,r)->aH ρ cs l ->
  ∃d m f,l=d++(m++f)/\d.length+q=b/\aH ρ a d/\aH ρ r f/\s.2.2.length=s.2.1/\eQ (Rd ρ.M s.1) s.2.2 m:=by
 intro cs;induction cs with
 |nil=>intro b a r s q l h;simp[yL]at h
 |cons c cs A=>
  intro b a r s q l h E;obtain⟨g,C,e,i,j⟩:=E;subst e;have z:=ax.CF i;simp[yL]at h;split at h;rename_i N k;obtain⟨g1,g2,K⟩:=mr k i;split at h;obtain⟨rfl,rfl,rfl,rfl⟩:=h;exact⟨[],g,C,rfl,az,rfl,j,g1,g2⟩;split at h;obtain⟨rfl,rfl,rfl,rfl⟩:=h;exact⟨[],g,C,rfl,az,rfl,j,g1,g2⟩;rename_i y;have y:=zA y;split at h;rename_i D x G H n;obtain⟨rfl,rfl,rfl,rfl⟩:=h;obtain⟨d,m,f,e,F,o,p,t,u⟩:=A n j;refine⟨g++d,m,f,by rw[e];simp,?_,⟨g,d,rfl,i,o⟩,p,t,u⟩;simp;omega;simp at h
  ·rename_i k;have L:c.size=1:=by cases c<;>simp[mW]at k<;>rfl
   split at h;simp at h;rename_i I ;split at h;rename_i D x G H n;obtain⟨rfl,rfl,rfl,rfl⟩:=h;obtain⟨d,m,f,e,F,o,p,t,u⟩:=A n j;refine⟨g++d,m,f,by rw[e];simp,?_,⟨g,d,rfl,i,o⟩,p,t,u⟩;simp;omega;simp at h
theorem zC{a:Kd}(b:List (a6 a)):qo rfl b=b:=rfl
theorem LS{a:Kd}(x:a6 a):Is rfl x=x:=rfl
theorem XP{ρ:aI}{e:Kd}{cs r:cb}{x:a6 e}{l:bn}(h:vF e cs=some (x,r))(s:aH ρ cs l):∃f g,l=f++g/\Rd ρ.M e x f/\aH ρ r g:=by
 cases cs with
 |nil=>simp[vF]at h
 |cons c cs=>
  obtain⟨A,b,k,o,d⟩:=s;subst k;simp[vF]at h;split at h
  ·rename_i C n j p;obtain⟨g1,g2,D⟩:=mr p o;split at h
   ·rename_i q _;subst q;split at h;simp at h
    ·obtain⟨rfl,rfl⟩:=h;match j,g1 with
     |[y],_=>exact⟨A,b,rfl,qb g2,d⟩
    ·obtain⟨rfl,rfl⟩:=h;match j,g1 with
     |y::E,g1=>obtain⟨z,i,m,t,u⟩:=g2;subst m;exact⟨z,i++b,az,t,⟨i,b,rfl,ib (by simpa using g1) u,d⟩⟩
   simp at h
  simp at h
theorem ab3{ρ:aI}{e:Kd}{n:Nat}{cs r:cb}{g:List (a6 e)}{l:bn}(h:VU e n cs=some (g,r))(u:aH ρ cs l):∃k m,l=k++m/\g.length=n/\eQ (Rd ρ.M e) g k/\aH ρ r m:=by
 cases cs with
 |nil=>simp[VU]at h
 |cons c cs=>obtain⟨d,f,o,q,j⟩:=u;subst o;simp[VU]at h;split at h;rename_i i z A s;obtain⟨g1,g2,p⟩:=mr s q;simp only at g1 g2 p;split at h;rename_i t _;subst t;split at h;rename_i b;have b:=ca b;simp[zC]at h;obtain⟨rfl,rfl⟩:=h;exact⟨d,f,rfl,aa,g2,j⟩;split at h;rename_i b;have b:=hX b;simp[zC]at h;obtain⟨rfl,rfl⟩:=h;obtain⟨x,y⟩:=jn (λ_ _=>cK) n g2;exact⟨d.take (n*aC i),d.drop (n*aC i)++f,by rw[<-cZ,ff],by simp;omega,x,⟨_,f,rfl,ib (by simp;omega) y,j⟩⟩;simp at h;simp at h;simp at h
theorem yR{ρ:aI}{k:IntKind}:∀{cs:cb}{n:Nat}{p:LI}{r:cb}{l:bn},rm k cs n=some (p,r)->aH ρ cs l ->
  ∃i,l=p.map (Value.int k)++i/\p.length=n/\aH ρ r i:=by
 intro cs;induction cs with
 |nil=>
  intro n p r l h s;cases n with
  |zero=>obtain⟨rfl,rfl⟩:=h;exact⟨l,rfl,rfl,s⟩
  |succ n=>simp[rm]at h
 |cons c cs D=>
  intro n p r l h s;cases n with
  |zero=>obtain⟨rfl,rfl⟩:=h;exact⟨l,rfl,rfl,s⟩
  |succ m=>
   obtain⟨L,t,e,q,j⟩:=s;subst e;unfold rm at h;split at h;rename_i F;cases F;simp at h
   ·rename_i E K C A g d f;obtain⟨rfl,rfl⟩:=d;obtain rfl:m=g:=by simpa using f
    obtain⟨I,rfl⟩:=q;split at h
    ·rename_i b;simp at b;subst b;split at h;·simp_all
     split at h;rename_i o;have o:=hX o;obtain⟨rfl,rfl⟩:=h;refine⟨(C.drop (m+1)).map (Value.int E)++t,?_,by simp;omega,⟨_,t,rfl,⟨by simp;omega,rfl⟩,j⟩⟩;rw[<-cZ,<-cE,ff];rename_i o;have o:=zA o;split at h;rename_i H G u;obtain⟨rfl,rfl⟩:=h;obtain⟨i,e,x,z⟩:=D u j;exact⟨i,by rw[e];simp,by simp[x];omega,z⟩;simp at h
    simp at h
   ·rename_i E y A g d f;obtain⟨rfl,rfl⟩:=d;obtain rfl:m=g:=by simpa using f
    obtain⟨rfl,_⟩:=q;split at h;rename_i H G b u;simp at b;subst b;obtain⟨rfl,rfl⟩:=h;obtain⟨i,e,x,z⟩:=D u j;exact⟨i,by rw[e];simp,by simp[x],z⟩;simp at h
   ·rename_i C A g d f;obtain⟨rfl,rfl⟩:=d;obtain rfl:m=g:=by simpa using f
    split at h;rename_i b;simp only[bD,mF]at b;obtain⟨rfl,b⟩:=b;have b:=ca b;obtain⟨rfl,rfl⟩:=h;obtain⟨g1,g2⟩:=q;obtain⟨y,rfl⟩:=List.length_eq_one_iff.1 g1;have this:=qb g2;rw[this,zg];exact⟨t,rfl,by rw[b];exact tN y,j⟩;simp at h
   ·rename_i C A g d f;obtain⟨rfl,rfl⟩:=d;obtain rfl:m=g:=by simpa using f
    split at h;rename_i b;simp only[bD,mF]at b;obtain⟨rfl,b⟩:=b;have b:=ca b;obtain⟨rfl,rfl⟩:=h;obtain⟨g1,g2⟩:=q;obtain⟨y,rfl⟩:=List.length_eq_one_iff.1 g1;have this:=qb g2;rw[this,zg];exact⟨t,rfl,by rw[b];exact tN y,j⟩;simp at h
   simp at h
theorem Ra{ρ:aI}{e:Kd}{n:Nat}{cs r:cb}{c:List (a6 e)}{l:bn}(h:Kj e n cs=some (c,r))(i:aH ρ cs l):∃d b,l=d++b/\c.length=n/\eQ (Rd ρ.M e) c d/\aH ρ r b:=by
 cases e with
 |int k=>obtain⟨b,e,f,g⟩:=yR h i;exact⟨_,b,e,f,xC.2 rfl,g⟩
 |_=>simp[Kj]at h
theorem PV{k:Type}{ρ:aI}{R:k->bn->Prop}{f:cb->Option (k×gi×cb)}(y:∀cs x c r l,f cs=some (x,c,r)->(∀p∈c,p)->aH ρ cs l->∃b d,l=b++d/\R x b/\aH ρ r d):
  ∀(n:Nat)(cs:cb)(e:List k)(c:gi)(r:cb)(l:bn),pN f n cs=some (e,c,r)->(∀p∈c,p)->aH ρ cs l->∃b d,l=b++d/\e.length=n/\eQ R e b/\aH ρ r d:=by
 intro n;induction n with
 |zero=>intro cs e c r l h g j;obtain⟨rfl,rfl,rfl⟩:=h;exact⟨[],l,rfl,rfl,rfl,j⟩
 |succ n z=>intro cs e c r l h g j;simp[pN]at h;split at h;rename_i x p I t;split at h;rename_i L H K u;obtain⟨rfl,rfl,rfl⟩:=h;obtain⟨b,d,o,A,C⟩:=y _ _ _ _ _ t (λq i=>g q (jN _ i)) j;obtain⟨m,G,s,D,E,F⟩:=z _ _ _ _ _ u (λq i=>g q (kH _ i)) C;exact⟨b++m,G,by rw[o,s];simp,by simp[D],⟨b,m,rfl,A,E⟩,F⟩;simp at h;simp at h
structure Sees(B:b8)(ρ:aI)(M:Mem):Prop where
 mem:Mem.le ρ.M M
 blk:∀i cs b,B i=some cs->cs≠[]->ρ i=some b->∃l r,aH ρ cs l/\(l++r≠[]->M b=some (l++r))/\(l++r).length=ρ.n i
theorem rk(ρ:aI):Sees tg ρ ρ.M:=⟨Mem.le_refl _,λ_ _ _ h=>by trivial⟩
theorem Ah{ρ:aI}{e:Kd}{cs:cb}{b d len c:Nat}{k:List (a6 e)}{o:gi}{l:bn}(h:xw e cs b d len c=some (k,o))(C:∀p∈o,p)(E:aH ρ cs l):
  k.length=len/\c=aC e/\b+d*c+len*c<=l.length/\eQ (Rd ρ.M e) k ((l.drop (b+d*c)).take (len*c)):=by
 unfold xw at h;split at h
 ·rename_i a f n Q q r F;split at h
  ·rename_i _ y z g;subst y;simp only[bD]at g;have D:=ca g.1;have x:=ca g.2;subst D x;simp[zC]at h;obtain⟨rfl,rfl⟩:=h;have A:d+len<=n:=C _ az;obtain⟨H,m,O,e,K,L,N,G,j⟩:=yM F E;simp only at G j;have i:=iu (λ_ _=>cK) j;have s:=(jn (λ_ _=>cK) d j).2;have t:=(jn (λ_ _=>cK) len s).1;have u:H.length=b:=aa;have I:d*aC f+len*aC f<=m.length:=by rw[i,<-eN];exact gr _ aa
   refine⟨by simp;omega,rfl,by rw[e];simp;omega,?_⟩;have:(l.drop (b+d*aC f)).take (len*aC f)=(m.drop (d*aC f)).take (len*aC f):=by rw[e,qH,pg aa,gK,u,show b+d*aC f-b=d*aC f by omega,qN aa,mD (by simp;omega)]
   rw[this];exact t
  simp at h
 simp at h
theorem Ag{n:Type}{ρ:aI}{R:n->bn->Prop}{f:cb->Option (n×gi×cb)}{w:Nat}(D:∀x s,R x s->s.length=w)(t:∀cs x g r l,f cs=some (x,g,r)->(∀p∈g,p)->aH ρ cs l->∃j k,l=j++k/\R x j/\aH ρ r k){cs:cb} {b d len c:Nat} {m:List n} {g:gi} {l:bn} (h:xv f w cs b d len c=some (m,g)) (y:∀p∈g,p) (A:aH ρ cs l):
  m.length=len/\c=w/\b+d*c+len*c<=l.length/\eQ R m ((l.drop (b+d*c)).take (len*c)):=by
 unfold xv at h;split at h;rename_i a r i C;have i:=ca i;subst i;split at h;rename_i I G H z;obtain⟨rfl,rfl⟩:=h;obtain⟨_,g2,E⟩:=uu _ _ _ _ _ C A;obtain⟨j,k,e,o,q,F⟩:=PV t _ _ _ _ _ _ z y g2;have u:=iu D q;rw[o]at u;refine⟨o,rfl,?_,?_⟩;have:=congrArg length e;simp at this;omega;rw[e,mD aa,cA aa];exact q;simp at h;simp at h
theorem Lf{ρ:aI}{i e f len c:Nat}{g:bn}(h:(ax.sl i e f len c).rel ρ g):(len=0/\g=[.slice none 0 0])\/
  ∃b o d,ρ i=some b/\len<=d/\(o=e+f*c\/d=0)/\o+d*c<=ρ.n i/\g=[.slice (some ⟨b,o,none⟩) len d]:=h
theorem aeo{ρ:aI}{M:Mem}{e:Kd}{i d f len c:Nat}{p:bn}{k:List (a6 e)}{cs:cb}{B:b8}(u:Sees B ρ M)(s:B i=some cs)(n:cs≠[])(h:(ax.sl i d f len c).rel ρ p)(C:∀l,aH ρ cs l->k.length=len/\c=aC e/\d+f*c+len*c<=l.length/\eQ (Rd M e) k ((l.drop (d+f*c)).take (len*c))) (j:k.length=len):Rd M (.sl e) k p:=by
 rcases Lf h with ⟨q,m⟩|⟨b,o,g,x,y,ho,G,m⟩;subst q;exact .inl ⟨eL j,none,0,m,λ_=>rfl⟩
 ·obtain⟨l,r,A,t,z⟩:=u.blk i cs b s n x;obtain⟨D,E,H,F⟩:=C l A;subst D;rcases sK k.length with hz|hz;exact .inl ⟨eL hz,_,g,by rw[m,hz],λh=>by cases h⟩
  ·have ho:o=d+f*c:=by
    rcases ho with ho|ho;exact ho;omega
   subst ho E;refine .inr ⟨b,_,g,m,y,l++r,t,by simp;omega,?_⟩;rw[qN aa,mD (by simp;omega)];exact F
theorem lT{B:b8}{ρ:aI}{M:Mem}(I:Sees B ρ M):∀(e:Kd)(cs:cb)(x:a6 e)(E:gi)(r:cb)(l:bn),iB B e cs=some (x,E,r)->(∀p∈E,p)->aH ρ cs l ->
  ∃G D,l=G++D/\Rd M e x G/\aH ρ r D:=by
 intro e;have hd:∀(e:Kd)(cs:cb)(x:a6 e)(r:cb)(l:bn),vF e cs=some (x,r)->aH ρ cs l->∃G D,l=G++D/\Rd M e x G/\aH ρ r D:=by intro e cs x r l h m;obtain⟨G,D,u,t,s⟩:=XP h m;exact⟨G,D,u,dT I.mem t,s⟩
 have hh:∀(e:Kd)(cs:cb)(x:a6 e)(E:gi)(r:cb)(l:bn),IP e cs=some (x,E,r)->aH ρ cs l->∃G D,l=G++D/\Rd M e x G/\aH ρ r D:=by intro e cs x E r l h m;unfold IP at h;split at h;rename_i y W j;simp at h;obtain⟨rfl,_,rfl⟩:=h;exact hd e cs _ _ l j m;simp at h
 induction e with
 |int k=>intro cs x E r l h F m;unfold iB at h;split at h;rename_i k' y W;split at h;rename_i hk;simp at hk;subst hk;simp at h;obtain⟨rfl,_,rfl⟩:=h;obtain⟨A,C,e,⟨t,_⟩,s⟩:=m;exact⟨A,C,e,t,s⟩;simp at h;exact hh (.int k) _ _ E _ _ h m
 |bool=>intro cs x E r l h F m;unfold iB at h;split at h;simp at h;obtain⟨rfl,_,rfl⟩:=h;obtain⟨A,C,e,⟨t,_⟩,s⟩:=m;exact⟨A,C,e,t,s⟩;simp at h;obtain⟨rfl,_,rfl⟩:=h;obtain⟨A,C,e,t,s⟩:=m;exact⟨A,C,e,t,s⟩;simp at h;obtain⟨rfl,_,rfl⟩:=h;obtain⟨A,C,e,t,s⟩:=m;exact⟨A,C,e,t,s⟩;exact hh .bool _ _ E _ _ h m
 |str=>intro cs x E r l h F m;unfold iB at h;split at h;simp at h;obtain⟨rfl,_,rfl⟩:=h;obtain⟨A,C,e,⟨t,_⟩,s⟩:=m;exact⟨A,C,e,t,s⟩;exact hh .str _ _ E _ _ h m
 |fp=>intro cs x E r l h F m;unfold iB at h;split at h;rename_i j;simp at h;obtain⟨rfl,_,rfl⟩:=h;exact hd _ _ _ _ _ j m;split at h;rename_i ws W j;simp at h;obtain⟨rfl,rfl,rfl⟩:=h;obtain⟨D,e,t,s⟩:=yR j m;have hc:Canon Mp ws:=F _ az;exact⟨_,D,e,by show _=_;rw[Sc hc],s⟩;simp at h
 |fr=>intro cs x E r l h F m;unfold iB at h;split at h;rename_i j;simp at h;obtain⟨rfl,_,rfl⟩:=h;exact hd _ _ _ _ _ j m;split at h;rename_i ws W j;simp at h;obtain⟨rfl,rfl,rfl⟩:=h;obtain⟨D,e,t,s⟩:=yR j m;have hc:Canon Mr ws:=F _ az;exact⟨_,D,e,by show _=_;rw[Sc hc],s⟩;simp at h
 |pair a b x2 x3=>intro cs x E r l h F m;unfold iB at h;split at h;rename_i j;simp at h;obtain⟨rfl,_,rfl⟩:=h;exact hd _ _ _ _ _ j m;split at h;rename_i y p r1 t;split at h;rename_i z q r2 s;simp at h;obtain⟨rfl,rfl,rfl⟩:=h;obtain⟨G,D,u,L,N⟩:=x2 _ _ _ _ _ t (λq j=>F q (jN _ j)) m;obtain⟨l3,l4,Z,H,R⟩:=x3 _ _ _ _ _ s (λq j=>F q (kH _ j)) N;exact⟨G++l3,l4,by rw[u,Z];simp,⟨G,l3,rfl,L,H⟩,R⟩;simp at h;simp at h
 |arr n e ih=>intro cs x E r l h F m;unfold iB at h;split at h;rename_i j;simp at h;obtain⟨rfl,_,rfl⟩:=h;exact hd _ _ _ _ _ j m;split at h;rename_i j;simp at h;obtain⟨rfl,_,rfl⟩:=h;obtain⟨G,D,u,L,N,H⟩:=ab3 j m;exact⟨G,D,u,⟨L,fe (λ_ _=>dT I.mem) N⟩,H⟩;split at h;rename_i j;simp at h;obtain⟨rfl,_,rfl⟩:=h;obtain⟨G,D,u,L,N,H⟩:=Ra j m;exact⟨G,D,u,⟨L,fe (λ_ _=>dT I.mem) N⟩,H⟩;obtain⟨G,D,u,L,N,H⟩:=PV (λcs x E r l=>ih cs x E r l) _ _ _ _ _ _ h F m;exact⟨G,D,u,⟨L,N⟩,H⟩
 |sl e ih=>
  intro cs x E r l h F m;unfold iB at h;split at h;rename_i j;simp at h;obtain⟨rfl,_,rfl⟩:=h;exact hd _ _ _ _ _ j m
  ·split at h;rename_i O Y W _;split at h;rename_i he _;subst he;simp[zC]at h;obtain⟨rfl,_,rfl⟩:=h;obtain⟨A,C,u,t,s⟩:=m;exact⟨A,C,u,dT I.mem t,s⟩;simp at h;simp at h;obtain⟨rfl,_,rfl⟩:=h;obtain⟨A,C,u,⟨t,_⟩,s⟩:=m;exact⟨A,C,u,.inl ⟨rfl,none,0,t,λ_=>rfl⟩,s⟩
   ·rename_i id x6 x8 len c W _;obtain⟨A,C,u,t,s⟩:=m;split at h
    ·rename_i d U X;split at h
     ·rename_i Y p j;simp at h;obtain⟨rfl,rfl,rfl⟩:=h;refine⟨A,C,u,?_,s⟩;have hx:∀l,aH ρ (d::U) l->_:=λl V=>Ah j F V;by_cases Q:∃l,aH ρ (d::U) l;obtain⟨T,K⟩:=Q;refine aeo I X az t (λl V=>?_) (hx T K).1;obtain⟨L,N,H,R⟩:=hx l V;exact⟨L,N,H,fe (λ_ _=>dT I.mem) R⟩
      ·rcases Lf t with ⟨h0,e0⟩|⟨b,o,cap,hb,V,ho,hn,e0⟩
       ·subst h0;have:Y=[]:=by
         unfold xw at j;split at j;split at j;simp only[cd,cp]at j;rw[<-j.1];simp;simp at j;simp at j
        exact .inl ⟨this,none,0,e0,λ_=>rfl⟩
       obtain⟨T,r0,K,_⟩:=I.blk id (d::U) b X az hb;exact(Q ⟨T,K⟩).elim
     ·split at h
      ·rename_i Y p j;simp at h;obtain⟨rfl,rfl,rfl⟩:=h;refine⟨A,C,u,?_,s⟩;have hx:∀l,aH ρ (d::U) l->_:=λl V=>Ag (λ_ _=>cK) (λcs x E r l=>ih cs x E r l) j F V;by_cases Q:∃l,aH ρ (d::U) l;obtain⟨T,K⟩:=Q;exact aeo I X az t (λl V=>hx l V) (hx T K).1
       ·rcases Lf t with ⟨h0,e0⟩|⟨b,o,cap,hb,V,ho,hn,e0⟩
        ·subst h0;have:Y=[]:=by
          unfold xv at j;split at j;split at j;rename_i x0;simp[pN]at j x0;rw[<-j.1,<-x0.1];simp at j;simp at j
         exact .inl ⟨this,none,0,e0,λ_=>rfl⟩
        obtain⟨T,r0,K,_⟩:=I.blk id (d::U) b X az hb;exact(Q ⟨T,K⟩).elim
      simp at h
    simp at h
   simp at h
 |ptr e ih=>
  intro cs x E r l h F m;unfold iB at h;split at h
  ·rename_i O Y i W ;split at h
   ·rename_i he _;subst he;simp[LS]at h;obtain⟨rfl,_,rfl⟩:=h;obtain⟨A,C,u,⟨b,o,t,s,h3⟩,h4⟩:=m;refine⟨A,C,u,⟨b,o+i*aC O,by rw[h3];rfl,?_⟩,h4⟩;obtain⟨l',L,N,H⟩:=t;have x7:i*aC O+aC O<=Y.length*aC O:=by
     have:=gr (aC O) (show i+1<=Y.length from s);rw[eN,lj]at this;exact this
    refine⟨l',λhn=>I.mem _ _ (L hn),by simp;omega,ru (dT I.mem ?_)⟩;have:=AU (λ_ _=>cK) H s (gn O);rw[oW,iI,nP,show min (aC O) (Y.length*aC O-i*aC O)=aC O by omega]at this;simpa using this
   simp at h
  rename_i id W ;split at h;rename_i d U X;split at h;rename_i y p j;simp at h;obtain⟨rfl,rfl,rfl⟩:=h;obtain⟨A,C,u,⟨b,hb,t⟩,s⟩:=m;obtain⟨T,r0,L,N,_⟩:=I.blk id (d::U) b X az hb;obtain⟨G,D,Z,H,R⟩:=ih _ _ _ _ _ j F L;have R:D=[]:=R;subst R;rw[bF]at Z;subst Z;refine⟨A,C,u,⟨b,0,t,T++r0,N,by simp[cK H],ru ?_⟩,s⟩;rw[jU,DG,lj,<-cK H,List.take_left];exact H;simp at h;simp at h;simp at h
 |fn f=>intro cs x E r l h F m;unfold iB at h;split at h;split at h;rename_i hg;simp at hg;subst hg;simp at h;obtain⟨_,_,rfl⟩:=h;obtain⟨A,C,u,⟨t,_⟩,s⟩:=m;exact⟨A,C,u,t,s⟩;simp at h;split at h;rename_i hg;simp at hg;subst hg;simp at h;obtain⟨_,_,rfl⟩:=h;obtain⟨A,C,u,⟨us,h0,t⟩,s⟩:=m;have h0:us=[]:=h0;subst h0;exact⟨A,C,u,t,s⟩;simp at h;simp at h
 |cap c e x4 x5=>intro cs x E r l h F m;unfold iB at h;split at h;rename_i O y W;split at h;rename_i he _;subst he;simp[LS]at h;obtain⟨rfl,_,rfl⟩:=h;obtain⟨A,C,u,t,s⟩:=m;exact⟨A,C,u,dT I.mem t.1,s⟩;simp at h;rename_i g i l' W;split at h;rename_i d U X;split at h;rename_i y q j;split at h;rename_i x' p hx;simp at h;obtain⟨rfl,rfl,rfl⟩:=h;obtain⟨A,C,u,⟨us,⟨b,vs,hb,x1,eu⟩,t⟩,s⟩:=m;obtain⟨T,r0,L,N,_⟩:=I.blk i (d::U) b X az hb;obtain⟨G,D,Z,H,R⟩:=x5 _ _ _ _ _ j (λq j=>F q (kH _ j)) L;have R:D=[]:=R;subst R;rw[bF]at Z;subst Z;obtain⟨l3,l4,e3,k5,k6⟩:=x4 _ _ _ _ _ hx (λq j=>F q (jN _ j)) (ct ⟨vs,x1,rfl⟩);have k6:l4=[]:=k6;subst k6;rw[bF]at e3;subst e3 eu;refine⟨A,C,u,⟨.func g,vs,b,0,t,k5,T++r0,N,by simp[cK H],ru ?_⟩,s⟩;rw[jU,DG,lj,<-cK H,List.take_left];exact H;simp at h;simp at h;simp at h;simp at h
 |pq=>intro cs x E r l h F m;unfold iB at h;split at h;simp at h;obtain⟨rfl,_,rfl⟩:=h;obtain⟨A,C,u,t,s⟩:=m;exact⟨A,C,u,t.1,s⟩;simp at h;obtain⟨rfl,_,rfl⟩:=h;obtain⟨A,C,u,⟨t,_⟩,s⟩:=m;exact⟨A,C,u,t,s⟩;simp at h;obtain⟨rfl,_,rfl⟩:=h;obtain⟨A,C,u,⟨t,_⟩,s⟩:=m;exact⟨A,C,u,t,s⟩;simp at h
 |mp=>intro cs x E r l h F m;unfold iB at h;split at h;simp at h;obtain⟨_,_,rfl⟩:=h;obtain⟨A,C,u,t,s⟩:=m;exact⟨A,C,u,dT I.mem t.1,s⟩;simp at h
theorem qh{ρ:aI}{f:Bool}{cs:cb}{x:TV}{l:bn}(h:rE f cs=some x)(o:aH ρ cs l)(r:f=false->l.length=1):
  (f=true->x.rel ρ (.agg ⟨l⟩))/\(f=false->∃v,l=[v]/\x.rel ρ v):=by
 cases f with
 |true=>simp[rE]at h;subst h;exact⟨λ_=>⟨l,rfl,o⟩,(λh=>nomatch h)⟩
 |false=>
  refine⟨(λh=>nomatch h),λ_=>?_⟩;have q:=r rfl;match l,q with
  |[v],_=>
   refine⟨v,rfl,?_⟩;simp[rE]at h;split at h
   ·rename_i c;have m:=dP o;split at h
    ·rename_i e n j g;obtain⟨g1,g2,s⟩:=mr g m;split at h
     ·rename_i p d;simp at h;subst h;have b:=iu (λ_ _=>cK) g2;have k:j.length=1:=by
       rcases cG j.length 2 with h'|h';rcases sK j.length with h0|h0;rw[h0]at b;simp at b;omega
       ·exfalso;have:=by simpa using b
        rcases sK (aC e)with h0|h0;rw[h0]at this;omega;have:=wa h' h0;omega
      match j,k with
      |[y],_=>have:=jL (qb g2);have d:cellsOf e y=[p]:=d;rw[d]at this;exact dP this
     simp at h
    simp at h;subst h;exact m
   simp at h
theorem Ge{P:Program}{w:World}{b N c n:Nat}{l:bn}(h:cN w b N l)(g:c+n<=l.length):
  (loadCells ⟨b,c,none⟩ n).run P w=.ok ⟨(l.drop c).take n⟩ w:=by
 have e:((l.drop c).take n).length=n:=by simp;omega
 have:=run_loadCells_list (P:=P) (w:=w) ⟨b,c,none⟩ ((l.drop c).take n) (λj v f=>by
  have d:(⟨b,c,none⟩:Addr).add j=⟨b,c+j,none⟩:=by
   unfold Addr.add;split;·simp_all
   rfl
  rw[d];refine h.cell ?_;rw[gI]at f;split at f;simpa using f
  ·cases f)
 rw[e]at this;simpa using this
theorem kM(b off j:Nat):(⟨b,off,none⟩:Addr).add j=⟨b,off+j,none⟩:=by unfold Addr.add;simp_all
theorem nv{P:Program}{w:World}{t:TypeId}{d:TypeDesc}(h:P.underlying t=some d):(isAgg t).run P w=.ok (c3 P t) w:=by unfold isAgg underlying c3;simp[h];cases d<;>rfl
theorem uz{P:Program}{w:World}{t:TypeId}{i:TypeInfo}(h:P.info? t=some i):(typeInfo t).run P w=.ok i w:=by unfold typeInfo;simp_all
theorem c5{P:Program}{w:World}{t:TypeId}{i:TypeInfo}(h:P.info? t=some i):(Go.sizeOf t).run P w=.ok (P.cellsOf t) w:=by unfold Go.sizeOf;simp[uz h];simp[Program.cellsOf,h]
theorem nL{P:Program}{t:TypeId}{d:TypeDesc}(h:P.underlying t=some d):∃i,P.info? t=some i:=by
 unfold Program.underlying at h;cases b:P.info? t with
 |none=>simp_all
 |some i=>simp_all
theorem bP{P:Program}{w:World}{t:TypeId}{d:TypeDesc}(h:P.underlying t=some d):(underlying t).run P w=.ok d w:=by unfold underlying;simp_all
theorem nG{P:Program}{b N off:Nat}:∀(c:bn)(i:Nat)(w:World)(l:bn),cN w b N l->off+i+c.length<=l.length->(∀v∈c,v.oneCell'=true) ->
  ∃d,(storeCells ⟨b,off,none⟩ c i).run P w=.ok () d/\cN d b N (l.take (off+i)++(c++l.drop (off+i+c.length)))/\d.heap.size=w.heap.size/\
   (∀n,n≠b->d.heap[n]?=w.heap[n]?)/\d.os=w.os/\d.tape=w.tape/\d.output=w.output:=by
 intro c;induction c with
 |nil=>intro i w l h r _;exact⟨w,by simp[storeCells],by simpa using h,rfl,λ_ _=>rfl,rfl,rfl,rfl⟩
 |cons x c K=>
  intro i w l h r f;have m:off+i<l.length:=by simp at r;omega
  have g:=h.cell (i:=off+i) (x:=l[off+i]) (by simp[m]);have q:=h.frozen (gJ m h.len);have p:cN (w.setCell ⟨b,off+i,none⟩ x) b N (l.set (off+i) x):=by obtain⟨k,el,fr,H,F,G⟩:=h;refine⟨k,el,fr,?_,by simpa using F,G⟩;simp[World.setCell,sG,H];simp[List.set_append_left _ _ m]
  obtain⟨d,y,s,z,A,C,D,E⟩:=K (i+1) (w.setCell ⟨b,off+i,none⟩ x) (l.set (off+i) x) p (by simp at r⊢;omega) (λv I=>f v (by simp[I]));refine⟨d,?_,?_,?_,?_,?_,?_,?_⟩;unfold storeCells;rw[kM];simp;rw[run_store P w _ x .plain (f x az)];simp[g,q];simpa using y
  ·have t:(l.set (off+i) x).take (off+(i+1))=l.take (off+i)++[x]:=by
    rw[show off+(i+1)=(off+i)+1 from by omega,dA (by simpa using m)];simp[List.take_set_of_le]
   have u:(l.set (off+i) x).drop (off+(i+1)+c.length)=l.drop (off+i+(x::c).length):=by rw[List.drop_set_of_lt aa];congr 1;simp;omega
   rw[t,u]at s;simpa using s
  rw[z];simp[World.setCell];intro o j;rw[A o j];simp only[World.setCell,sG];rw[ai (λe=>j e.symm)];exact C;exact D;exact E
def bW(ρ:aI):dq->bn->Prop
 |[],b=>b=[]
 |v::c,b=>∃x xs,b=x::xs/\v.rel ρ x/\bW ρ c xs
structure Eff(id:Nat)(B:b8)(out:Out)(ρ ρ':aI)(w w':World):Prop where
 le:aI.le ρ ρ'
 dom:∀i b,ρ' i=some b->ρ i=some b\/(id<=i/\i<id+8/\(∃p∈out.new,p.1=i)/\(w.heap.size<=b\/∃q∈out.wr,ρ q.1=some b))
 bound:∀i b,ρ' i=some b->b<w'.heap.size
 os:w'.os=w.os
 tape:w'.tape=w.tape
 output:w'.output=w.output
 size:w.heap.size<=w'.heap.size
 same:∀b,b<w.heap.size->(∀p∈out.wr,ρ p.1≠some b)->w'.heap[b]?=w.heap[b]?
 new:∀p∈out.new,id<=p.1/\p.1<id+8/\∀b,ρ' p.1=some b->p.2≠[] ->
  (w.heap.size<=b\/∃q∈out.wr,ρ q.1=some b/\q.2=[])/\∃l,cN w' b (ρ'.n p.1) l/\aH ρ' p.2 l
 newinj:∀p∈out.new,∀q∈out.new,∀b,ρ' p.1=some b->ρ' q.1=some b->p.1=q.1
 wruniq:∀p∈out.wr,∀q∈out.wr,p.1=q.1->p=q
 wr:∀p∈out.wr,(∃cs,B p.1=some cs/\cs≠[])/\∀b,ρ p.1=some b->p.2≠[]->∃l,cN w' b (ρ.n p.1) l/\aH ρ' p.2 l
 mem:∀b l,ρ'.M b=some l->ρ.M b=some l\/((∀p∈out.new,ρ' p.1≠some b)/\(w.heap.size<=b\/∃q∈out.wr,ρ q.1=some b/\q.2=[])/\∃el fr,w'.heap[b]?=some (qv l el fr))
structure Ctx(w0:dn)(id:Nat)(ρ:aI)(B:b8)(w:World):Prop where
 below:mV w0 w
 bQ:∀i cs,B i=some cs->cs≠[]->∀b,ρ i=some b->∃l,cN w b (ρ.n i) l/\aH ρ cs l
 bound:∀i b,ρ i=some b->b<w.heap.size
 free:∀i,id<=i->i<id+8->ρ i=none
 mem:∀b l,ρ.M b=some l->∃el fr,w.heap[b]?=some (qv l el fr)
 glob:∀g e x,w0.gl g=some ⟨e,x⟩->n9 (Rd ρ.M e) (aC e) ρ.M g 0 [x]
 inj:∀i i' cs cs' b,B i=some cs->cs≠[]->B i'=some cs'->cs'≠[]->ρ i=some b->ρ i'=some b->i=i'
 apart:∀b l,ρ.M b=some l->∀i cs,B i=some cs->cs≠[]->ρ i≠some b
def pW(P:Program)(f:FuncId)(b:Array Value)(w:World)(R:Value->World->Prop):Prop:=
 ((callFunc f b).run P w=.ok (.enter f b) w/\Calls P f b w λe c=>∃v,e=.returned v/\R v c)\/
 (∃v c,(callFunc f b).run P w=.ok (.value v) c/\R v c)
def pY(P:Program)(f:FuncId)(F:Spec):Prop:=
 ∀(w0:dn)(id:Nat)(args:dq)(B:b8)(out:Out),F w0 id args B=some out->(∀p∈out.pre,p) ->
  ∀(ρ:aI)(c:bn)(w:World),bW ρ args c->Ctx w0 id ρ B w ->
   pW P f ⟨c⟩ w λv d=>∃b,out.val.rel b v/\Eff id B out ρ b w d
def aS(P:Program)(sp:FuncId->Option Spec):Prop:=∀f F,sp f=some F->pY P f F
def dc(P:Program)(id:Nat)(B:b8)(o:Oper)(out:Out)(ρ:aI)(a:Act)(w:World):Prop:=
 ∀(next:aA)(Q:Exit->aA),(∀v c b,out.val.rel b v->Eff id B out ρ b w c->next (a.put o.dst v) c)->o.wp P a w next Q
section
variable {P:Program}{w0:dn}{id:Nat}{ρ:aI}{B:b8}{w:World}
theorem Ctx.eff(b:Ctx w0 id ρ B w)(v:SV)(p:gi):Eff id B {val:=v,pre:=p} ρ ρ w w:=
 ⟨aI.le_refl _,λ_ _ h=>.inl h,b.bound,rfl,rfl,rfl,aQ _,λ_ _ _=>rfl,λ_ h=>(nomatch h),λ_ h=>(nomatch h),λ_ h=>(nomatch h),λ_ h=>(nomatch h),λ_ _ h=>.inl h⟩
theorem bz(b:Ctx w0 id ρ B w){o:Oper}{a:Act}{v:Value}{x:SV}{p:gi}(h:(execOp a.eval o).run P w=.ok (.value v) w)(d:x.rel ρ v):
  dc P id B o {val:=x,pre:=p} ρ a w:=by
 intro next Q c;unfold Oper.wp;rw[h];exact c v w ρ d (b.eff x p)
def aI.push(ρ:aI)(id b n:Nat):aI:=⟨λi=>if i=id then some b else ρ i,λi=>if i=id then n else ρ.n i,ρ.M⟩
theorem aI.kr{id b n:Nat}:(ρ.push id b n) id=some b:=by simp[aI.push]
theorem aI.wR{id b n:Nat}:(ρ.push id b n).n id=n:=by simp[aI.push]
theorem aI.FR{id b n i:Nat}(h:i≠id):(ρ.push id b n) i=ρ i:=by simp[aI.push,h]
theorem aI.TD{id b n:Nat}(h:ρ id=none):aI.le ρ (ρ.push id b n):=by
 refine⟨?_,Mem.le_refl _⟩;intro i c d;by_cases e:i=id;·simp_all
 simp[aI.push,e,d]
theorem WW(f:Ctx w0 id ρ B w){cs:cb}{l:bn}(t:TypeId)(j:aH ρ cs l)(x:SV)(p:gi):
  Eff id B {val:=x,new:=[(id,cs)],pre:=p} ρ (ρ.push id w.heap.size l.length) w (w.alloc (.cells ⟨l⟩ t)):=by
 have d:aI.le ρ (ρ.push id w.heap.size l.length):=aI.TD (f.free id (aQ _) aa);refine⟨d,?_,?_,rfl,rfl,rfl,az,?_,?_,?_,λ_ h=>(nomatch h),λ_ h=>(nomatch h),λ_ _ h=>.inl h⟩;intro i b h;by_cases e:i=id;subst e;rw[aI.kr]at h;simp at h;exact .inr ⟨aQ _,aa,⟨(i,cs),az,rfl⟩,.inl aa⟩;rw[aI.FR e]at h;exact .inl h;intro i b h;by_cases e:i=id;subst e;rw[aI.kr]at h;simp at h;simp;omega;rw[aI.FR e]at h;have:=f.bound i b h;simp;omega;intro b c _;exact Below.heap_alloc w _ b c;intro p g;simp at g;subst g;refine⟨aQ _,aa,λb c _=>?_⟩;rw[aI.kr]at c;simp at c;subst c;refine⟨.inl (aQ _),l,⟨[],t,(0,0),?_,?_,.inl rfl⟩,fi d j⟩;show(w.heap.push _)[w.heap.size]?=_;simp;rw[aI.wR];simp;·simp_all
theorem vJ(c:Ctx w0 id ρ B w){o:Oper}{a:Act}{cs:cb}{l:bn}{t:TypeId}{v:Value}{x:SV}{p:gi}(h:(execOp a.eval o).run P w=.ok (.value v) (w.alloc (.cells ⟨l⟩ t))) (e:aH ρ cs l)(f:∀b:aI,b id=some w.heap.size->b.n id=l.length->x.rel b v):dc P id B o {val:=x,new:=[(id,cs)],pre:=p} ρ a w:=by
 intro next Q d;unfold Oper.wp;rw[h];exact d v _ _ (f _ aI.kr aI.wR) (WW c t e x p)
theorem GJ(u:Ctx w0 id ρ B w){o:Oper}{a:Act}{i b:Nat}{cs f:cb}{m:bn}{d:World}{p:gi}(y:ρ i=some b)(D:B i=some cs)(x:cs≠[])(h:(execOp a.eval o).run P w=.ok .skip d) (E:cN d b (ρ.n i) m) (H:aH ρ f m) (C:d.heap.size=w.heap.size)(g:∀k,k≠b->d.heap[k]?=w.heap[k]?) (r:d.os=w.os) (s:d.tape=w.tape) (t:d.output=w.output):
  dc P id B o {val:=.undef,wr:=[(i,f)],pre:=p} ρ a w:=by
 intro next Q A;unfold Oper.wp;rw[h];refine A undef d ρ rfl ⟨aI.le_refl _,λ_ _ h=>.inl h,λj c z=>by rw[C];exact u.bound j c z,r,s,t,aa,?_,λ_ h=>(nomatch h),λ_ h=>(nomatch h),λp F q G _=>by simp_all,?_,λ_ _ h=>.inl h⟩;intro c _ l;refine g c (λe=>?_);subst e;exact l (i,f) az y;grind
theorem cI{v:SV}{b:bn}(h:bW ρ [v] b):∃x,b=[x]/\v.rel ρ x:=by obtain⟨x,f,e,c,d⟩:=h;have:=d;subst this;exact⟨x,e,c⟩
theorem dz{v u:SV}{b:bn}(h:bW ρ [v,u] b):∃x y,b=[x,y]/\v.rel ρ x/\u.rel ρ y:=by obtain⟨x,xs,e,d,f⟩:=h;obtain⟨y,c,g⟩:=cI f;subst c;exact⟨x,y,e,d,g⟩
theorem si{v u t:SV}{b:bn}(h:bW ρ [v,u,t] b):∃x y z,b=[x,y,z]/\v.rel ρ x/\u.rel ρ y/\t.rel ρ z:=by obtain⟨x,i,e,d,f⟩:=h;obtain⟨y,z,c,g⟩:=dz f;subst c;exact⟨x,y,z,e,d,g⟩
theorem cY{x:Value}{y:Value}(h:(SV.is (.one (.v x))).rel ρ y):y=x:=by have:=h.1;simpa using this
theorem qi{i c:Nat}{y:Value}(h:(SV.is (.one (.ptr i c))).rel ρ y):∃b,ρ i=some b/\y=.pointer (some ⟨b,c,none⟩):=by obtain⟨b,d,e⟩:=h;simp_all
theorem BC{i d j c:Nat}{y:Value}(h:(SV.is (.one (.pe i d j c))).rel ρ y):∃b,ρ i=some b/\y=.pointer (some ⟨b,d+j*c,none⟩):=by obtain⟨b,f,e⟩:=h;simp_all
theorem E0{e:Kd}{d:List (a6 e)}{i c:Nat}{y:Value}(h:(SV.is (.one (.rp e d i c))).rel ρ y):∃b o,n9 (Rd ρ.M e) (aC e) ρ.M b o d/\i<d.length/\y=.pointer (some ⟨b,o+(i*aC e+c),none⟩):=by obtain⟨b,o,f,g,j⟩:=h;simp_all
theorem p9{i f off len c:Nat}{y:Value}(h:(SV.is (.one (.sl i f off len c))).rel ρ y):(len=0/\y=.slice none 0 0)\/
  ∃b o d,ρ i=some b/\len<=d/\(o=f+off*c\/d=0)/\o+d*c<=ρ.n i/\y=.slice (some ⟨b,o,none⟩) len d:=by
 rcases h with ⟨h,e⟩|⟨b,o,d,g,j,m,k,e⟩;·simp_all
 ·exact .inr ⟨b,o,d,g,j,m,k,by simp_all⟩
theorem BE{e:Kd}{f:List (a6 e)}{y:Value}(h:(SV.is (.one (.ro e f))).rel ρ y):(f=[]/\∃a d,y=.slice a 0 d/\(a=none->d=0))\/
  ∃b o d,y=.slice (some ⟨b,o,none⟩) f.length d/\f.length<=d/\n9 (Rd ρ.M e) (aC e) ρ.M b o f:=by
 rcases h with ⟨h,a,d,e,g⟩|⟨b,o,d,e,g⟩;exact .inl ⟨h,a,d,by simpa using e,g⟩;exact .inr ⟨b,o,d,by simpa using e,g⟩
theorem I7{i c b:Nat}(h:ρ i=some b):(SV.is (.one (.ptr i c))).rel ρ (.pointer (some ⟨b,c,none⟩)):=⟨b,h,rfl⟩
theorem I6{i d j c o b:Nat}(h:ρ i=some b)(e:o=d+j*c):(SV.is (.one (.pe i d j c))).rel ρ (.pointer (some ⟨b,o,none⟩)):=⟨b,h,by rw[e]⟩
theorem FE{e:Kd}{d:List (a6 e)}{i c b o f:Nat}(h:n9 (Rd ρ.M e) (aC e) ρ.M b o d)(g:i<d.length)(j:f=o+(i*aC e+c)):(SV.is (.one (.rp e d i c))).rel ρ (.pointer (some ⟨b,f,none⟩)):=⟨b,o,h,g,by rw[j]⟩
theorem nU{x:Value}(h:x.oneCell'=true):(SV.is (.one (.v x))).rel ρ x:=⟨rfl,h⟩
theorem cC{a:Act}{o:Oper}{s:Sem Value}{v:Value}{b:World}(c:execOp a.eval o=(do pure (.value (<-s))))(h:s.run P w=.ok v b):
  (execOp a.eval o).run P w=.ok (.value v) b:=by
 simp_all
theorem aej{a:Act}{o:Oper}{s:Sem Unit}{b:World}(c:execOp a.eval o=(do s;pure .skip))(h:s.run P w=.ok () b):
  (execOp a.eval o).run P w=.ok .skip b:=by
 simp_all
theorem Ctx.ro(d:Ctx w0 id ρ B w){b:Nat}{l:bn}(h:ρ.M b=some l):∃el fr,w.heap[b]?=some (qv l el fr):=d.mem b l h
theorem Ll(e:Ctx w0 id ρ B w){b i:Nat}{l:bn}{x:Value}(h:l≠[]->ρ.M b=some l)(c:l[i]?=some x):w.cell? ⟨b,i,none⟩=some x:=by
 have d:l≠[]:=by rintro rfl;simp at c
 obtain⟨el,fr,h⟩:=e.ro (h d);rw[vG d]at h;simp[World.cell?,h];simp[c]
theorem HU(f:Ctx w0 id ρ B w){b c n:Nat}{l:bn}(h:l≠[]->ρ.M b=some l)(g:c+n<=l.length):
  (loadCells ⟨b,c,none⟩ n).run P w=.ok ⟨(l.drop c).take n⟩ w:=by
 have d:((l.drop c).take n).length=n:=by simp;omega
 have:=run_loadCells_list (P:=P) (w:=w) ⟨b,c,none⟩ ((l.drop c).take n) (λj v e=>by
  rw[kM];refine Ll f h ?_;rw[gI]at e;split at e;simpa using e
  ·cases e)
 rw[d]at this;simpa using this
end
section
variable {P:Program}{w0:dn}{id:Nat}{ρ:aI}{B:b8}{w:World}{a:Act}{dst:Option Tmp}{ty:TypeId}{pos:String}{af:Array Edge}{gd:Option (Nat×Bool)}{out:Out}
theorem Y1(c:Ctx w0 id ρ B w){x:Operand}{b:dq}(h:As b=some out)(d:bW ρ b [a.eval x]):dc P id B ⟨dst,.move x,ty,pos,af,gd⟩ out ρ a w:=by
 match b,h with
 |[y],h=>obtain⟨z,e,f⟩:=cI d;simp at e;subst e;simp[As,ret]at h;subst h;exact bz c rfl f
theorem Qr(c:Ctx w0 id ρ B w){x:Operand}{b:dq}(h:As b=some out)(d:bW ρ b [a.eval x]):dc P id B ⟨dst,.assign x,ty,pos,af,gd⟩ out ρ a w:=by
 match b,h with
 |[y],h=>obtain⟨z,e,f⟩:=cI d;simp at e;subst e;simp[As,ret]at h;subst h;exact bz c rfl f
theorem akj(g:Ctx w0 id ρ B w){c x y:Operand}{j:dq}(h:Wt j=some out)(i:bW ρ j [a.eval c,a.eval x,a.eval y]):dc P id B ⟨dst,.pick c x y,ty,pos,af,gd⟩ out ρ a w:=by unfold Wt at h;split at h;obtain⟨p,q,r,e,b,d,f⟩:=si i;obtain⟨rfl,rfl,rfl⟩:=e;simp[ret]at h;subst h;have b:[a.eval c]=[Value.bool true]:=b;simp at b;exact bz g (by simp[execOp,b,asBool]) d;obtain⟨p,q,r,e,b,d,f⟩:=si i;obtain⟨rfl,rfl,rfl⟩:=e;simp[ret]at h;subst h;have b:[a.eval c]=[Value.bool false]:=b;simp at b;exact bz g (by simp[execOp,b,asBool]) f;rename_i k l m;obtain⟨p,q,r,e,b,d,f⟩:=si i;obtain⟨rfl,rfl,rfl⟩:=e;simp[gY]at h;subst h;have b:=cY b;have d:=cY d;have f:=cY f;refine bz g ?_ (nU rfl);simp only[execOp,b,d,f,asBool];cases k<;>simp;simp at h
theorem Vs(x:Value)(h:x.oneCell'=true):(PC x).rel ρ [x]:=by
 cases x with
 |bool b=>cases b<;>rfl
 |_=>trivial
theorem KX:∀(b:bn),(∀x∈b,x.oneCell'=true)->aH ρ (b.map PC) b:=by
 intro b;induction b with
 |nil=>intro _;exact rfl
 |cons x b d=>intro h;exact⟨[x],b,rfl,Vs x (h x az),d (λy c=>h y (by simp[c]))⟩
theorem Fm{t:TypeId}{cs:cb}(h:Gd P t=some cs):∃i z,P.info? t=some i/\i.zero=some z/\aH ρ cs z.cells.toList:=by unfold Gd at h;split at h;rename_i i d g o e m j l z k ms f;refine⟨_,z,f,rfl,?_⟩;split at h;split at h;rename_i c;simp at c;simp at h;subst h;rw[Df c.1];exact Ni c.2;simp at h;split at h;rename_i b;simp at h;subst h;exact KX _ (all_eq_true.1 b);simp at h;simp at h
theorem agJ(c:Ctx w0 id ρ B w){t:TypeId}(h:Q3 P id t=some out):dc P id B ⟨dst,.alloc t,ty,pos,af,gd⟩ out ρ a w:=by unfold Q3 at h;split at h;rename_i cs b;simp at h;subst h;obtain⟨i,z,d,f,e⟩:=Fm b;refine vJ c (t:=t) (cC rfl ?_) e (λg h _=>I7 h);unfold Instr.alloc zeroValue;simp[uz d,f];rfl;simp at h
theorem alO(c:Ctx w0 id ρ B w){t:TypeId}{x:Operand}{b:dq}(h:ac9 id b=some out)(g:bW ρ b [a.eval x]):dc P id B ⟨dst,.box t x,ty,pos,af,gd⟩ out ρ a w:=by unfold ac9 at h;split at h;obtain⟨z,e,i⟩:=cI g;simp at e;subst e;simp at h;subst h;obtain⟨l,d,f⟩:=TV.Ad i;refine vJ c (t:=t) (cC rfl ?_) f (λj h _=>I7 h);unfold Instr.box;simp[newVar,d];rfl;simp at h
theorem vH{t:TypeId}{b N c:Nat}{l:bn}{d:TypeDesc}(g:P.underlying t=some d)(j:cN w b N l)(h:c+P.cellsOf t<=l.length):
  (c3 P t=true->(loadVar t ⟨b,c,none⟩).run P w=.ok (.agg ⟨(l.drop c).take (P.cellsOf t)⟩) w)/\
  (c3 P t=false->∀x,(l.drop c).take 1=[x]->(loadVar t ⟨b,c,none⟩).run P w=.ok x w):=by
 obtain⟨i,k⟩:=nL g;constructor;intro f;unfold loadVar;simp[nv g,f,c5 k,Ge j h]
 ·intro f x m;unfold loadVar;simp[nv g,f];have e:w.cell? ⟨b,c,none⟩=some x:=by
   refine j.cell ?_;have:=congrArg (λl=>l[0]?) m;simpa[gI]using this
  simp[e]
theorem Lm(k:Ctx w0 id ρ B w){t:TypeId}{b c:Nat}{l:bn}{d:TypeDesc}(g:P.underlying t=some d)(j:l≠[]->ρ.M b=some l)(h:c+P.cellsOf t<=l.length):
  (c3 P t=true->(loadVar t ⟨b,c,none⟩).run P w=.ok (.agg ⟨(l.drop c).take (P.cellsOf t)⟩) w)/\
  (c3 P t=false->∀x,(l.drop c).take 1=[x]->(loadVar t ⟨b,c,none⟩).run P w=.ok x w):=by
 obtain⟨i,m⟩:=nL g;constructor;intro f;unfold loadVar;simp[nv g,f,c5 m,HU k j h]
 ·intro f x n;unfold loadVar;simp[nv g,f];have e:w.cell? ⟨b,c,none⟩=some x:=by
   refine Ll k j ?_;have:=congrArg (λl=>l[0]?) n;simpa[gI]using this
  simp[e]
theorem aca{d f m:bn}{b c n:Nat}(e:d.length=b)(g:c+n<=m.length):((d++(m++f)).drop (b+c)).take n=(m.drop c).take n:=by rw[qH,pg aa,gK,e,show b+c-b=c by omega,qN aa,mD (by simp;omega)]
theorem D4{e:Kd}{n:Nat}{u:List (a6 e)}{j q b:Nat}{l:Bool}{x:TV}{G:gi}{m:bn}(h:B8 e n u j q b l=some (x,G))(D:∀p∈G,p)(N:u.length=n)(t:eQ (Rd ρ.M e) u m)(L:l=false->b=1):
  j*aC e+q+b<=m.length/\(l=true->x.rel ρ (.agg ⟨(m.drop (j*aC e+q)).take b⟩))/\(l=false->∃v,(m.drop (j*aC e+q)).take b=[v]/\x.rel ρ v):=by
 have k:=iu (λ_ _=>cK) t;unfold B8 at h;split at h
 ·rename_i f;have f:=fR f;split at h
  ·rename_i R K;split at h
   ·rename_i y O;obtain⟨rfl,rfl⟩:=h;have C:j<n:=D _ az;have A:=AU (λ_ _=>cK) t (i:=j) aa (gn e);have I:=cK A;have s:j*aC e+aC e<=m.length:=by
     rw[k,<-kL];exact gr _ aa
    obtain⟨F,Q⟩:=yP K (jL A);have d:(((m.drop (j*aC e)).take (aC e)).drop q).take b=(m.drop (j*aC e+q)).take b:=by rw[oW,nP,iI,jR aa]
    rw[d]at F;have g:((m.drop (j*aC e+q)).take b).length=b:=by simp;omega
    obtain⟨g1,g2⟩:=qh O F (λh=>by rw[g,L h]);exact⟨aa,g1,g2⟩
   simp at h
  simp at h
 ·split at h
  ·rename_i E;simp only[bD]at E;obtain⟨⟨c,r⟩,o⟩:=E;have c:=ca c;have o:=ca o;subst c r;obtain⟨rfl,rfl⟩:=h;have C:j+b/aC e<=n:=D _ az;have H:=(jn (λ_ _=>cK) j t).2;have z:=(jn (λ_ _=>cK) (b/aC e) H).1;rw[o]at z;have s:j*aC e+b<=m.length:=by
    have:=gr (aC e) C;rw[eN,o]at this;rw[k,N];exact this
   refine⟨aa,λ_=>⟨_,rfl,ct (ib (by simp;omega) z)⟩,λh=>nomatch h⟩
  simp at h
theorem Ks{c q i b:Nat}(d:c=b):DU (q/c) i*b+q%c=q+i*c:=by subst d;rw[Ke,eN];have:=Nat.div_add_mod q c;rw[ni c]at this;omega
theorem xf(i:Ctx w0 id ρ B w){t:TypeId}{x:Operand}{b c:Nat}{l:bn}{y:TV}{p:gi}(h:a.eval x=.pointer (some ⟨b,c,none⟩))(j:(c3 P t=true->(loadVar t ⟨b,c,none⟩).run P w=.ok (.agg ⟨(l.drop c).take (P.cellsOf t)⟩) w)/\(c3 P t=false->∀x,(l.drop c).take 1=[x]->(loadVar t ⟨b,c,none⟩).run P w=.ok x w))(m:c3 P t=false->P.cellsOf t=1)(k:(c3 P t=true->y.rel ρ (.agg ⟨(l.drop c).take (P.cellsOf t)⟩))/\(c3 P t=false->∃v,(l.drop c).take (P.cellsOf t)=[v]/\y.rel ρ v)):
  dc P id B ⟨dst,.load t x,ty,pos,af,gd⟩ {val:=.is y,pre:=p} ρ a w:=by
 have e:Instr.loadAt t (a.eval x)=(do loadVar t (<-Instr.sureAddr (a.eval x))):=rfl;cases d:c3 P t with
 |true=>exact bz i (cC rfl (by rw[e,h];simp[Instr.sureAddr,j.1 d])) (k.1 d)
 |false=>obtain⟨v,f,g⟩:=k.2 d;rw[m d]at f;exact bz i (cC rfl (by rw[e,h];simp[Instr.sureAddr,j.2 d v f])) g
theorem EG(A:Ctx w0 id ρ B w){t:TypeId}{x:Operand}{cs:cb}{i b f j c:Nat}{d:TypeDesc}(H:P.underlying t=some d)(D:c3 P t=false->P.cellsOf t=1)(h:I4 P t cs f j c=some out)(I:∀p∈out.pre,p)(G:ρ i=some b) (E:B i=some cs) (u:cs≠[]) (F:a.eval x=.pointer (some ⟨b,f+j*c,none⟩)):dc P id B ⟨dst,.load t x,ty,pos,af,gd⟩ out ρ a w:=by
 unfold I4 at h;split at h
 ·rename_i U e n X q r s;split at h
  ·rename_i g;have g:=ca g;split at h
   ·rename_i y p L;simp at h;subst h;obtain⟨l,k,K⟩:=A.bQ _ _ E u b G;obtain⟨R,m,T,el,N,V,W,O,Q⟩:=yM s K;obtain⟨g1,g2,z⟩:=D4 L I O Q D;rw[Ks g]at g1 g2 z;have C:l.length=R.length+(m.length+T.length):=by rw[el];simp
    have o:(l.drop (f+j*c)).take (P.cellsOf t)=(m.drop (q+j*c)).take (P.cellsOf t):=by rw[el,<-N,wg];exact aca rfl aa
    exact xf A F (vH H k aa) D (by rw[o];exact⟨g2,z⟩)
   simp at h
  simp at h
 simp at h
theorem akh(r:Ctx w0 id ρ B w){t:TypeId}{x:Operand}{R:dq}(s:(P.underlying t).isSome=true)(q:c3 P t=false->P.cellsOf t=1)(h:Wp P t R B=some out)(H:∀p∈out.pre,p)(K:bW ρ R [a.eval x]):dc P id B ⟨dst,.load t x,ty,pos,af,gd⟩ out ρ a w:=by
 obtain⟨d,s⟩:=Option.isSome_iff_exists.1 s;unfold Wp at h;split at h;rename_i i g;obtain⟨z,e,f⟩:=cI K;simp at e;subst e;obtain⟨b,G,e⟩:=qi f;split at h;rename_i c cs k;obtain⟨l,u,W⟩:=r.bQ _ _ k az b G;split at h;rename_i m U;obtain⟨I,C⟩:=yP U W;split at h;rename_i y L;simp[ret]at h;subst h;obtain⟨X,Y⟩:=qh L I (λh=>by rw[q h];simp;rw[q h]at C;omega);exact xf r e (vH s u C) q ⟨X,Y⟩;simp at h;exact EG r s q h H G k az (by rw[e,nh,lf]);simp at h;rename_i i O j c;obtain⟨z,e,f⟩:=cI K;simp at e;subst e;obtain⟨b,G,e⟩:=BC f;split at h;rename_i c cs k;exact EG r s q h H G k az e;simp at h
 ·rename_i n N i g;obtain⟨z,e,f⟩:=cI K;simp at e;subst e;obtain⟨b,o,⟨l,T,V,F⟩,Z,e⟩:=E0 f;split at h
  ·rename_i y p L;simp at h;subst h;obtain⟨g1,g2,Q⟩:=D4 L H rfl F q;rw[Ks rfl]at g1 g2 Q;have D:((l.drop o).take (N.length*aC n)).length=N.length*aC n:=by simp;omega
   rw[D]at g1;have E:o+(i*aC n+g)=o+(g+i*aC n):=aa;have A:(l.drop (o+(g+i*aC n))).take (P.cellsOf t)=(((l.drop o).take (N.length*aC n)).drop (g+i*aC n)).take (P.cellsOf t):=by rw[oW,nP,iI,jR aa]
   rw[E]at e;exact xf r e (Lm r s T aa) q (by rw[A];exact⟨g2,Q⟩)
  simp at h
 simp at h
theorem E9{t:TypeId}{b N off:Nat}{l u:bn}{v:Value}{i:TypeInfo}(m:P.info? t=some i)(c:v.cells=⟨u⟩)(g:u.length=P.cellsOf t)(k:cN w b N l)(n:off+u.length<=l.length)(e:∀x∈u,x.oneCell'=true):
  ∃d,(storeVar t ⟨b,off,none⟩ v).run P w=.ok () d/\cN d b N (l.take off++(u++l.drop (off+u.length)))/\d.heap.size=w.heap.size/\
   (∀f,f≠b->d.heap[f]?=w.heap[f]?)/\d.os=w.os/\d.tape=w.tape/\d.output=w.output:=by
 obtain⟨d,h,j⟩:=nG u 0 w l k aa e;refine⟨d,?_,by simpa using j⟩;unfold storeVar;simp only[cf,c5 m,cn,c];rw[ai (by simpa using g)];simpa using h
theorem Nc{e:Kd}{n:Nat}{c t:List (a6 e)}{j q:Nat}{g:cb}{A:gi}{m u:bn}(h:D5 e n c j q g=some (t,A))(z:∀p∈A,p)(F:c.length=n)(s:eQ (Rd ρ.M e) c m)(E:aH ρ g u):
  j*aC e+q+u.length<=m.length/\t.length=n/\eQ (Rd ρ.M e) t (m.take (j*aC e+q)++(u++m.drop (j*aC e+q+u.length))):=by
 have r:=iu (λ_ _=>cK) s;unfold D5 at h;split at h
 ·rename_i cs l;split at h
  ·rename_i y O G;obtain⟨rfl,rfl⟩:=h;have K:j<n:=z _ az;have x:=AU (λ_ _=>cK) s (i:=j) aa (gn e);have o:=cK x;have D:j*aC e+aC e<=m.length:=by
    rw[r,<-kL];exact gr _ aa
   obtain⟨H,I⟩:=HM l (jL x) E;obtain⟨L,N,k,g1,g2⟩:=lT (rk ρ) _ _ _ _ _ _ G (λp h=>z p (by simp[h])) H;have g2:=g2;subst g2;rw[bF]at k;subst k;rw[o]at I;refine⟨aa,by simp[F],?_⟩;have b:=RK (λ_ _=>cK) s (ru g1) j;have f:c.take j++([y]++c.drop (j+[y].length))=c.set j y:=by rw[List.set_eq_take_append_cons_drop,ah aa];rfl
   rw[f]at b;have d:=cK g1;rw[d]at b;refine(congrArg (eQ (Rd ρ.M e) (c.set j y)) ?_).mp b;rw[nP,oW,iI,jR aa,<-wg];have k:m.take (j*aC e+q)=m.take (j*aC e)++(m.drop (j*aC e)).take q:=by rw[<-List.take_add]
   have C:=by have:=(ff (aC e-(q+u.length)) (m.drop (j*aC e+q+u.length))).symm;rw[iI,show j*aC e+q+u.length+(aC e-(q+u.length))=j*aC e+aC e by omega]at this;exact this
   rw[k];conv=>rhs;rw[C]
   simp
  simp at h
 simp at h
theorem Di(L:Ctx w0 id ρ B w){t:TypeId}{x y:Operand}{cs:cb}{i b d j c:Nat}{z:TV}(T:(P.info? t).isSome=true)(h:xP i cs d j c z.cells=some out)(U:∀p∈out.pre,p)(E:dk z.cells=P.cellsOf t)(Y:z.rel ρ (a.eval y))(K:ρ i=some b) (I:B i=some cs) (A:cs≠[]) (R:a.eval x=.pointer (some ⟨b,d+j*c,none⟩)):dc P id B ⟨dst,.store t x y,ty,pos,af,gd⟩ out ρ a w:=by
 obtain⟨Z,s⟩:=Option.isSome_iff_exists.1 T;have k:Instr.storeAt t (a.eval x) (a.eval y)=(do storeVar t (<-Instr.sureAddr (a.eval x)) (a.eval y)):=rfl;unfold xP at h;split at h
 ·rename_i a0 e n xs q r C;split at h
  ·rename_i f;have f:=ca f;split at h
   ·rename_i ys p X;simp at h;subst h;obtain⟨l,o,V⟩:=L.bQ _ _ I A b K;obtain⟨D,m,G,el,k1,k2,k3,k4,k5⟩:=yM C V;obtain⟨u,W,g⟩:=TV.Ad Y;have F:=iR g;obtain⟨g1,g2,H⟩:=Nc X U k4 k5 g;rw[Ks f]at g1 H;have N:l.length=D.length+(m.length+G.length):=by rw[el];simp
    obtain⟨w',f1,f2,f3,f4,f5,f6,f7⟩:=E9 s W (by rw[F,E]) o (off:=d+j*c) aa (D1 g);refine GJ L K I A (aej rfl (by rw[k,R];simp[Instr.sureAddr,f1])) f2 ?_ f3 f4 f5 f6 f7;have O:l.take (d+j*c)=D++m.take (q+j*c):=by rw[el,List.take_append,cA aa,show d+j*c-D.length=q+j*c by omega,mD aa]
    have Q:l.drop (d+j*c+u.length)=m.drop (q+j*c+u.length)++G:=by rw[el,qH,pg aa,gK,show d+j*c+u.length-D.length=q+j*c+u.length by omega,qN aa]
    rw[O,Q,cZ];refine iQ k2 ⟨_,G,?_,ib g2 H,k3⟩;simp
   simp at h
  simp at h
 simp at h
theorem agQ(D:Ctx w0 id ρ B w){t:TypeId}{x y:Operand}{N:dq}(F:(P.info? t).isSome=true)(h:Q9 P t N B=some out)(E:∀p∈out.pre,p)(L:bW ρ N [a.eval x,a.eval y]):dc P id B ⟨dst,.store t x y,ty,pos,af,gd⟩ out ρ a w:=by
 obtain⟨Z,C⟩:=Option.isSome_iff_exists.1 F;have q:Instr.storeAt t (a.eval x) (a.eval y)=(do storeVar t (<-Instr.sureAddr (a.eval x)) (a.eval y)):=rfl;unfold Q9 at h;split at h
 ·rename_i i n z;obtain⟨z1,z2,e,m,g⟩:=dz L;obtain⟨rfl,rfl⟩:=e;obtain⟨b,r,e⟩:=qi m;split at h
  ·rename_i c cs f d;have d:=ca d;have put:∀{o:Out},CU i (c::cs) n z.cells=some o->dc P id B ⟨dst,.store t x y,ty,pos,af,gd⟩ o ρ a w:=by
    intro o h;unfold CU at h;split at h;rename_i O A;simp at h;subst h;obtain⟨l,s,X⟩:=D.bQ _ _ f az b r;obtain⟨u,Y,k⟩:=TV.Ad g;obtain⟨H,G⟩:=HM A X k;have I:=iR k;obtain⟨w',g1,g2,Q,R,T,U,V⟩:=E9 C Y (by rw[I,d]) s G (D1 k);exact GJ D r f az (aej rfl (by rw[q,e];simp[Instr.sureAddr,g1])) g2 H Q R T U V;simp at h
   have qZ:∀{o:Out},xP i (c::cs) n 0 (V1 (c::cs) n) z.cells=some o->(∀p∈o.pre,p)->dc P id B ⟨dst,.store t x y,ty,pos,af,gd⟩ o ρ a w:=by intro o h E;exact Di D F h E d g r f az (by rw[e,nh,lf])
   unfold QH at h;split at h
   ·split at h;·simp_all
    exact put h
   split at h;rename_i o W;simp at h;subst h;exact put W;exact qZ h E
  simp at h
 rename_i i K j c z;obtain⟨z1,z2,e,m,g⟩:=dz L;obtain⟨rfl,rfl⟩:=e;obtain⟨b,r,e⟩:=BC m;split at h;rename_i c cs f d;exact Di D F h E (ca d) g r f az e;simp at h;simp at h
theorem ye{t:TypeId}{f:Nat}{b:Field}(h:uV P t f=some b):∃c,P.underlying t=some (.struct c)/\c[f]?=some b:=by
 unfold uV at h;split at h;·simp_all
 simp at h
theorem AO{t:TypeId}{f:Nat}{c:Field}{b g:Nat}(h:uV P t f=some c)(m:(P.info? c.type).isSome=true)(k:beq (P.cellsOf c.type) 0=false):
  (Instr.fieldAt t (.pointer (some ⟨b,g,none⟩)) f).run P w=.ok (.pointer (some ⟨b,g+c.offset,none⟩)) w:=by
 obtain⟨o,i,l⟩:=ye h;obtain⟨n,d⟩:=Option.isSome_iff_exists.1 m;have j:P.cellsOf c.type≠0:=by intro e;rw[e]at k;cases k
 unfold Instr.fieldAt fieldPlace;simp[bP i,l,Instr.sureAddr,c5 d,ai j,kM]
theorem RC(p:Ctx w0 id ρ B w){t:TypeId}{x:Operand}{f:Nat}{A:dq}(q:∀m,uV P t f=some m->(P.info? m.type).isSome=true)(h:C4 P t f A=some out)(s:bW ρ A [a.eval x]):dc P id B ⟨dst,.fieldAddr t x f,ty,pos,af,gd⟩ out ρ a w:=by unfold C4 at h;split at h;rename_i m d;split at h;rename_i i u l;obtain⟨z,e,g⟩:=cI s;simp at e;subst e;obtain⟨b,n,e⟩:=qi g;simp[ret]at h;subst h;exact bz p (cC rfl (by rw[e];exact AO d (q _ d) l)) (I7 n);rename_i i y j c l;obtain⟨z,e,g⟩:=cI s;simp at e;subst e;obtain⟨b,n,e⟩:=BC g;simp[ret]at h;subst h;exact bz p (cC rfl (by rw[e];exact AO d (q _ d) l)) (I6 n aa);rename_i C D i u l;obtain⟨z,e,g⟩:=cI s;simp at e;subst e;obtain⟨b,o,k,r,e⟩:=E0 g;simp[ret]at h;subst h;exact bz p (cC rfl (by rw[e];exact AO d (q _ d) l)) (FE k r aa);simp at h;simp at h
theorem alQ(j:Ctx w0 id ρ B w){x:Operand}{i:dq}(h:adb i=some out)(l:bW ρ i [a.eval x]):dc P id B ⟨dst,.nilCheck x,ty,pos,af,gd⟩ out ρ a w:=by
 unfold adb at h;split at h
 ·rename_i c;split at h
  ·rename_i k;simp[ret]at h;subst h;obtain⟨z,e,d⟩:=cI l;simp at e;subst e;have f:∃g,a.eval x=.pointer (some g):=by
    cases c<;>simp[OY]at k;obtain⟨b,_,e⟩:=qi d;exact⟨_,e⟩;obtain⟨b,_,e⟩:=BC d;exact⟨_,e⟩;obtain⟨b,o,_,_,e⟩:=E0 d;exact⟨_,e⟩
   obtain⟨g,e⟩:=f;refine bz j ?_ d;simp[execOp,e]
  simp at h
 simp at h
theorem alM(A:Ctx w0 id ρ B w){t:TypeId}{x:Operand}{E:dq}(h:ac7 P t E=some out)(C:∀p∈out.pre,p)(D:bW ρ E [a.eval x]):dc P id B ⟨dst,.sliceToArrayPointer t x,ty,pos,af,gd⟩ out ρ a w:=by
 unfold ac7 at h;split at h
 ·rename_i n e b f u len c s;split at h
  ·rename_i i;simp only[bD]at i;have G:=hX i.1;simp at h;subst h;have k:n<=len:=C _ az;obtain⟨z,g,d⟩:=cI D;simp at g;subst g;rcases p9 d with ⟨j,_⟩|⟨y,o,m,r,H,ho,K,q⟩;omega
   ·have ho:o=f+u*c:=by
     rcases ho with ho|ho;exact ho;omega
    refine bz A (cC rfl ?_) (I6 r ho);rw[q];unfold Instr.arrayAt;simp[bP s,ai (show ¬len<n by omega)]
  simp at h
 rename_i n e I F s;split at h;rename_i i;simp only[bD]at i;have G:=hX i.1;simp at h;subst h;have k:n<=F.length:=C _ az;obtain⟨z,g,d⟩:=cI D;simp at g;subst g;rcases BE d with ⟨j,_⟩|⟨y,o,m,q,H,l⟩;subst j;simp at k;omega;refine bz A (v:=.pointer (some ⟨y,o,none⟩)) (cC rfl ?_) (FE l aa aa);rw[q];unfold Instr.arrayAt;simp[bP s,ai (show ¬F.length<n by omega)];simp at h;simp at h
end
section
variable {P:Program}(w:World)
def valOf(P:Program)(t:TypeId)(b:List IV):Value:=
 match c3 P t with
 |true=>.agg ⟨b.map iv⟩
 |false=>iv (b.getD 0 (.u8,0))
theorem CK{t:TypeId}{d:TypeDesc}(h:P.underlying t=some d)(e:c3 P t=false->P.cellsOf t=1)(c:List IV)(b:Nat)(k:b+P.cellsOf t<=c.length):
  (part t ⟨c.map iv⟩ b).run P w=.ok (valOf P t ((c.drop b).take (P.cellsOf t))) w:=by
 obtain⟨i,j⟩:=nL h;unfold part valOf;simp only[cf,nv h,cn];cases f:c3 P t with
 |true=>simp only[jo,cf,c5 j];congr 2;simp
 |false=>have e:=e f;have g:b<c.length:=aa;simp[g,e]
theorem LR{d:Type}[DecidableEq d]{b c:List d}{n:Nat}:∀(o:Nat),(decide ((b.drop o).take n=(c.drop o).take n)&&decide (b.drop (o+n)=c.drop (o+n)))=decide (b.drop o=c.drop o):=by intro o;rw[pv];simp;constructor;rintro⟨e,f⟩;rw[<-ff n (b.drop o),<-ff n (c.drop o),e];simp;rw[f];intro h;rw[h];refine⟨rfl,?_⟩;rw[<-iI,<-iI,h]
def vD(b c:List IV):Prop:=b.map Prod.fst=c.map Prod.fst
theorem vD.part{b c:List IV}(h:vD b c)(o n:Nat):vD ((b.drop o).take n) ((c.drop o).take n):=by have:=congrArg (λl=>(l.drop o).take n) h;simpa[vD]using this
theorem EA:∀(d:Nat)(t:TypeId),pJ P d t=true->(∃g,P.underlying t=some g)/\(c3 P t=false->P.cellsOf t=1):=by
 intro d t h;cases d with
 |zero=>simp[pJ]at h
 |succ d=>
  unfold pJ at h;split at h;·simp_all
  rename_i n e f;exact⟨⟨_,f⟩,λb=>by simp[c3,f]at b⟩;rename_i i b;exact⟨⟨_,b⟩,λc=>by simp[c3,b]at c⟩;simp at h
theorem Qq{k:TypeId->Bool}{D:Nat}(m:∀t,k t=true->(∃u,P.underlying t=some u)/\(c3 P t=false->P.cellsOf t=1))(E:∀t,k t=true->∀(b c:List IV)(w:World),vD b c->b.length=P.cellsOf t->c.length=P.cellsOf t->(Op.equalIn D t (valOf P t b) (valOf P t c)).run P w=.ok (decide (b=c)) w):
  ∀(d:List Field)(o n:Nat)(b c:List IV),uW P k o n d=true->vD b c->b.length=n->c.length=n ->
   (Op.eqFields D ⟨b.map iv⟩ ⟨c.map iv⟩ d).run P w=.ok (decide (b.drop o=c.drop o)) w:=by
 intro d;induction d with
 |nil=>intro o n b c h _ p q;have:=ca h;subst this;simp[Op.eqFields,pg (zx p),pg (zx q)]
 |cons f d r=>
  intro o n b c h z p q;simp only[uW,bD]at h;obtain⟨⟨⟨A,x⟩,l⟩,y⟩:=h;have l:=ca l;have j:∀(d:List Field)(o n:Nat),uW P k o n d=true->o<=n:=by
   intro d;induction d with
   |nil=>intro o n h;have:=ca h;omega
   |cons g F s=>intro o n h;simp[uW]at h;have:=s _ _ h.2;omega
  have j:=j _ _ _ y;obtain⟨⟨u,i⟩,e⟩:=m _ x;unfold Op.eqFields;rw[ah (by simpa using A)];simp[l,CK w i e b o aa,CK w i e c o aa];rw[E _ x _ _ w (z.part _ _) (by simp;omega) (by simp;omega)];rw[<-LR o];cases C:decide ((b.drop o).take (P.cellsOf f.type)=(c.drop o).take (P.cellsOf f.type))with
  |false=>simp
  |true=>exact r _ _ b c y z p q
theorem RB{e:TypeId}{D:Nat}{o:TypeDesc}(f:P.underlying e=some o)(d:c3 P e=false->P.cellsOf e=1)(t:∀(b c:List IV)(w:World),vD b c->b.length=P.cellsOf e->c.length=P.cellsOf e->(Op.equalIn D e (valOf P e b) (valOf P e c)).run P w=.ok (decide (b=c)) w)(b c:List IV) (q:vD b c):∀(m i n:Nat),i+m=n->b.length=n*P.cellsOf e->c.length=n*P.cellsOf e ->
   (do
    let r <-forIn (List.range' i m) (none,()) (λi _=>do
     let r <-Op.equalIn D e (<-part e ⟨b.map iv⟩ (i*P.cellsOf e)) (<-part e ⟨c.map iv⟩ (i*P.cellsOf e))
     if(!r)=true then pure (ForInStep.done (some false,()))else pure (ForInStep.yield (none,())))
    match r.1 with
     |some r=>pure r
     |none=>(pure true:Sem Bool)).run P w=.ok (decide (b.drop (i*P.cellsOf e)=c.drop (i*P.cellsOf e))) w:=by
 intro m;induction m with
 |zero=>intro i n h g j;have:i=n:=aa;subst this;simp[pg (zx g),pg (zx j)]
 |succ m k=>
  intro i n h g j;have s:=by have:(i+1)*P.cellsOf e<=n*P.cellsOf e:=gr _ aa;rw[kL]at this;exact this
  have l:=k (i+1) n aa g j;simp[vW,CK w f d b _ (by omega:i*P.cellsOf e+P.cellsOf e<=b.length),CK w f d c _ (by omega:i*P.cellsOf e+P.cellsOf e<=c.length)]at l⊢;rw[t _ _ w (q.part _ _) (by simp;omega) (by simp;omega)];rw[<-LR (i*P.cellsOf e)];rw[show(i+1)*P.cellsOf e=i*P.cellsOf e+P.cellsOf e from kL _ _]at l;cases p:decide ((b.drop (i*P.cellsOf e)).take (P.cellsOf e)=(c.drop (i*P.cellsOf e)).take (P.cellsOf e))with
  |false=>simp
  |true=>simp_all
theorem HT:∀(d:Nat)(t:TypeId),pJ P d t=true->∀(D:Nat),d<=D->∀(b c:List IV)(w:World),vD b c->b.length=P.cellsOf t->c.length=P.cellsOf t ->
  (Op.equalIn D t (valOf P t b) (valOf P t c)).run P w=.ok (decide (b=c)) w:=by
 intro d;induction d with
 |zero=>intro t h;simp[pJ]at h
 |succ d C=>
  intro t h D L b c w q s u;obtain⟨D,rfl⟩:∃E,D=E+1:=⟨D-1,aa⟩;unfold pJ at h;split at h
  ·rename_i G j;have m:=ca h;have f:c3 P t=false:=by simp[c3,j]
   rw[m]at s u;match b,c,s,u with
   |[(k,x)],[(H,y)],_,_=>
    have e:k=H:=by simpa[vD]using q
    subst e;simp only[valOf,f];refine(run_equalIn_int w D t k G _ _ j).trans ?_;congr 1;rw[pv];simp
  ·rename_i n e A;split at h
   ·rename_i m;have m:=ca m;obtain⟨⟨K,g⟩,l⟩:=EA d e h;obtain⟨N,p⟩:=nL g;have f:c3 P t=true:=by simp[c3,A]
    simp[valOf,f];have:=RB w g l (λb c w=>C e h D aa b c w) b c q n 0 n aa aa aa;simp at this;unfold Op.equalIn;simp only[cf,bP A,cn,c5 p,Std.Legacy.Range.forIn_eq_forIn_range',Std.Legacy.Range.size]at this⊢;simp at this⊢;refine Eq.trans (congrArg (Result.andThen _) (funext λa=>funext λO=>?_)) this;obtain⟨F,I⟩:=a;cases F<;>rfl
   simp at h
  ·rename_i z o;simp at h;have f:c3 P t=true:=by simp[c3,o]
   have i:P.fieldsOf t=z:=by simp[Program.fieldsOf,o]
   simp[valOf,f];rw[run_equalIn_struct w D t _ _ (by rw[i];exact o) h.2,i];have:=Qq w (λt r=>EA d t r) (λt r b c w=>C t r D aa b c w) z.toList 0 _ b c h.1 q s u;simpa using this
  simp at h
end
section
variable {P:Program}{w0:dn}{id:Nat}{ρ:aI}{B:b8}{w:World}{a:Act}{dst:Option Tmp}{ty:TypeId}{pos:String}{af:Array Edge}{gd:Option (Nat×Bool)}{out:Out}
theorem run_indexAt_array{t e:TypeId}{n b c:Nat}{k:IntKind}{i:Int}(h:P.underlying t=some (.array n e))(f:(P.info? e).isSome=true)(g:0<=i/\i<n):
  (Instr.indexAt t (.pointer (some ⟨b,c,none⟩)) (.int k i)).run P w=.ok (.pointer (some ⟨b,c+i.toNat*P.cellsOf e,none⟩)) w:=by
 obtain⟨j,d⟩:=Option.isSome_iff_exists.1 f;unfold Instr.indexAt;simp[asIntOf,bP h,Instr.sureAddr,ah g,c5 d,kM]
theorem run_indexAt_slice{t e:TypeId}{len d b c:Nat}{k:IntKind}{i:Int}(h:P.underlying t=some (.slice e))(g:(P.info? e).isSome=true)(j:0<=i/\i<len):
  (Instr.indexAt t (.slice (some ⟨b,c,none⟩) len d) (.int k i)).run P w=.ok (.pointer (some ⟨b,c+i.toNat*P.cellsOf e,none⟩)) w:=by
 obtain⟨l,f⟩:=Option.isSome_iff_exists.1 g;unfold Instr.indexAt;simp[asIntOf,bP h,ah j,c5 f,kM]
theorem n5{t:TypeId}(h:wY P t=true):(P.info? t).isSome=true/\(P.underlying t).isSome=true/\(c3 P t=false->P.cellsOf t=1):=by simp[wY]at h;obtain⟨⟨b,c⟩,d⟩:=h;refine⟨b,c,λe=>?_⟩;simp_all
theorem hY{t e:TypeId}{n:Nat}(h:m7 P t=true)(ht:P.underlying t=some (.array n e)\/P.underlying t=some (.slice e)):
  (P.info? e).isSome=true/\(P.underlying e).isSome=true/\(c3 P e=false->P.cellsOf e=1):=by
 refine n5 ?_;rcases ht with ht|ht<;>simpa[m7,ht]using h
theorem Da{t:TypeId}{f:Nat}{b:Field}(h:m7 P t=true)(d:uV P t f=some b):
  (P.info? b.type).isSome=true/\(P.underlying b.type).isSome=true/\(c3 P b.type=false->P.cellsOf b.type=1):=by
 obtain⟨g,c,e⟩:=ye d;simp only[m7,c,qQ]at h;exact n5 (h b (Array.mem_of_getElem? e))
theorem Co{i:Int}{n:Nat}(h:SY i n=true):0<=i/\i<n:=by
 unfold SY at h;split at h;·simp_all
 cases h
theorem RD(I:Ctx w0 id ρ B w){t:TypeId}{x y:Operand}{l:Bool}{vs:dq}(E:m7 P t=true)(h:C5 P t l vs=some out)(U:∀p∈out.pre,p)(R:bW ρ vs [a.eval x,a.eval y]):dc P id B ⟨dst,.indexAddr t x y,ty,pos,af,gd⟩ out ρ a w:=by
 unfold C5 at h;split at h;rename_i n e b O k i g;obtain⟨X,Y,r,d,f⟩:=dz R;simp at r;obtain⟨rfl,rfl⟩:=r;obtain⟨Z,D,A⟩:=qi d;have C:=cY f;obtain⟨F,V,W⟩:=hY E (.inl g);split at h;split at h;rename_i u;simp[ret]at h;subst h;exact bz I (cC rfl (by rw[A,C];exact run_indexAt_array g F (Co u))) (I7 D);simp at h;simp at h;subst h;exact bz I (cC rfl (by rw[A,C];exact run_indexAt_array g F (U _ az))) (I6 D rfl);rename_i n e b H j c k i g;obtain⟨X,Y,r,d,f⟩:=dz R;simp at r;obtain⟨rfl,rfl⟩:=r;obtain⟨Z,D,A⟩:=BC d;have C:=cY f;obtain⟨F,V,W⟩:=hY E (.inl g);split at h;rename_i u;simp[ret]at h;subst h;exact bz I (cC rfl (by rw[A,C];exact run_indexAt_array g F (Co u))) (I6 D aa);simp at h
 ·rename_i n e e' xs j O k i g;obtain⟨X,Y,r,d,f⟩:=dz R;simp at r;obtain⟨rfl,rfl⟩:=r;obtain⟨b,o,s,u,A⟩:=E0 d;have C:=cY f;obtain⟨F,V,W⟩:=hY E (.inl g);split at h;split at h;rename_i Q;simp[ret]at h;subst h;exact bz I (cC rfl (by rw[A,C];exact run_indexAt_array g F (Co Q))) (FE s u aa);simp at h
  ·split at h
   ·rename_i c z;simp at h;subst h;have hi:0<=i/\i<n:=U _ az;cases e' with
    |arr m T=>
     simp only[ab4]at z;split at z
     ·rename_i D;simp only[bD]at D;have h1:=ca D.1.1;have h2:=ca D.1.2;have h3:=fR D.2;simp only[cd]at z;subst z;subst h1;obtain⟨L,hM,hL,hR⟩:=s;have hg:=AU (λ_ _=>cK) hR u [];obtain⟨K,N⟩:=hg;have x1:j*aC (.arr m T)+aC (.arr m T)<=xs.length*aC (.arr m T):=by
       rw[<-kL];exact gr _ aa
      refine bz I (cC rfl (by rw[A,C];exact run_indexAt_array g F hi)) ⟨b,o+j*aC (.arr m T),⟨L,hM,?_,?_⟩,by rw[K];omega,?_⟩;rw[K];simp[aC]at hL x1⊢;omega;rw[K];rw[oW,nP,iI]at N;rw[jR aa]at N;exact N;rw[h2];simp[wg]
     simp at z
    |_=>simp[ab4]at z
   simp at h
 ·rename_i e b H O len c k i g;obtain⟨X,Y,r,d,f⟩:=dz R;simp at r;obtain⟨rfl,rfl⟩:=r;have C:=cY f;obtain⟨F,V,W⟩:=hY (n:=0) E (.inr g);split at h
  ·rename_i q;have q:=ca q;simp at h;subst h;have G:0<=i/\i<len:=U _ az;rcases p9 d with ⟨h0,_⟩|⟨Z,o,x0,D,hl,ho,_,A⟩;omega;have ho:o=H+O*c:=by
    rcases ho with ho|ho;exact ho;omega
   subst ho;exact bz I (cC rfl (by rw[A,C];exact run_indexAt_slice g F G)) (I6 D (by rw[Ke,eN,q];omega))
  simp at h
 rename_i e e' xs k i g;obtain⟨X,Y,r,d,f⟩:=dz R;simp at r;obtain⟨rfl,rfl⟩:=r;have C:=cY f;obtain⟨F,V,W⟩:=hY (n:=0) E (.inr g);split at h;rename_i q;have q:=ca q;simp at h;subst h;have G:0<=i/\i<xs.length:=U _ az;rcases BE d with ⟨h0,_⟩|⟨Z,o,x0,A,hl,s⟩;subst h0;simp at G;omega;exact bz I (cC rfl (by rw[A,C];exact run_indexAt_slice g F G)) (FE s aa (by rw[q];omega));simp at h;simp at h
theorem MQ{t:TypeId}{h:TypeDesc}(c:P.underlying t=some h)(o:c3 P t=false->P.cellsOf t=1){l:bn}{d:Nat}{x:TV}(k:c3 P t=true->x.rel ρ (.agg ⟨(l.drop d).take (P.cellsOf t)⟩)) (m:c3 P t=false->∃v,(l.drop d).take (P.cellsOf t)=[v]/\x.rel ρ v):∃v,(part t ⟨l⟩ d).run P w=.ok v w/\x.rel ρ v:=by
 obtain⟨n,e⟩:=nL c;cases b:c3 P t with
 |true=>refine⟨_,?_,k b⟩;unfold part;simp only[cf,nv c,cn,b,jo,c5 e];congr 2;simp
 |false=>
  obtain⟨v,f,g⟩:=m b;refine⟨v,?_,g⟩;unfold part;simp[nv c,b];rw[o b]at f;have:=congrArg (λl=>l[0]?) f;have j:=by simpa[gI]using this
  simp[j]
theorem agN(K:Ctx w0 id ρ B w){t:TypeId}{x y:Operand}{T:Bool}{Y:dq}(L:m7 P t=true)(h:Q6 P t T Y=some out)(V:∀p∈out.pre,p)(D:bW ρ Y [a.eval x,a.eval y]):dc P id B ⟨dst,.index t x y,ty,pos,af,gd⟩ out ρ a w:=by
 unfold Q6 at h;split at h
 ·rename_i n e cs X i C;obtain⟨z1,z2,F,g,j⟩:=dz D;obtain⟨rfl,rfl⟩:=F;have H:=cY j;obtain⟨l,G,W⟩:=g;obtain⟨q1,q2,E⟩:=hY L (.inl C);obtain⟨ds,o⟩:=Option.isSome_iff_exists.1 q2;obtain⟨ie,N⟩:=Option.isSome_iff_exists.1 q1;have A:0<=i/\i<n->∀(v:Value),(part e ⟨l⟩ (i.toNat*P.cellsOf e)).run P w=.ok v w ->
    (Instr.index t (a.eval x) (a.eval y)).run P w=.ok v w:=by
   intro q v D;rw[G,H];unfold Instr.index;simp[asIntOf,bP C,ah q,c5 N];exact D
  split at h;split at h;rename_i m b hm;split at h;rename_i z Q;simp[ret]at h;subst h;obtain⟨R,u⟩:=yP hm W;obtain⟨g1,g2⟩:=qh Q R (λh=>by rw[E h]at u⊢;simp;omega);obtain⟨v,d,f⟩:=MQ o E g1 g2;exact bz K (cC rfl (A (Co b) v d)) f;simp at h;simp at h
  ·split at h
   ·rename_i c;split at h
    ·rename_i Z m xs s;split at h
     ·rename_i z k Q;simp only[bD]at k;have I:=ca k.1;have x0:=fR k.2;simp at h;subst h;have q:0<=i/\i<n:=V _ az;obtain⟨R,u,k3⟩:=mr s (dP W);simp only at R u k3;have r:=iu (λ_ _=>cK) u;have U:=AU (λ_ _=>cK) u (i:=i.toNat) aa (gn Z);rw[I]at U r;have O:i.toNat*P.cellsOf e+P.cellsOf e<=l.length:=by
       rw[r,<-kL];exact gr _ aa
      obtain⟨g1,g2⟩:=qh Q (jL U) (λh=>by rw[E h]at O⊢;simp;omega);obtain⟨v,d,f⟩:=MQ o E g1 g2;exact bz K (cC rfl (A q v d)) f
     simp at h
    simp at h
   simp at h
 ·rename_i sx X i C;obtain⟨z1,z2,F,g,j⟩:=dz D;obtain⟨rfl,rfl⟩:=F;have G:=cY g;have H:=cY j;simp only[cd]at h;subst h;have q:0<=i/\i<sx.size:=V _ az;have b:i.toNat<sx.size:=aa;have k:(lz sx).getD i.toNat 0=(sx[i.toNat]'b).toNat:=by
   have hl:=by simpa using b
   simp[lz,bO hl];rfl
  refine bz K (cC rfl ?_) (nU rfl);rw[G,H,run_index_string w t sx X i C,dif_pos q,k]
 simp at h
theorem agM(u:Ctx w0 id ρ B w){t:TypeId}{x:Operand}{f:Nat}{C:dq}(k:m7 P t=true)(h:Q5 P t f C=some out)(H:bW ρ C [a.eval x]):dc P id B ⟨dst,.field t x f,ty,pos,af,gd⟩ out ρ a w:=by
 unfold Q5 at h;split at h
 ·rename_i D cs d;obtain⟨z,e,q⟩:=cI H;simp at e;subst e;obtain⟨l,s,G⟩:=q;obtain⟨O,Q,r⟩:=Da k d;obtain⟨R,c⟩:=Option.isSome_iff_exists.1 Q;obtain⟨K,i⟩:=Option.isSome_iff_exists.1 O;obtain⟨T,g,A⟩:=ye d;split at h
  ·rename_i m F;obtain⟨o,n⟩:=yP F G;split at h
   ·rename_i y I;simp[ret]at h;subst h;obtain⟨L,N⟩:=qh I o (λh=>by rw[r h];simp;rw[r h]at n;omega);cases b:c3 P D.type with
    |true=>refine bz u (cC rfl ?_) (L b);rw[s];unfold Instr.field part;simp only[cf,bP g,cn,A,asAgg,nv c,b,jo,c5 i];congr 2;simp
    |false=>
     obtain⟨v,j,p⟩:=N b;refine bz u (cC rfl ?_) p;rw[s];unfold Instr.field part;simp[bP g,A,asAgg,nv c,b];rw[r b]at j;have:=congrArg (λl=>l[0]?) j;have E:=by simpa[gI]using this
     simp[E]
   simp at h
  simp at h
 simp at h
theorem Wf:∀{l:List TV}{b:bn}{i:Nat}{x:TV},gh ρ l b->l[i]?=some x->∃v,b[i]?=some v/\x.rel ρ v:=by
 intro l;induction l with
 |nil=>simp_all
 |cons t g f=>
  intro b i x c h;obtain⟨y,j,rfl,d,e⟩:=c;cases i with
  |zero=>simp_all
  |succ i=>simp_all
theorem Y0(j:Ctx w0 id ρ B w){x:Operand}{i:Nat}{f:dq}(h:H9 i f=some out)(l:bW ρ f [a.eval x]):dc P id B ⟨dst,.extract x i,ty,pos,af,gd⟩ out ρ a w:=by unfold H9 at h;split at h;obtain⟨z,e,d⟩:=cI l;simp at e;subst e;obtain⟨n,g,k⟩:=d;split at h;rename_i y m;simp[ret]at h;subst h;obtain⟨v,b,c⟩:=Wf k m;refine bz j (cC rfl ?_) c;rw[g];simp[Instr.extract,b];simp at h;simp at h
theorem VW{b:BinOp}{t:TypeId}{k:IntKind}{i j:Int}{v:Value}{p:gi}(e:KR b=false)(h:OX b k i j=some (v,p))(d:∀q∈p,q):
  (binOp b t (.int k i) (.int k j)).run P w=.ok v w/\v.oneCell'=true:=by
 cases b<;>simp[KR]at e<;>simp[OX]at h<;>obtain⟨rfl,rfl⟩:=h<;>refine⟨?_,rfl⟩ <;>
  first
   |(simp[binOp,Op.intArith];done)
   |(simp[binOp,Op.intBits,aN];done)
   |(simp[binOp,Op.intCmp];done)
   |(have c:=d _ (List.mem_singleton.2 rfl);simp[binOp,Op.intDiv,c];done)
theorem VX{b:BinOp}{t:TypeId}{k d:IntKind}{i j:Int}{v:Value}(h:Qw b k i j=some v)(e:0<=j):
  (binOp b t (.int k i) (.int d j)).run P w=.ok v w/\v.oneCell'=true:=by
 have c:¬j<0:=aa;cases b<;>simp[Qw]at h<;>subst h<;>refine⟨?_,rfl⟩<;>simp[binOp,Op.shift,c]
theorem Ae{b:BinOp}{t:TypeId}{x y:Operand}{k c:IntKind}{i j:Int}:(eqGuard b t x y (.int k i) (.int c j)).run P w=.ok () w:=by cases b<;>simp[eqGuard]
theorem yK{b:BinOp}{t:TypeId}{x y:Operand}{i j:Bool}:(eqGuard b t x y (.bool i) (.bool j)).run P w=.ok () w:=by cases b<;>simp[eqGuard]
theorem iZ{c:ax}{b:Bool}{v:Value}(h:xU c=some b)(d:(SV.is (.one c)).rel ρ v):v=.bool b:=by
 cases c with
 |T=>simp[xU]at h;subst h;have:[v]=_:=d;simpa using this
 |F=>simp[xU]at h;subst h;have:[v]=_:=d;simpa using this
 |v x=>cases x<;>simp[xU]at h;subst h;exact cY d
 |_=>simp[xU]at h
theorem M8{t:TypeId}{k:Bool}{cs z:cb}{u v:Value}(h:xEq P t k cs z=some out)(A:∀p∈out.pre,p)(G:(SV.is (.agg cs)).rel ρ u)(H:(SV.is (.agg z)).rel ρ v)(x y:Operand):
  ∃r p,out={val:=.is (.one (.v (.bool r))),pre:=p}/\(do eqGuard (bif k then .neq else .eql) t x y u v;binOp (bif k then .neq else .eql) t u v).run P w=.ok (.bool r) w:=by
 unfold xEq at h;split at h
 ·rename_i e F L;split at h
  ·rename_i l V m W I K i;simp at h;subst h;refine⟨_,_,rfl,?_⟩;simp only[bD,zl]at i;obtain⟨⟨⟨c,o⟩,i⟩,j⟩:=i;have j:=ca j;obtain⟨T,C,Q⟩:=G;obtain⟨U,D,R⟩:=H;obtain⟨X,Y,f1,f2,f3⟩:=lT (rk ρ) _ _ _ _ _ _ I (λp d=>A p (jN _ d)) Q;obtain⟨Z,v2,g1,g2,n⟩:=lT (rk ρ) _ _ _ _ _ _ K (λp d=>A p (kH _ d)) R;have f3:=f3;have n:=n;subst f3 n;rw[bF]at f1 g1;subst f1 g1;obtain⟨f,q⟩:=Fv c f2;obtain⟨g,s⟩:=Fv c g2;have N:(fl e l).length=P.cellsOf t:=by rw[<-j,<-cK f2,f];simp
   have O:(fl e m).length=P.cellsOf t:=by rw[<-j,<-cK g2,g];simp
   have b:=HT 20 t F 10000 aa (fl e l) (fl e m) w (q.trans s.symm) N O;have E:decide (fl e l=fl e m)=p3 e l m:=by rw[pv,jO,Ba];exact⟨ah3 c f2 g2,λh=>by rw[h]⟩
   rw[E]at b;simp[valOf,o]at b;rw[C,D,f,g];cases k with
   |true=>simp[run_eqGuard_agg w _ t x y _ _ i,run_neq_struct,b]
   |false=>simp[run_eqGuard_agg w _ t x y _ _ i,run_eql_struct,b]
  simp at h
 simp at h
theorem kS{b:BinOp}{t:TypeId}{x y:Operand}{p q:Option Addr}:(eqGuard b t x y (.pointer p) (.pointer q)).run P w=.ok () w:=by cases b<;>simp[eqGuard]
theorem mQ{t pt:TypeId}(c:P.underlying t=some (.pointer pt)){b:Option Addr}:(Op.equal t (.pointer b) (.pointer none)).run P w=.ok b.isNone w:=by unfold Op.equal Op.maxDepth;rw[show 10000=9999+1 from rfl,Op.equalIn];cases b<;>simp[bP c]<;>rfl
theorem Rp{c:ax}{v:Value}(h:KQ c=true)(b:(SV.is (.one c)).rel ρ v):v=.pointer none:=by unfold KQ at h;split at h;exact cY b;cases h
theorem OZ{c:ax}{v:Value}(h:OY c=true)(d:(SV.is (.one c)).rel ρ v):∃f,v=.pointer (some f):=by cases c<;>simp[OY]at h;obtain⟨b,_,e⟩:=qi d;exact⟨_,e⟩;obtain⟨b,_,e⟩:=BC d;exact⟨_,e⟩;obtain⟨b,o,_,_,e⟩:=E0 d;exact⟨_,e⟩
theorem alN(l:Ctx w0 id ρ B w){F:BinOp}{t O:TypeId}{x y:Operand}{G:dq}(h:ac8 P F t G=some out)(A:∀p∈out.pre,p)(D:bW ρ G [a.eval x,a.eval y]):dc P id B ⟨dst,.binOp F t x y O,ty,pos,af,gd⟩ out ρ a w:=by unfold ac8 at h;split at h;rename_i k i R j;obtain⟨H,I,s,b,f⟩:=dz D;obtain⟨rfl,rfl⟩:=s;have e:=cY b;have g:=cY f;split at h;split at h;rename_i v E;simp at h;subst h;obtain⟨g1,g2⟩:=VX E (A _ az);exact bz l (cC rfl (by rw[e,g];simp[Ae];exact g1)) (nU g2);simp at h;rename_i N;split at h;rename_i v p z u;simp at z;subst z;simp at h;subst h;obtain⟨g1,g2⟩:=VW N u A;exact bz l (cC rfl (by rw[e,g];simp[Ae];exact g1)) (nU g2);simp at h;rename_i cs Q;obtain⟨H,I,s,b,f⟩:=dz D;obtain⟨rfl,rfl⟩:=s;split at h;obtain⟨r,p,rfl,C⟩:=M8 (w:=w) h A b f x y;exact bz l (cC rfl C) (nU rfl);obtain⟨r,p,rfl,C⟩:=M8 (w:=w) h A b f x y;exact bz l (cC rfl C) (nU rfl);simp at h;rename_i c d _;obtain⟨H,I,s,b,f⟩:=dz D;obtain⟨rfl,rfl⟩:=s;split at h;rename_i m;split at h;rename_i p q n o;have e:=iZ n b;have g:=iZ o f;simp[gY]at h;subst h;exact bz l (cC rfl (by rw[e,g];simp[yK,binOp,run_equal_bool w t p q m])) (nU rfl);rename_i p q n o;have e:=iZ n b;have g:=iZ o f;simp[gY]at h;subst h;exact bz l (cC rfl (by rw[e,g];simp[yK,binOp,run_equal_bool w t p q m])) (nU rfl);simp at h;rename_i pt m;split at h;rename_i L;have g:=Rp L f;split at h;rename_i u;obtain⟨K,e⟩:=OZ u b;simp[ret]at h;subst h;refine bz l (cC rfl ?_) rfl;rw[e,g];simp[kS,binOp,mQ m,Option.isNone_some];rename_i u;obtain⟨K,e⟩:=OZ u b;simp[ret]at h;subst h;refine bz l (cC rfl ?_) rfl;rw[e,g];simp[kS,binOp,mQ m,Option.isNone_some];split at h;obtain⟨e,_⟩:=b;have e:[_]=[_]:=e;simp at e;simp[gY]at h;subst h;refine bz l (cC rfl ?_) (nU rfl);rw[e,g];simp only[cf,kS,cn,binOp,mQ m,c1];simp;have e:=cY b;simp[ret]at h;subst h;refine bz l (cC rfl ?_) rfl;rw[e,g];simp[kS,binOp,mQ m,Option.isNone_none];simp at h;split at h;obtain⟨e,_⟩:=b;have e:[_]=[_]:=e;simp at e;simp[gY]at h;subst h;refine bz l (cC rfl ?_) (nU rfl);rw[e,g];simp only[cf,kS,cn,binOp,mQ m,c1];simp;have e:=cY b;simp[ret]at h;subst h;refine bz l (cC rfl ?_) rfl;rw[e,g];simp[kS,binOp,mQ m,Option.isNone_none,Bool.not_true];simp at h;simp at h;simp at h;simp at h;simp at h
theorem apt(d:Ctx w0 id ρ B w){g:UnOp}{t:TypeId}{x:Operand}{i:dq}(h:xUn g i=some out)(f:bW ρ i [a.eval x]):dc P id B ⟨dst,.unOp g t x,ty,pos,af,gd⟩ out ρ a w:=by unfold xUn at h;split at h;obtain⟨z,e,b⟩:=cI f;simp at e;subst e;have c:=iZ rfl b;simp[ret]at h;subst h;exact bz d (cC rfl (by rw[c];simp[Op.unary])) (show [Value.bool false]=_ from rfl);obtain⟨z,e,b⟩:=cI f;simp at e;subst e;have c:=iZ rfl b;simp[ret]at h;subst h;exact bz d (cC rfl (by rw[c];simp[Op.unary])) (show [Value.bool true]=_ from rfl);obtain⟨z,e,b⟩:=cI f;simp at e;subst e;have c:=cY b;simp[gY]at h;subst h;exact bz d (cC rfl (by rw[c];simp[Op.unary])) (nU rfl);obtain⟨z,e,b⟩:=cI f;simp at e;subst e;have c:=cY b;simp[gY]at h;subst h;exact bz d (cC rfl (by rw[c];simp[Op.unary,Op.intArith])) (nU rfl);obtain⟨z,e,b⟩:=cI f;simp at e;subst e;have c:=cY b;simp[gY]at h;subst h;exact bz d (cC rfl (by rw[c];rfl)) (nU rfl);simp at h
end
theorem XD(b:Nat):∀(u:bn)(s:Nat)(l:bn),b+s+u.length<=l.length ->
  (u.zipIdx s).foldl (λ(cs:Array Value) p=>cs.setIfInBounds (b+p.2) p.1) ⟨l⟩=⟨l.take (b+s)++(u++l.drop (b+s+u.length))⟩:=by
 intro u;induction u with
 |nil=>intro s l _;simp
 |cons x u f=>
  intro s l h;simp only[List.zipIdx_cons,List.foldl_cons];have e:b+s<l.length:=by simp at h;omega
  rw[show(⟨l⟩:Array Value).setIfInBounds (b+s) x=⟨l.set (b+s) x⟩from by simp];rw[f (s+1) _ (by simp at h⊢;omega)];have c:(l.set (b+s) x).take (b+(s+1))=l.take (b+s)++[x]:=by rw[show b+(s+1)=(b+s)+1 from by omega,dA (by simpa using e)];simp[List.take_set_of_le]
  have d:(l.set (b+s) x).drop (b+(s+1)+u.length)=l.drop (b+s+(x::u).length):=by rw[List.drop_set_of_lt aa];congr 1;simp;omega
  rw[c,d];simp
def HD(ρ:aI):g9->List (Nat×Value)->Prop
 |[],b=>b=[]
 |p::d,b=>∃x c,b=(p.1,x)::c/\p.2.rel ρ x/\HD ρ d c
theorem EV{ρ:aI}:∀(c:List Nat)(b:dq)(d:bn),c.length=b.length->bW ρ b d->HD ρ (c.zip b) (c.zip d):=by
 intro c;induction c with
 |nil=>intro b d h e;cases b<;>simp at h;rfl
 |cons i c k=>
  intro b d h e;cases b with
  |nil=>simp at h
  |cons v b=>obtain⟨x,f,rfl,g,j⟩:=e;exact⟨x,c.zip f,rfl,g,k b f (by simp_all) j⟩
theorem Oq{ρ:aI}{c:Nat->Option (Nat×Nat)}:∀(f:g9)(j:List (Nat×Value))(cs b:cb)(l:bn),
  HD ρ f j->tO c cs f=some b->aH ρ cs l->∃g,Instr.fill c ⟨l⟩ j=some ⟨g⟩/\aH ρ b g:=by
 intro f;induction f with
 |nil=>intro j cs b l m h q;have:=m;subst this;simp[tO]at h;subst h;exact⟨l,rfl,q⟩
 |cons p f F=>
  intro j cs b l m h q;obtain⟨x,H,rfl,z,A⟩:=m;obtain⟨i,v⟩:=p;cases v with
  |is I=>
   simp[tO]at h;split at h
   ·rename_i y G o;split at h
    ·rename_i s;split at h
     ·rename_i k d;obtain⟨u,D,e⟩:=TV.Ad z;obtain⟨r,C⟩:=HM d q e;obtain⟨g,g1,g2⟩:=F H k b _ A h r;refine⟨g,?_,g2⟩;unfold Instr.fill;have E:u.length=G:=by rw[iR e];exact ca s
      simp only[o,D];rw[ai (by simp;omega)];have:=XD y u 0 l aa;simp_all
     simp at h
    simp at h
   simp at h
  |_=>simp[tO]at h
section
variable {P:Program}{w0:dn}{id:Nat}{ρ:aI}{B:b8}{w:World}{a:Act}{dst:Option Tmp}{ty:TypeId}{pos:String}{af:Array Edge}{gd:Option (Nat×Bool)}{out:Out}
theorem run_places:∀(b:List Field),(∀f∈b,(P.info? f.type).isSome=true) ->
  (b.mapM λf=>(do pure (f.offset,<-Go.sizeOf f.type):Sem (Nat×Nat))).run P w=.ok (b.map λf=>(f.offset,P.cellsOf f.type)) w:=by
 intro b;induction b with
 |nil=>simp_all
 |cons f b e=>intro h;obtain⟨i,d⟩:=Option.isSome_iff_exists.1 (h f az);simp only[List.mapM_cons,cf,c5 d,cn,c1,e (λg c=>h g (by simp[c]))];simp
theorem Dg(b:List (Nat×Operand)):(b.map λp=>(p.1,a.eval p.2))=(b.map (·.1)).zip (b.map λp=>a.eval p.2):=by
 induction b with
 |nil=>rfl
 |cons p b c=>simp_all
theorem Ir{e:TypeId}{n:Nat}{cs:cb}{l:bn}(b:∀p∈(AZ P e n cs).2,p)(c:aH ρ cs l):aH ρ (AZ P e n cs).1 l:=by unfold AZ at b⊢;split;rename_i m d;simp[d]at b;split;rename_i s h g;simp[g]at b;obtain⟨o,q,f,i,j,k⟩:=PV (λcs x h r l=>lT (rk ρ) m cs x h r l) _ _ _ _ _ _ g b c;subst k;rw[bF]at f;subst f;exact ct (ib i j);exact c;exact c
theorem Uz{t:TypeId}{cs:cb}{l:bn}(b:∀p∈(DZ P t cs).2,p)(c:aH ρ cs l):aH ρ (DZ P t cs).1 l:=by unfold DZ at b⊢;split;rename_i n e d;simp[d]at b;exact Ir b c;exact c
theorem agK(C:Ctx w0 id ρ B w){t:TypeId}{k:Array (Nat×Operand)}{y:dq}(g:m7 P t=true)(h:Q4 P t (k.toList.map (·.1)) y=some out)(F:∀p∈out.pre,p)(H:bW ρ y (k.toList.map λp=>a.eval p.2)):dc P id B ⟨dst,.build t k,ty,pos,af,gd⟩ out ρ a w:=by
 unfold Q4 at h;split at h
 ·rename_i cs d c I;split at h
  ·rename_i A D;simp at h;subst h;have c:=ca c;obtain⟨i,z,E,u,G⟩:=Fm I;have m:=EV _ y _ c H;rw[<-Dg]at m;obtain⟨K,g1,g2⟩:=Oq _ _ _ _ _ m D G;refine bz C (cC rfl ?_) ⟨K,rfl,Uz F g2⟩;unfold Instr.build zeroValue;simp only[cf,uz E,cn,u,c1];unfold c3 at d;split at d
   ·rename_i o j;simp only[bP j,cn];have l:∀f∈o.toList,(P.info? f.type).isSome=true:=by
     intro f r;simp only[m7,j,qQ]at g;exact(n5 (g f (Array.mem_toList_iff.1 r))).1
    rw[Array.mapM_eq_mapM_toList];simp only[cf,Sem.run_map,run_places _ l,cn];have b:(λx=>(o.toList.map λf=>(f.offset,P.cellsOf f.type)).toArray[x]?)=yr P t:=by funext x;simp only[yr,j];simp;cases o[x]? <;> rfl
    simp only[b];rw[show((k.map λp=>(p.1,a.eval p.2)).toList)=k.toList.map λp=>(p.1,a.eval p.2)from by simp];rw[show z.cells=⟨z.cells.toList⟩from rfl,g1];simp
   ·rename_i n e q;obtain⟨L,O,Q⟩:=hY g (.inl q);obtain⟨N,s⟩:=Option.isSome_iff_exists.1 L;simp only[bP q,cn,cf,c5 s];have b:(λi=>some (i*P.cellsOf e,P.cellsOf e))=yr P t:=by
     funext x;simp[yr,q]
    simp only[b];rw[show((k.map λp=>(p.1,a.eval p.2)).toList)=k.toList.map λp=>(p.1,a.eval p.2)from by simp];rw[show z.cells=⟨z.cells.toList⟩from rfl,g1];simp
   simp at d
  simp at h
 simp at h
theorem D2{cs:cb}{l:bn}(h:aH ρ cs l):∀n,aH ρ (rep n cs) (rep n l):=by
 intro n;induction n with
 |zero=>rfl
 |succ n b=>exact iQ h b
theorem MO(l:bn)(f:l≠[]):∀n,(Array.range (n*l.length)).map (λi=>(⟨l⟩:Array Value)[i%(⟨l⟩:Array Value).size]!)=⟨rep n l⟩:=by
 intro n;apply lk;simp;induction n with
 |zero=>simp[rep]
 |succ n c=>
  rw[kL,List.range_add,cE,c];have:∀n,rep n l++l=rep (n+1) l:=by
   intro n;induction n with
   |zero=>simp[rep]
   |succ n c=>rw[rep,cZ,c];simp[rep]
  rw[<-this n];congr 1;apply oT;simp
  ·intro i b e;simp at b;have d:(n*l.length+i)%l.length=i:=by
    rw[mo,Nat.add_mul_mod_self_right,jQ b]
   simp[d];simp[b]
theorem Ju{c:Type}(l:List c):∀n,(rep n l).length=n*l.length:=by
 intro n;induction n with
 |zero=>simp[rep]
 |succ n b=>simp[rep,b,kL,mo]
theorem GK:∀(cs:cb)(n:Nat)(a b:cb),ka cs n=some (a,b)->dk a=n/\n+dk b=dk cs:=by
 intro cs;induction cs with
 |nil=>
  intro n a b h;cases n with
  |zero=>obtain⟨rfl,rfl⟩:=h;simp[dk]
  |succ n=>simp[ka]at h
 |cons c cs k=>
  intro n a b h;cases n with
  |zero=>obtain⟨rfl,rfl⟩:=h;simp[dk]
  |succ n=>
   simp[ka]at h;split at h
   ·rename_i e m t d;have g:c.size=m*aC e:=by
     cases c<;>simp[mW]at d;obtain⟨rfl,d⟩:=d;obtain⟨rfl,_⟩:=(by simpa using d);simp[ax.size,aC];obtain⟨rfl,d⟩:=d;obtain⟨rfl,_⟩:=(by simpa using d);rfl
    split at h;rename_i f;have f:=hX f;split at h;rename_i j;have j:=ca j;obtain⟨rfl,rfl⟩:=h;simp[dk,Vn,g,Nat.sub_mul];generalize (n+1)/aC e*aC e=q at *;omega;simp at h;rename_i f;have f:=zA f;split at h;rename_i l o i;obtain⟨rfl,rfl⟩:=h;obtain⟨r,s⟩:=k _ _ _ i;simp[dk,g];omega;simp at h
   ·rename_i d;have p:c.size=1:=by cases c<;>simp[mW]at d<;>rfl
    split at h;rename_i l o i;obtain⟨rfl,rfl⟩:=h;obtain⟨r,s⟩:=k _ _ _ i;simp[dk,p];omega;simp at h
theorem GZ(a b:cb):dk (a++b)=dk a+dk b:=by
 induction a with
 |nil=>simp[dk]
 |cons c cs d=>simp[dk,d,wg]
theorem YL{cs d b:cb}{e:Nat}(h:HK cs e d=some b):dk b=dk cs:=by
 unfold HK at h;cases f:ka cs e with
 |none=>simp_all
 |some p=>
  obtain⟨a,r⟩:=p;rw[f]at h;simp only at h;cases c:ka r (dk d)with
  |none=>simp_all
  |some g=>obtain⟨k,l⟩:=g;rw[c]at h;simp at h;subst h;have i:=GK _ _ _ _ f;have j:=GK _ _ _ _ c;simp[GZ];omega
theorem UX{c:Nat->Option (Nat×Nat)}:∀{d:g9}{cs b:cb},tO c cs d=some b->dk b=dk cs:=by
 intro d;induction d with
 |nil=>intro cs b h;simp[tO]at h;rw[h]
 |cons p d f=>
  intro cs b h;obtain⟨i,x⟩:=p;cases x with
  |is x=>simp[tO]at h;split at h;split at h;split at h;rename_i e;rw[f h,YL e];simp at h;simp at h;simp at h
  |_=>simp[tO]at h
theorem Qs(O:Ctx w0 id ρ B w){t:TypeId}{len:Nat}{k:Array (Nat×Operand)}{C:dq}(s:m7 P t=true)(h:AR P id t len (k.toList.map (·.1)) C=some out)(R:∀p∈out.pre,p)(T:bW ρ C (k.toList.map λp=>a.eval p.2)):dc P id B ⟨dst,.buildSlice t len k,ty,pos,af,gd⟩ out ρ a w:=by
 unfold AR at h;split at h
 ·rename_i e G b;split at h
  ·rename_i cs H r;simp only[bD]at r;have L:=by simpa[sW]using r.1.1
   have N:=by simpa[sW]using r.1.2
   split at h
   ·rename_i I E;split at h;simp at h;rename_i d W m;simp at h;subst h;have b:=ca b;obtain⟨i,z,F,A,y⟩:=Fm H;have o:=EV _ C _ b T;rw[<-Dg]at o;obtain⟨U,g1,g2⟩:=Oq _ _ _ _ _ o E (D2 y len);obtain⟨X,Y,Z⟩:=hY (n:=0) s (.inr G);have f:z.cells.toList.length=P.cellsOf e:=by
     rw[iR y];have:=ca r.2;simpa[H]using this
    have u:len*P.cellsOf e=U.length:=by rw[iR g2,UX E,<-iR (D2 y len),Ju,f]
    have D:execOp a.eval ⟨dst,.buildSlice t len k,ty,pos,af,gd⟩=(do pure (.value (<-Instr.buildSlice t len (k.map λ(i,x)=>(i,a.eval x))))):=rfl;have l:(λ(i,x)=>(i,a.eval x):Nat×Operand->Nat×Value)=λp=>(p.1,a.eval p.2):=rfl;rw[l]at D;refine vJ O (t:=e) (cC D ?_) (by rw[<-m];exact Ir R g2) (λV h Q=>.inr ⟨_,0,len,h,aQ _,.inl az,by rw[Q];simp[u],rfl⟩);unfold Instr.buildSlice zeroValue;simp only[cf,bP G,cn,c5 F,Sem.run_ite];rw[ai aa];have c:=by have:=MO z.cells.toList (by intro K;rw[K]at f;simp at f;omega) len;rw[f]at this;exact this
    have q:(k.map λp=>(p.1,a.eval p.2)).toList=k.toList.map λp=>(p.1,a.eval p.2):=az;by_cases g:len*P.cellsOf e=0
    ·have j:len=0:=by
      rcases Nat.mul_eq_zero.1 g with h|h;exact h;omega
     subst j;simp only[g,jo,c1,cn];rw[q];simp[rep]at g1;rw[show(Array.map (λi=> #[][i % #[].size]!) (Array.range 0))=⟨[]⟩from by simp,g1];rfl
    simp only[g,mq,uz F,cn,A,c1];rw[c,q,g1];rfl
   simp at h
  simp at h
 simp at h
def kY(c:Option Int)(b:Nat):Nat:=match c with
 |some m=>m.toNat
 |none=>b
theorem xT{n b:Nat}(H:n<=b){F D G:Option Operand}{r:dq}{l h:Int}{m:Option Int}{p:gi}(d:NV n F D G r=some (l,h,m,p))(u:∀q∈p,q)(A:bW ρ r ((F.map a.eval).toList++((D.map a.eval).toList++(G.map a.eval).toList))) (E:Bool):
  0<=l/\l<=h/\h<=n/\h<=(kY m b:Int)/\kY m b<=b/\(Instr.sliceBounds E n b (F.map a.eval) (D.map a.eval) (G.map a.eval)).run P w=.ok (l.toNat,h.toNat,kY m b) w:=by
 unfold NV at d;split at d;simp at d;obtain⟨rfl,rfl,rfl,rfl⟩:=d;refine⟨aa,aa,aa,by simp[kY];omega,by simp[kY],?_⟩;simp[Instr.sliceBounds,kY];rename_i x k y;simp at d;obtain⟨rfl,rfl,rfl,rfl⟩:=d;obtain⟨z,e,o⟩:=cI A;simp at e;subst e;have j:=cY o;have s:0<=y/\y<=n:=u _ az;refine⟨aa,aa,aa,by simp[kY];omega,by simp[kY],?_⟩;simp[Instr.sliceBounds,j,Instr.sliceBound,asIntOf,ah (show 0<=y/\y<=b from⟨s.1,aa⟩)];rfl;rename_i x k y;simp at d;obtain⟨rfl,rfl,rfl,rfl⟩:=d;obtain⟨z,e,o⟩:=cI A;simp at e;subst e;have j:=cY o;have s:0<=y/\y<=n:=u _ az;refine⟨aa,aa,aa,by simp[kY];omega,by simp[kY],?_⟩;simp[Instr.sliceBounds,j,Instr.sliceBound,asIntOf,ah s];rfl;rename_i x K k y I c;simp at d;obtain⟨rfl,rfl,rfl,rfl⟩:=d;obtain⟨z,L,e,o,g⟩:=dz A;simp at e;obtain⟨rfl,rfl⟩:=e;have j:=cY o;have f:=cY g;have s:0<=y/\y<=c/\c<=n:=u _ az;refine⟨aa,aa,aa,by simp[kY];omega,by simp[kY],?_⟩;simp only[Instr.sliceBounds,vZ,fU,j,f,Instr.sliceBound,asIntOf,cf,c1,cn,Sem.run_ite,ah (show 0<=c/\c<=b from⟨aa,aa⟩),ah (show 0<=y/\y<=c.toNat from⟨aa,aa⟩)];rfl;rename_i x K k y I c;simp at d;obtain⟨rfl,rfl,rfl,rfl⟩:=d;obtain⟨z,L,e,o,g⟩:=dz A;simp at e;obtain⟨rfl,rfl⟩:=e;have j:=cY o;have f:=cY g;have s:0<=y/\y<=c/\c<=n:=u _ az;refine⟨aa,aa,aa,by simp[kY];omega,by simp[kY];omega,?_⟩;simp only[Instr.sliceBounds,vZ,fU,j,f,Instr.sliceBound,asIntOf,cf,c1,cn,Sem.run_ite,ah (show 0<=c/\c<=b from⟨aa,aa⟩),ah (show 0<=y/\y<=c.toNat from⟨aa,aa⟩)];rfl;rename_i x K O k y I c N i;simp at d;obtain⟨rfl,rfl,rfl,rfl⟩:=d;obtain⟨z,L,Q,e,o,g,C⟩:=si A;simp at e;obtain⟨rfl,rfl,rfl⟩:=e;have j:=cY o;have f:=cY g;have t:=cY C;have s:0<=y/\y<=c/\c<=i/\i<=n:=u _ az;refine⟨aa,aa,aa,by simp[kY];omega,by simp[kY];omega,?_⟩;simp only[Instr.sliceBounds,fU,j,f,t,Instr.sliceBound,asIntOf,cf,c1,cn,Sem.run_ite,ah (show 0<=i/\i<=b from⟨aa,aa⟩),ah (show 0<=c/\c<=i.toNat from⟨aa,aa⟩),ah (show 0<=y/\y<=c.toNat from⟨aa,aa⟩)];rfl;simp at d
theorem Wx{e:Kd}{M:Mem}{b o l n:Nat}{d:List (a6 e)}(h:n9 (Rd M e) (aC e) M b o d)(k:l+n<=d.length):n9 (Rd M e) (aC e) M b (o+l*aC e) ((d.drop l).take n):=by
 obtain⟨L,i,p,j⟩:=h;have g:=(jn (λ_ _=>cK) l j).2;have f:=(jn (λ_ _=>cK) n g).1;have m:l*aC e+n*aC e<=d.length*aC e:=by rw[<-eN];exact gr _ k
 have c:((d.drop l).take n).length=n:=by simp;omega
 refine⟨L,i,by rw[c];omega,?_⟩;rw[c];rw[oW,nP,iI,jR aa]at f;exact f
theorem agP(K:Ctx w0 id ρ B w){t:TypeId}{x:Operand}{lo Y mx:Option Operand}{vs:dq}(Q:m7 P t=true)(h:Q8 P t lo Y mx vs B=some out)(hp:∀p∈out.pre,p)(hv:bW ρ vs (a.eval x::((lo.map a.eval).toList++((Y.map a.eval).toList++(mx.map a.eval).toList)))):dc P id B ⟨dst,.slice t x lo Y mx,ty,pos,af,gd⟩ out ρ a w:=by
 have j:execOp a.eval ⟨dst,.slice t x lo Y mx,ty,pos,af,gd⟩=(do pure (.value (<-Instr.sliceAt t (a.eval x) (lo.map a.eval) (Y.map a.eval) (mx.map a.eval)))):=rfl;unfold Q8 at h;split at h
 ·rename_i n e b G r D;obtain⟨q1,q2,q3⟩:=hY Q (.inl D);obtain⟨ie,i⟩:=Option.isSome_iff_exists.1 q1;split at h
  ·rename_i c cs l g m p hB O;split at h
   ·rename_i x2;obtain⟨y,ys,N,hy,s⟩:=hv;simp at N;obtain⟨rfl,rfl⟩:=N;obtain⟨u,C,E⟩:=qi hy;simp at h;subst h;obtain⟨g1,g2,W,I,z,A⟩:=xT (P:=P) (w:=w) (aQ n) O hp s false;generalize kY m n=f at *;obtain⟨L,X,hr⟩:=K.bQ _ _ hB az u C;have x3:G+n*P.cellsOf e<=ρ.n b:=by
     have h1:=fR x2;have h2:=iR hr;have h3:=X.len;omega
    have Z:l.toNat*P.cellsOf e+(f-l.toNat)*P.cellsOf e<=n*P.cellsOf e:=by rw[<-eN];exact gr _ aa
    by_cases d:f=l.toNat;refine bz K (v:=.slice (some ⟨u,G,none⟩) (g.toNat-l.toNat) (f-l.toNat)) (cC j ?_) (.inr ⟨u,G,f-l.toNat,C,aa,.inr aa,by rw[show f-l.toNat=0 by omega];omega,by rw[show g.toNat-l.toNat=(g-l).toNat by omega]⟩);rw[E];unfold Instr.sliceAt;simp[bP D,Instr.sureAddr,A,c5 i,ah d];refine bz K (v:=.slice (some ⟨u,G+l.toNat*P.cellsOf e,none⟩) (g.toNat-l.toNat) (f-l.toNat)) (cC j ?_) (.inr ⟨u,_,f-l.toNat,C,aa,.inl rfl,aa,by rw[show g.toNat-l.toNat=(g-l).toNat by omega]⟩);rw[E];unfold Instr.sliceAt;simp[bP D,Instr.sureAddr,A,c5 i,ai d,kM]
   simp at h
  simp at h
 ·rename_i e b x7 G len c r D;obtain⟨q1,q2,q3⟩:=hY (n:=0) Q (.inr D);obtain⟨ie,i⟩:=Option.isSome_iff_exists.1 q1;split at h
  ·rename_i l g m p O q;have q:=ca q;subst q;obtain⟨y,ys,N,hy,s⟩:=hv;simp at N;obtain⟨rfl,rfl⟩:=N;simp at h;subst h;rcases p9 hy with ⟨h0,E⟩|⟨u,o,k,C,hl,ho,x3,E⟩;obtain⟨g1,g2,W,I,z,A⟩:=xT (P:=P) (w:=w) (aQ len) O hp s true;subst h0;have T:l=0:=aa;have R:g=0:=aa;have x1:kY m 0=0:=aa;rw[x1]at A;subst T R;refine bz K (cC j ?_) (.inl ⟨rfl,rfl⟩);rw[E];unfold Instr.sliceAt Instr.slice;simp only[cf,bP D,cn,c1,A,c5 i,vZ,ite_self];rfl
   ·obtain⟨g1,g2,W,I,z,A⟩:=xT (P:=P) (w:=w) hl O hp s true;generalize kY m k=f at *;have Z:l.toNat*P.cellsOf e+(f-l.toNat)*P.cellsOf e<=k*P.cellsOf e:=by rw[<-eN];exact gr _ aa
    by_cases d:f=l.toNat;refine bz K (v:=.slice (some ⟨u,o,none⟩) (g.toNat-l.toNat) (f-l.toNat)) (cC j ?_) (.inr ⟨u,o,f-l.toNat,C,aa,.inr aa,by rw[show f-l.toNat=0 by omega];omega,by rw[show g.toNat-l.toNat=(g-l).toNat by omega]⟩);rw[E];unfold Instr.sliceAt Instr.slice;simp[bP D,A,c5 i,ah d];refine bz K (v:=.slice (some ⟨u,o+l.toNat*P.cellsOf e,none⟩) (g.toNat-l.toNat) (f-l.toNat)) (cC j ?_) (.inr ⟨u,o+l.toNat*P.cellsOf e,f-l.toNat,C,aa,?_,aa,by rw[show g.toNat-l.toNat=(g-l).toNat by omega]⟩);rw[E];unfold Instr.sliceAt Instr.slice;simp[bP D,A,c5 i,ai d,kM];rcases ho with ho|ho;exact .inl (by rw[ho,Ke,eN];omega);exact .inr aa
  simp at h
 ·rename_i e e' xs r D;obtain⟨q1,q2,q3⟩:=hY (n:=0) Q (.inr D);obtain⟨ie,i⟩:=Option.isSome_iff_exists.1 q1;split at h
  ·rename_i l g m p O q;have q:=ca q;obtain⟨y,ys,N,hy,s⟩:=hv;simp at N;obtain⟨rfl,rfl⟩:=N;simp at h;subst h;rcases BE hy with ⟨h0,ad,k,E,hz⟩|⟨u,o,k,E,hl,x0⟩
   ·subst h0;obtain⟨g1,g2,W,I,z,A⟩:=xT (P:=P) (w:=w) (aY k) O hp s true;generalize kY m k=f at *;have T:l=0:=by simp at W;omega
    have R:g=0:=by simp at W;omega
    subst T R;have x4:∃H,(if f=(0:Int).toNat then ad else ad.map (·.add ((0:Int).toNat*P.cellsOf e)))=H/\(H=none->f-0=0):=by
     refine⟨_,rfl,λh=>?_⟩;split at h;·simp_all
     ·have:ad=none:=by simpa using h
      have:=hz this;omega
    obtain⟨H,x5,x6⟩:=x4;refine bz K (cC j ?_) (.inl ⟨az,H,f-0,rfl,x6⟩);rw[E];unfold Instr.sliceAt Instr.slice;simp[bP D];simp only[A,cn,c5 i,x5];rfl
   ·obtain⟨g1,g2,W,I,z,A⟩:=xT (P:=P) (w:=w) hl O hp s true;generalize kY m k=f at *;have F:((xs.drop l.toNat).take (g-l).toNat).length=(g-l).toNat:=by simp;omega
    have U:g.toNat-l.toNat=(g-l).toNat:=aa;have V:=Wx (l:=l.toNat) (n:=(g-l).toNat) x0 aa;by_cases d:f=l.toNat;refine bz K (v:=.slice (some ⟨u,o,none⟩) (g.toNat-l.toNat) (f-l.toNat)) (cC j ?_) (.inl ⟨eL (by rw[F];omega),_,f-l.toNat,by rw[show g.toNat-l.toNat=0 by omega],λh=>by cases h⟩);rw[E];unfold Instr.sliceAt Instr.slice;simp[bP D,A,c5 i,ah d];refine bz K (v:=.slice (some ⟨u,o+l.toNat*P.cellsOf e,none⟩) (g.toNat-l.toNat) (f-l.toNat)) (cC j ?_) (.inr ⟨u,_,f-l.toNat,by rw[F,U],by rw[F];omega,by rw[<-q];exact V⟩);rw[E];unfold Instr.sliceAt Instr.slice;simp[bP D,A,c5 i,ai d,kM]
  simp at h
 simp at h
theorem alP(C:Ctx w0 id ρ B w){f:Array TypeId}{args:Array Operand}{D:dq}(h:ada P f D=some out)(q:bW ρ D (args.toList.map a.eval)):dc P id B ⟨dst,.call ⟨.builtin .len,args,f⟩,ty,pos,af,gd⟩ out ρ a w:=by
 have z:execOp a.eval ⟨dst,.call ⟨.builtin .len,args,f⟩,ty,pos,af,gd⟩=(do pure (.value (<-Builtin.len_ f ty (args.map a.eval)))):=rfl;have A:∀y,args.toList.map a.eval=[y]->(args.map a.eval)[0]?=some y:=by intro y r;have:=congrArg (λl:bn=>l[0]?) r;simpa using this
 have u:∀(y:Value)(n:Nat)(e t:TypeId),args.toList.map a.eval=[y]->f[0]?=some t->P.underlying t=some (.slice e)->(∃p c,y=.slice p n c) ->
   (Builtin.len_ f ty (args.map a.eval)).run P w=.ok (.int .i64 n) w:=by
  intro y n e t r F G⟨p,c,j⟩;unfold Builtin.len_;simp[F,A y r];simp[bP G,j];rfl
 have fin:∀(y:Value)(n:Nat)(e:TypeId),(f[0]?).bind P.underlying=some (.slice e)->args.toList.map a.eval=[y]->(∃p c,y=.slice p n c)->∀p,dc P id B ⟨dst,.call ⟨.builtin .len,args,f⟩,ty,pos,af,gd⟩ {val:=.is (.one (.v (.int .i64 n))),pre:=p} ρ a w:=by
  intro y n e b g d p;cases k:f[0]? with
  |none=>simp[k]at b
  |some t=>simp[k]at b;exact bz C (cC z (u y n e t g k b d)) (nU rfl)
 unfold ada at h;split at h;rename_i e i x H n c b;obtain⟨y,g,j⟩:=cI q;simp[gY]at h;subst h;refine fin y n e b g ?_ _;rcases p9 j with ⟨rfl,d⟩|⟨E,o,m,L,N,O,_,d⟩;exact⟨_,_,d⟩;exact⟨_,_,d⟩;rename_i e K I b;obtain⟨y,g,j⟩:=cI q;simp[gY]at h;subst h;refine fin y I.length e b g ?_ _;rcases BE j with ⟨rfl,a,m,d,_⟩|⟨E,o,m,d,_⟩;exact⟨_,_,d⟩;exact⟨_,_,d⟩;rename_i e _ n _ b;obtain⟨y,g,j⟩:=cI q;simp[gY]at h;subst h;exact fin y n e b g ⟨_,_,cY j⟩ _
 ·rename_i s b;obtain⟨y,g,j⟩:=cI q;have d:=cY j;simp[gY]at h;subst h;cases k:f[0]? with
  |none=>simp[k]at b
  |some t=>simp[k]at b;refine bz C (cC z ?_) (nU rfl);unfold Builtin.len_;simp[k,A y g];simp[bP b,d];rfl
 simp at h
theorem AA{e:TypeId}{b:Kd}(h:Iv P e=some b):
  ∃i z,P.info? e=some i/\i.zero=some z/\z.cells.toList=kU b/\i.size=aC b/\aC b=P.cellsOf e/\0<aC b/\i.bytes=bytesOf P e/\zk b=true:=by
 unfold Iv at h;split at h;rename_i d k r j q m o z n ms l f p;split at h;rename_i c;simp at h;subst h;simp only[bD]at c;have g:=ca c.1.2;refine⟨_,z,f,rfl,Df c.1.1.1,?_,g,hX c.2,by simp[bytesOf,f],c.1.1.2⟩;rw[g];simp[Program.cellsOf,f];simp at h;simp at h
theorem rr{b:Kd}(c:zk b=true):(kU b).length=aC b:=cK (M:=λ_=>none) (AV c)
theorem ab1{b:Kd}(c:zk b=true):∀n,eQ (Rd ρ.M b) (replicate n (gn b)) (rep n (kU b)):=by
 intro n;induction n with
 |zero=>exact rfl
 |succ n d=>exact⟨_,_,rfl,AV c,d⟩
theorem aki(H:Ctx w0 id ρ B w){t:TypeId}{x y:Operand}{u:dq}(h:Wq P id t u=some out)(N:∀p∈out.pre,p)(Q:bW ρ u [a.eval x,a.eval y]):dc P id B ⟨dst,.makeSlice t x y,ty,pos,af,gd⟩ out ρ a w:=by
 unfold Wq at h;split at h
 ·rename_i e kl l T c O;obtain⟨W,X,C,o,q⟩:=dz Q;obtain⟨rfl,rfl⟩:=C;have D:=cY o;have E:=cY q;split at h
  ·rename_i A k;simp at h;subst h;obtain⟨i,z,I,R,f,n,V,K,j,d⟩:=AA k;obtain⟨F,m,G,g⟩:0<=l/\l<=c/\(bytesOf P e:Int)*c<=281474976710656/\c<=9223372036854775807:=N _ az;have s:=run_make w t e i z O I R kl T l c F m (by rw[j];exact G) g;have b:madeCells z.cells (c.toNat*i.size)=⟨rep c.toNat (kU A)⟩:=by
    have r:=MO z.cells.toList (by rw[f];intro h;have:=congrArg length h;rw[rr d]at this;simp at this;omega) c.toNat;rw[f,rr d]at r;rw[<-r,n];unfold madeCells;have:z.cells=⟨kU A⟩:=by rw[<-f]
    rw[this]
   rw[b]at s;refine vJ H (cC rfl (by rw[D,E];exact s)) (ct (ib az (ab1 d _))) (λU h L=>.inr ⟨_,0,c.toNat,h,aa,.inl az,by rw[L,Ju,rr d];omega,rfl⟩)
  simp at h
 simp at h
theorem Ai(Q:Ctx w0 id ρ B w){A:Kd}{v:SV}{m:Nat}{z:List (a6 A)}{p:gi}{u:Value}(h:F5 B A v=some (m,z,p))(R:∀q∈p,q)(E:v.rel ρ u):
  z.length=m/\∃g,eQ (Rd ρ.M A) z g/\((u=.slice none 0 0/\m=0)\/∃t k,u=.slice (some t) m k/\∀j x,g[j]?=some x->w.cell? (t.add j)=some x):=by
 have own:∀(i b off c:Nat)(d:ax)(C:cb),B i=some (d::C)->(∀l,aH ρ (d::C) l->z.length=m/\c=aC A/\b+off*c+m*c<=l.length/\eQ (Rd ρ.M A) z ((l.drop (b+off*c)).take (m*c)))->(m=0->z=[]) ->
   (SV.is (.one (.sl i b off m c))).rel ρ u->z.length=m/\∃g,eQ (Rd ρ.M A) z g/\((u=.slice none 0 0/\m=0)\/∃t k,u=.slice (some t) m k/\∀j x,g[j]?=some x->w.cell? (t.add j)=some x):=by
  intro i b off c d C K hx T E;rcases p9 E with ⟨D,y⟩|⟨O,o,k,N,H,ho,Z,y⟩;have:=T D;subst D this;exact⟨rfl,[],rfl,.inl ⟨y,rfl⟩⟩
  ·obtain⟨l,F,Y⟩:=Q.bQ _ _ K az O N;obtain⟨k1,k2,k3,k4⟩:=hx l Y;refine⟨k1,_,k4,.inr ⟨_,_,y,λj x n=>?_⟩⟩;have G:j<m*c:=by
    have:=(List.getElem?_eq_some_iff.1 n).1;simp at this;omega
   have X:0<m:=by rcases sK m with h|h;subst h;simp at G;exact h
   have ho:o=b+off*c:=by rcases ho with ho|ho;exact ho;omega
   subst ho;rw[kM];refine F.cell ?_;rw[gI]at n;simpa[G]using n
 unfold F5 at h;split at h;rename_i i b off m' c;split at h;rename_i d C K;split at h;rename_i xs q f;obtain⟨rfl,rfl,rfl⟩:=h;refine own i b off c d C K (λl H=>Ah f R H) (λD=>?_) E;subst D;unfold xw at f;split at f;split at f;simp only[cd,cp]at f;rw[<-f.1];simp;simp at f;simp at f;split at h;rename_i xs q f;obtain⟨rfl,rfl,rfl⟩:=h;refine own i b off c d C K (λl H=>Ag (λ_ _=>cK) (λcs x ps r l=>lT (rk ρ) A cs x ps r l) f R H) (λD=>?_) E;subst D;unfold xv at f;split at f;split at f;rename_i I;simp[pN]at f I;rw[<-f.1,<-I.1];simp at f;simp at f;simp at h;simp at h
 ·rename_i e xs;split at h
  ·rename_i W _;subst W;obtain⟨rfl,rfl,rfl⟩:=h;rcases BE E with ⟨rfl,t,k,y,hz⟩|⟨O,o,k,y,H,L,U,hL,V⟩
   ·refine⟨rfl,[],rfl,?_⟩;cases t with
    |none=>rw[hz rfl]at y;exact .inl ⟨y,rfl⟩
    |some t=>exact .inr ⟨t,k,y,λj x n=>by simp at n⟩
   refine⟨rfl,_,V,.inr ⟨_,_,y,λj x n=>?_⟩⟩;rw[kM];refine Ll Q U ?_;rw[gI]at n;split at n;simpa using n;cases n
  simp at h
 obtain⟨rfl,rfl,rfl⟩:=h;exact⟨rfl,[],rfl,.inl ⟨cY E,rfl⟩⟩;simp at h
theorem cN.full{b N:Nat}{l:bn}(h:cN w b N l):∃L,cN w b N L/\L.length=N/\∃r,L=l++r:=by obtain⟨c,el,fr,f,d,e⟩:=h;exact⟨l++c,⟨[],el,fr,by simp_all,by simp_all,e⟩,d,c,rfl⟩
theorem cN.pre{b N:Nat}{l r:bn}(h:cN w b N (l++r)):cN w b N l:=by obtain⟨c,el,fr,e,f,d⟩:=h;exact⟨r++c,el,fr,by simp_all,by simp_all,d⟩
theorem BG{t ty e:TypeId}{i:TypeInfo}{z:Value}(Q:P.underlying t=some (.slice e))(O:P.info? e=some i)(hz:i.zero=some z)(K:z.cells.size=i.size){y u:Value} {len m:Nat} {g d:bn}(hy:(y=.slice none 0 0/\len=0/\g=[])\/∃b o c N L,y=.slice (some ⟨b,o,none⟩) len c/\len<=c/\(o=0\/c=0)/\o+c*i.size<=N/\cN w b N L/\len*i.size<=L.length/\g=L.take (len*i.size))(R:(u=.slice none 0 0/\m=0)\/∃p c,u=.slice (some p) m c/\∀j x,d[j]?=some x->w.cell? (p.add j)=some x)(q:d.length=m*i.size) (I:∀x∈d,x.oneCell'=true) (hb:(len+m)*i.bytes<=140737488355328) (x2:len+m<=4611686018427387904):
  (y=.slice none 0 0/\m=0/\(Builtin.append_ #[t,t] ty #[y,u]).run P w=.ok (.slice none 0 0) w)\/
  (∃b o c N L f,y=.slice (some ⟨b,o,none⟩) len c/\len+m<=c/\(o=0\/c=0)/\cN w b N L/\(Builtin.append_ #[t,t] ty #[y,u]).run P w=.ok (.slice (some ⟨b,o,none⟩) (len+m) c) f/\
   cN f b N (g++d)/\f.heap.size=w.heap.size/\(∀A,A≠b->f.heap[A]?=w.heap[A]?)/\f.os=w.os/\f.tape=w.tape/\f.output=w.output)\/
  (∃n s,len+m<=n/\(g++d++s).length=n*i.size/\
   (Builtin.append_ #[t,t] ty #[y,u]).run P w=.ok (.slice (some ⟨w.heap.size,0,none⟩) (len+m) n) (w.drew.alloc (.cells ⟨g++d++s⟩ e))):=by
 have H:Builtin.lenOf u=pure m:=by rcases R with ⟨rfl,rfl⟩|⟨p,c,rfl,_⟩<;>rfl
 have hf:(Builtin.firstCells i.size m u).run P w=.ok d.toArray w:=by rcases R with ⟨rfl,rfl⟩|⟨p,c,rfl,h⟩;have:d=[]:=eL (by simpa using q);subst this;exact run_firstCells_none w _ _ _ _;exact run_firstCells_some w i.size m p m c d q h
 rcases hy with ⟨rfl,rfl,rfl⟩|⟨b,o,c,N,L,rfl,x0,C,hN,l,hL,rfl⟩;by_cases hm:m=0;subst hm;refine .inl ⟨rfl,rfl,?_⟩;simp[Builtin.append_,run_underlying Q,sizeOf,typeInfo,O,H,hf];rcases R with ⟨_,h0⟩|⟨p,c,rfl,h⟩;exact absurd h0 hm;have F:=grownCap_ge w m 0 e;refine .inr (.inr ⟨grownCap w m 0 e,(Builtin.zeroCells z.cells (grownCap w m 0 e-m)).toList,aa,?_,?_⟩);simp[size_zeroCells,K,q,<-eN];congr 1;omega;rw[run_append_nil w t ty e i z Q O hz p m c d q h aa aa (by rw[cy]at hb;omega)];rw[cy];congr 3;apply lk;simp
 ·by_cases k:len+m<=c
  ·refine .inr (.inl ?_);have x1:len*i.size+d.length<=c*i.size:=by rw[q,<-eN];exact gr _ k
   have Y:∃f,(storeCells ⟨b,o+len*i.size,none⟩ d).run P w=.ok () f/\cN f b N (L.take (len*i.size)++d)/\f.heap.size=w.heap.size/\(∀A,A≠b->f.heap[A]?=w.heap[A]?)/\f.os=w.os/\f.tape=w.tape/\f.output=w.output:=by
    by_cases U:c=0
    ·have h1:len=0:=by omega
     have h2:m=0:=aa;subst h1 h2;have:d=[]:=eL (by simpa using q);subst this;exact⟨w,by simp[storeCells],by simpa using cN.pre l,rfl,λ_ _=>rfl,rfl,rfl,rfl⟩
    ·have C:o=0:=by
      rcases C with h|h;exact h;exact absurd h U
     subst C;obtain⟨Z,V,x3,r,W⟩:=l.full;obtain⟨f,g1,g2,T⟩:=nG (off:=0+len*i.size) d 0 w Z V aa I;refine⟨f,g1,?_,T⟩;have e1:Z.take (0+len*i.size+0)=L.take (len*i.size):=by rw[W,lf,cy,mD hL]
     rw[e1,<-cZ]at g2;exact cN.pre g2
   obtain⟨f,g1,g2,T,g4,g5,g6,g7⟩:=Y;refine⟨b,o,c,N,L,f,rfl,k,C,l,?_,g2,T,g4,g5,g6,g7⟩;simp[Builtin.append_,run_underlying Q,sizeOf,typeInfo,O,H,k,hf,kM,g1]
  ·rcases R with ⟨_,h0⟩|⟨p,E,rfl,h⟩;omega;have F:=grownCap_ge w (len+m) c e;have D:(L.take (len*i.size)).length=len*i.size:=by simp;omega
   refine .inr (.inr ⟨grownCap w (len+m) c e,(Builtin.zeroCells z.cells (grownCap w (len+m) c e-(len+m))).toList,F,?_,?_⟩);simp[D,size_zeroCells,K,q,<-eN];congr 1;omega
   ·rw[run_append_grow w t ty e i z Q O hz ⟨b,o,none⟩ len c (L.take (len*i.size)) D (λj v X=>?_) p m E d q h aa aa (growslice_fits aa hb)];congr 3;apply lk;simp
    ·have G:j<len*i.size:=by
      have:=(List.getElem?_eq_some_iff.1 X).1;rw[D]at this;exact this
     have C:o=0:=by
      rcases C with h|h;exact h
      ·have:len=0:=by omega
       subst this;simp at G
     subst C;rw[kM,cy];refine l.cell ?_;rw[gI]at X;simpa[G]using X
theorem A8(y:Ctx w0 id ρ B w){wr:e5}{b n:Nat}{cs:cb}{l:bn}{k:World}(x:SV)(p:gi)(s:w.heap.size<=b\/∃q∈wr,ρ q.1=some b/\q.2=[])(z:k.os=w.os) (A:k.tape=w.tape) (C:k.output=w.output) (j:w.heap.size<=k.heap.size) (g:∀c,c<w.heap.size->(∀p∈wr,ρ p.1≠some c)->k.heap[c]?=w.heap[c]?)(d:cN k b n l) (E:aH ρ cs l) (u:∀p∈wr,∀q∈wr,p.1=q.1->p=q) (r:∀p∈wr,(∃cs,B p.1=some cs/\cs≠[])/\p.2=[]):
  Eff id B {val:=x,new:=[(id,cs)],wr:=wr,pre:=p} ρ (ρ.push id b n) w k:=by
 have m:aI.le ρ (ρ.push id b n):=aI.TD (y.free id (aQ _) aa);refine⟨m,?_,?_,z,A,C,j,g,?_,?_,u,λp o=>⟨(r p o).1,λ_ _ h=>absurd (r p o).2 h⟩,λ_ _ h=>.inl h⟩;intro i c h;by_cases e:i=id;subst e;rw[aI.kr]at h;simp at h;subst h;refine .inr ⟨aQ _,aa,⟨(i,cs),az,rfl⟩,?_⟩;rcases s with s|⟨q,D,t,_⟩;exact .inl s;exact .inr ⟨q,D,t⟩;rw[aI.FR e]at h;exact .inl h;intro i c h;by_cases e:i=id;subst e;rw[aI.kr]at h;simp at h;subst h;exact d.lt;rw[aI.FR e]at h;have:=y.bound i c h;omega;intro p o;simp at o;subst o;refine⟨aQ _,aa,λc f _=>?_⟩;rw[aI.kr]at f;simp at f;subst f;exact⟨s,l,by rw[aI.wR];exact d,fi m E⟩;·simp_all
theorem N9(e:Ctx w0 id ρ B w){wr:e5}{cs:cb}(x:SV)(p:gi)(d:∀p∈wr,∀q∈wr,p.1=q.1->p=q)(b:∀p∈wr,(∃cs,B p.1=some cs/\cs≠[])/\p.2=[]):
  Eff id B {val:=x,new:=[(id,cs)],wr:=wr,pre:=p} ρ ρ w w:=by
 have c:=e.free id (aQ _) aa;refine⟨aI.le_refl _,λ_ _ h=>.inl h,e.bound,rfl,rfl,rfl,aQ _,λ_ _ _=>rfl,?_,?_,d,λp f=>⟨(b p f).1,λ_ _ h=>absurd (b p f).2 h⟩,λ_ _ h=>.inl h⟩;grind;·simp_all
theorem cN.size_eq{b N c:Nat}{L d:bn}(h:cN w b N L)(g:cN w b c d):N=c:=by obtain⟨r,el,fr,k,l,_⟩:=h;obtain⟨m,e,f,i,j,_⟩:=g;simp_all
theorem B6(w:World)(l r:bn)(e:TypeId):cN (w.drew.alloc (.cells ⟨l++r⟩ e)) w.heap.size (l++r).length l:=by refine⟨r,e,(0,0),?_,rfl,.inl rfl⟩;show(w.heap.push _)[w.heap.size]?=_;simp
theorem ab9(V:Ctx w0 id ρ B w){ts:Array TypeId}{args:Array Operand}{vs:dq}(h:LH P id ts vs B=some out)(A:∀p∈out.pre,p)(hv:bW ρ vs (args.toList.map a.eval)):dc P id B ⟨dst,.call ⟨.builtin .append,args,ts⟩,ty,pos,af,gd⟩ out ρ a w:=by
 have ex:execOp a.eval ⟨dst,.call ⟨.builtin .append,args,ts⟩,ty,pos,af,gd⟩=(do pure (.value (<-Builtin.append_ ts ty (args.map a.eval)))):=rfl;have z0:=V.free id (aQ _) aa;unfold LH at h;split at h
 ·rename_i t t' d x x7;split at h
  ·rename_i e x8 hu;have x8:=ca x8;subst x8;have x7:ts=#[t,t]:=by rw[<-Array.toArray_toList (xs:=ts),x7]
   subst x7;obtain⟨y,u,e1,hy,y6⟩:=dz hv;have Z:args.map a.eval=#[y,u]:=by apply lk;simpa using e1
   rw[Z]at ex;split at h
   ·rename_i κ y9;obtain⟨i,z,hi,hz,z6,C,hm,z9,y0,z7⟩:=AA y9;have y7:z.cells.size=i.size:=by
     rw[<-mE,z6,C,rr z7]
    split at h
    ·rename_i m ys p i0 len c k;split at h
     ·rename_i c0 hB x3;have x3:=ca x3;subst x3;split at h
      ·rename_i e' n xs y5;split at h
       ·rename_i he _;subst he;simp at h;subst h;have u0:len<=n:=A _ az;have x6:(len+m)*bytesOf P e<=140737488355328:=A _ az;have y4:len+m<=4611686018427387904:=A _ az;obtain⟨T,E,f,k⟩:=Ai V k (λq hq=>A q (by simp[hq])) y6;have x4:E.length=m*i.size:=by rw[iu (λ_ _=>cK) f,T,C]
        have x9:=p9 hy;have G:∃F,eQ (Rd ρ.M e') (xs.take len) F/\(xs.take len).length=len/\((y=.slice none 0 0/\len=0/\F=[])\/∃b o r N L,y=.slice (some ⟨b,o,none⟩) len r/\len<=r/\(o=0\/r=0)/\o+r*i.size<=N/\cN w b N L/\len*i.size<=L.length/\F=L.take (len*i.size)):=by
         rcases x9 with ⟨h0,O⟩|⟨b,o,r,hb,hl,ho,X,O⟩;subst h0;exact⟨[],rfl,rfl,.inl ⟨O,rfl,rfl⟩⟩
         ·obtain⟨l,R,hr⟩:=V.bQ _ _ hB az b hb;obtain⟨k1,k2,k3⟩:=mr y5 (dP hr);simp only at k1 k2 k3;have z2:=iu (λ_ _=>cK) k2;have z1:len*aC e'<=l.length:=by rw[z2];exact gr _ aa
          exact⟨_,(jn (λ_ _=>cK) len k2).1,by simp;omega,.inr ⟨b,o,r,ρ.n i0,l,O,hl,by simpa using ho,by rw[C];exact X,R,by rw[C];exact z1,by rw[C]⟩⟩
        obtain⟨F,x5,z5,G⟩:=G;have Y:=BG (ty:=ty) hu hi hz y7 G k x4 (xB (λ_ _=>vN) f) (by rw[y0];exact x6) y4;have H:=ct (ib (by rw[bA,z5,T]) (tD x5 f));have K:∀p∈[(i0,[])],∀q∈[(i0,([]:cb))],p.1=q.1->p=q:=by intro p A q hq _;simp at A hq;rw[A,hq]
        have I:∀p∈[(i0,([]:cb))],(∃cs,B p.1=some cs/\cs≠[])/\p.2=[]:=by intro p A;simp at A;subst A;exact⟨⟨_,hB,az⟩,rfl⟩
        intro next Q X;unfold Oper.wp;rcases Y with ⟨O,W,g⟩|⟨b,o,r,N,L,w',O,y1,ho,R,g,g2,g3,g4,g5,g6,g7⟩|⟨D,U,y2,s,g⟩;rw[cC ex g];refine X _ _ ρ (.inl ⟨?_,rfl⟩) (N9 V _ _ K I);rcases x9 with ⟨h0,_⟩|⟨b,o,r,hb,hl,ho,y3,j⟩;omega;rw[O]at j;cases j
        ·rw[cC ex g];rcases x9 with ⟨h0,j⟩|⟨b',o',z8,hb,hl,z4,y3,j⟩;rw[O]at j;cases j
         ·rw[O]at j;obtain⟨⟨rfl,rfl⟩,rfl⟩:=j;obtain⟨l,x2,u1⟩:=V.bQ _ _ hB az b hb;have y8:=R.size_eq x2;subst y8;refine X _ _ (ρ.push id b (ρ.n i0)) (.inr ⟨b,o,r,aI.kr,y1,by simpa using z4,by rw[aI.wR];exact y3,rfl⟩)
           (A8 V _ _ (.inr ⟨(i0,[]),az,hb,rfl⟩) g5 g6 g7 aa (λb' _ z3=>g4 b' (λe=>by subst e;exact z3 (i0,[]) az hb)) g2 H K I)
        ·rw[cC ex g];rw[C]at s;have x1:=B6 w (F++E) U e;refine X _ _ (ρ.push id w.heap.size (D*aC e')) (.inr ⟨w.heap.size,0,D,aI.kr,y2,.inl az,by rw[aI.wR];omega,rfl⟩)
          (A8 V _ _ (.inl (aQ _)) rfl rfl rfl az (λb' x0 _=>Below.heap_alloc w.drew _ b' x0) (by rw[<-s];exact x1) H K I)
       simp at h
      simp at h
     simp at h
    ·rename_i m ys p k;simp at h;subst h;have x6:m*bytesOf P e<=140737488355328:=A _ az;have y4:m<=4611686018427387904:=A _ az;obtain⟨T,E,f,k⟩:=Ai V k (λq hq=>A q (by simp[hq])) y6;have x4:E.length=m*i.size:=by rw[iu (λ_ _=>cK) f,T,C]
     have O:=cY hy;have Y:=BG (ty:=ty) hu hi hz y7 (.inl ⟨O,rfl,rfl⟩) k x4 (xB (λ_ _=>vN) f) (by rw[y0,cy];exact x6) aa;have H:=ct (ib T f);have K:∀p∈[],∀q∈([]:e5),p.1=q.1->p=q:=by intro p A;cases A
     have I:∀p∈([]:e5),(∃cs,B p.1=some cs/\cs≠[])/\p.2=[]:=by intro p A;cases A
     intro next Q X;unfold Oper.wp;rcases Y with ⟨_,W,g⟩|⟨b,o,r,N,L,w',j,_⟩|⟨D,U,y2,s,g⟩;rw[cC ex g];exact X _ _ ρ (.inl ⟨W,rfl⟩) (N9 V _ _ K I);rw[O]at j;cases j
     ·rw[cC ex g];rw[C]at s;have x1:=B6 w ([]++E) U e;rw[cy];refine X _ _ (ρ.push id w.heap.size (D*aC κ)) (.inr ⟨w.heap.size,0,D,aI.kr,aa,.inl az,by rw[aI.wR];omega,rfl⟩)
       (A8 V _ _ (.inl (aQ _)) rfl rfl rfl az (λb' x0 _=>Below.heap_alloc w.drew _ b' x0) (by rw[<-s];exact x1) H K I)
    simp at h
   simp at h
  simp at h
 simp at h
theorem YZ(Y:Ctx w0 id ρ B w){s d:TypeId}{x:Operand}{vs:dq}(h:H8 P id s d vs B=some out)(hv:bW ρ vs [a.eval x]):dc P id B ⟨dst,.convert s d x,ty,pos,af,gd⟩ out ρ a w:=by
 unfold H8 at h;split at h;rename_i k1 k2 k3 i L I;obtain⟨z,e,t⟩:=cI hv;simp at e;subst e;have O:=cY t;simp[gY]at h;subst h;exact bz Y (cC rfl (by rw[O];simp[convert,bP L,bP I,Conv.intToInt])) (nU rfl)
 ·rename_i e y L I;obtain⟨z,N,t⟩:=cI hv;simp at N;subst N;have O:=cY t;split at h
  ·rename_i he;simp at h;subst h;have r:=run_bytes_of_string w s d e (y) L I he;have H:(y).data.size=(y).size:=rfl;have x2:=grownCap_ge w (y).size 0 e;intro next Q hn;unfold Oper.wp;rw[cC rfl (by rw[O];exact r)];have m:(bytesRow (y) (grownCap w (y).size 0 e)).toList=(lz (y)).map (Value.int .u8)++replicate (grownCap w (y).size 0 e-(y).size) (.int .u8 0):=by
    simp[bytesRow,lz,vT]
   have A:(lz (y)).length=(y).size:=by simp only[lz,b5,mE];rfl
   have g:(bytesRow (y) (grownCap w (y).size 0 e)).size=grownCap w (y).size 0 e:=by rw[<-mE,m,bA,b5,pk,A];omega
   have R:cN (w.drew.alloc (.cells (bytesRow (y) (grownCap w (y).size 0 e)) e ((bytesRow (y) (grownCap w (y).size 0 e)).size,(bytesRow (y) (grownCap w (y).size 0 e)).size+1))) w.heap.size (grownCap w (y).size 0 e) ((lz (y)).map (Value.int .u8)):=by refine⟨replicate (grownCap w (y).size 0 e-(y).size) (.int .u8 0),e,((bytesRow (y) (grownCap w (y).size 0 e)).size,(bytesRow (y) (grownCap w (y).size 0 e)).size+1),?_,?_,.inr ?_⟩;show(w.heap.push _)[w.heap.size]?=_;rw[<-m];simp;rw[<-m,mE,g];rw[g];exact aQ _
   exact hn _ _ (ρ.push id w.heap.size (grownCap w (y).size 0 e)) (.inr ⟨w.heap.size,0,_,aI.kr,x2,.inl az,by rw[aI.wR];omega,rfl⟩)
    (A8 Y _ _ (.inl (aQ _)) rfl rfl rfl az (λW f _=>Below.heap_alloc w.drew _ W f) R ⟨_,[],(bF _).symm,⟨A,rfl⟩,rfl⟩ (by intro p K;cases K) (by intro p K;cases K))
  simp at h
 ·rename_i e0 e i x7 x8 len c L I;obtain⟨z,N,t⟩:=cI hv;simp at N;subst N;split at h
  ·rename_i ki k ks F he hB;simp at h;subst h;have F:=ca F;subst F;rcases p9 t with ⟨h0,_⟩|⟨b,o,D,X,hl,ho,hn,O⟩;omega
   ·obtain⟨l,⟨C,el,fr,hh,H,hf⟩,hr⟩:=Y.bQ i _ hB az b X;have x6:w.shape? b=some (el,ρ.n i):=by
     unfold World.shape?;rw[hh];simp[List.size_toArray,H]
    have x1:∃u,(w.freeze ⟨b,ρ.n i,none⟩ 1).heap[b]?=some (.cells ⟨l++C⟩ el u)/\ρ.n i<=u.1:=by obtain⟨lo,hi⟩:=fr;unfold World.freeze;rw[ai ae];rw[sG,ah rfl,hh];simp only[fU];by_cases E:lo=hi;subst E;exact⟨(ρ.n i,ρ.n i+1),az,aQ _⟩;refine⟨(min lo (ρ.n i),max hi (ρ.n i+1)),by simp[E],?_⟩;rcases hf with hf|hf;simp at hf;exact absurd (hf.1.trans hf.2.symm) E;have hf:ρ.n i<=lo:=hf;exact Nat.le_min.2 ⟨hf,aQ _⟩
    have r:(convert s s (.slice (some ⟨b,o,none⟩) (len+1) D)).run P w=.ok (.slice (some ⟨b,o,none⟩) (len+1) D) (w.freeze ⟨b,ρ.n i,none⟩ 1):=by
     have x0:e0=e:=by rw[L]at I;simpa using I
     subst x0;have x3:(markStringish ⟨b,o,none⟩).run P w=.ok () (w.freeze ⟨b,ρ.n i,none⟩ 1):=by simp[markStringish,x6]
     simp[convert,bP L,bP he,x3]
    obtain⟨u,T,U⟩:=x1;have G:(w.freeze ⟨b,ρ.n i,none⟩ 1).heap.size=w.heap.size:=by unfold World.freeze;rw[ai ae];simp
    intro next Q x4;unfold Oper.wp;rw[cC rfl (by rw[O];exact r)];refine x4 _ _ ρ (.inr ⟨b,o,D,X,hl,ho,hn,rfl⟩) ⟨aI.le_refl _,λ_ _ h=>.inl h,λj c hj=>by rw[G];exact Y.bound j c hj,?_,?_,?_,aa,?_,λ_ h=>(nomatch h),λ_ h=>(nomatch h),λp K q V _=>by simp at K V;rw[K,V],?_,λ_ _ h=>.inl h⟩;unfold World.freeze;rw[ai ae];unfold World.freeze;rw[ai ae];unfold World.freeze;rw[ai ae];intro W _ x5;have Z:W≠b:=λe=>x5 (i,k::ks) az (by rw[e];exact X);unfold World.freeze;rw[ai ae];rw[sG,ai (λe=>Z e.symm)];intro q V;simp at V;subst V;refine⟨⟨_,hB,az⟩,λW f _=>?_⟩;rw[X]at f;simp at f;subst f;exact⟨l,⟨C,el,u,T,H,.inr U⟩,hr⟩
  simp at h
 simp at h
theorem akg(hc:Ctx w0 id ρ B w){ts:Array TypeId}{args:Array Operand}{vs:dq}(h:Wo P ts vs B=some out)(K:∀p∈out.pre,p)(hv:bW ρ vs (args.toList.map a.eval)):dc P id B ⟨dst,.call ⟨.builtin .copy,args,ts⟩,ty,pos,af,gd⟩ out ρ a w:=by
 have ex:execOp a.eval ⟨dst,.call ⟨.builtin .copy,args,ts⟩,ty,pos,af,gd⟩=(do pure (.value (<-Builtin.copy_ ts ty (args.map a.eval)))):=rfl;unfold Wo at h;split at h
 ·rename_i t t' i0 g off len c x X;split at h
  ·rename_i e hu;have X:ts=#[t,t']:=by rw[<-Array.toArray_toList (xs:=ts),X]
   subst X;obtain⟨y,u,e1,hy,y0⟩:=dz hv;have R:args.map a.eval=#[y,u]:=by apply lk;simpa using e1
   rw[R]at ex;split at h
   ·rename_i d ds hB s;simp only[bD]at s;obtain⟨s,i⟩:=s;have s:=ca s;subst s;split at h
    ·rename_i a0 κ n xs q r N;split at h
     ·rename_i m ys p k W;simp only[bD]at W;have x8:=ca W.1;have H:=ca W.2;subst x8;simp at h;subst h;have y7:off+len<=n:=K _ az;obtain⟨y1,F,D,k⟩:=Ai hc k (λq z=>K q (by simp[z])) y0;have x7:=iu (λ_ _=>cK) D;obtain⟨y8,i⟩:=Option.isSome_iff_exists.1 i;have U:Builtin.lenOf u=pure m:=by
       rcases k with ⟨rfl,rfl⟩|⟨ad,G,rfl,_⟩<;>rfl
      generalize I:Nat.min m len=f at *;have x4:f<=m:=by rw[<-I];exact Nat.min_le_left _ _
      have x5:f<=len:=by rw[<-I];exact Nat.min_le_right _ _
      rw[<-H,y1]at x7;have y5:f*P.cellsOf e<=m*P.cellsOf e:=gr _ x4;have y6:f*P.cellsOf e<=len*P.cellsOf e:=gr _ x5;have V:=(jn (λ_ _=>cK) f D).1;rw[<-H]at V;have hf:(Builtin.firstCells (P.cellsOf e) f u).run P w=.ok (F.take (f*P.cellsOf e)).toArray w:=by
       rcases k with ⟨rfl,rfl⟩|⟨ad,G,rfl,h⟩
       ·have:f=0:=by omega
        subst this;simpa using run_firstCells_none w (P.cellsOf e) 0 0 0
       ·exact run_firstCells_some w (P.cellsOf e) f ad m G _ (by simp;omega) (λj v hj=>h j v (by
         rw[gI]at hj;split at hj;exact hj
         ·cases hj))
      have x1:=p9 hy;intro next Q hn;unfold Oper.wp;by_cases h0:len=0
      ·have x3:f=0:=by omega
       subst x3;have E:(Builtin.copy_ #[t,t'] ty #[y,u]).run P w=.ok (.int .i64 0) w:=by have C:Nat.min m len=0:=I;rcases x1 with ⟨_,ey⟩|⟨b,o,G,hb,hl,ho,x9,ey⟩;rw[ey];rw[h0]at C;simp[Builtin.copy_,bP hu,U,c5 i,hf];rfl;rw[ey];simp[Builtin.copy_,bP hu,U,c5 i,C,hf];simp[storeCells,goInt]
       rw[cC ex E];refine hn _ w ρ (nU rfl) ⟨aI.le_refl _,λ_ _ h=>.inl h,hc.bound,rfl,rfl,rfl,aQ _,λ_ _ _=>rfl,λ_ h=>(nomatch h),λ_ h=>(nomatch h),λp K q z _=>by simp at K z;rw[K,z],?_,λ_ _ h=>.inl h⟩;intro q z;simp at z;subst z;refine⟨⟨_,hB,az⟩,λb hb _=>?_⟩;obtain⟨l,A,hr⟩:=hc.bQ _ _ hB az b hb;obtain⟨Z,O,l2,el,k1,k2,k3,k4,k5⟩:=yM N hr;refine⟨l,A,?_⟩;rw[el];exact iQ k2 ⟨O,l2,rfl,ib (by simpa using k4) (by simpa using k5),k3⟩
      ·rcases x1 with ⟨x2,_⟩|⟨b,o,G,hb,hl,ho,x9,ey⟩;exact absurd x2 h0;have ho:o=g+off*P.cellsOf e:=by
        rcases ho with h|h;exact h;omega
       subst ho;obtain⟨l,A,hr⟩:=hc.bQ _ _ hB az b hb;obtain⟨Z,O,l2,el,k1,k2,k3,k4,k5⟩:=yM N hr;simp only at k4 k5;have x0:=iu (λ_ _=>cK) k5;rw[<-H,k4]at x0;have Y:(F.take (f*P.cellsOf e)).length=f*P.cellsOf e:=by simp;omega
       have y4:l.length=Z.length+(O.length+l2.length):=by rw[el];simp
       have y3:off*P.cellsOf e+f*P.cellsOf e<=O.length:=by rw[x0,<-eN];exact gr _ aa
       obtain⟨w',g1,g2,g3,g4,g5,g6,g7⟩:=nG (P:=P) (off:=g+off*P.cellsOf e) (F.take (f*P.cellsOf e)) 0 w l A (by rw[Y];omega) (xB (λ_ _=>vN) V);have E:(Builtin.copy_ #[t,t'] ty #[y,u]).run P w=.ok (.int .i64 f) w':=by rw[ey];simp[Builtin.copy_,bP hu,U,c5 i,I,hf,g1];rfl
       rw[cC ex E];refine hn _ w' ρ (nU rfl) ⟨aI.le_refl _,λ_ _ h=>.inl h,λj c hj=>by rw[g3];exact hc.bound j c hj,g5,g6,g7,aa,?_,λ_ h=>(nomatch h),λ_ h=>(nomatch h),λp K q z _=>by simp at K z;rw[K,z],?_,λ_ _ h=>.inl h⟩;intro b' _ x6;exact g4 b' (λe=>by subst e;exact x6 _ (List.mem_singleton.2 rfl) hb)
       ·intro q z;simp at z;subst z;refine⟨⟨_,hB,az⟩,λb' T _=>?_⟩;rw[hb]at T;simp at T;subst T;refine⟨_,g2,?_⟩;rw[lf,Y,el];have e1:(Z++(O++l2)).take (g+off*P.cellsOf e)=Z++O.take (off*P.cellsOf e):=by
         rw[List.take_append,cA aa,show g+off*P.cellsOf e-Z.length=off*P.cellsOf e by omega,mD aa]
        have e2:(Z++(O++l2)).drop (g+off*P.cellsOf e+f*P.cellsOf e)=O.drop (off*P.cellsOf e+f*P.cellsOf e)++l2:=by rw[qH,pg aa,gK,show g+off*P.cellsOf e+f*P.cellsOf e-Z.length=off*P.cellsOf e+f*P.cellsOf e by omega,qN aa]
        rw[e1,e2,cZ];have L:=RK (λ_ _=>cK) k5 V off;have y2:(ys.take f).length=f:=by simp;omega
        rw[y2,Y,<-H]at L;exact iQ k2 ⟨_,l2,by simp,ib (by simp;omega) L,k3⟩
     simp at h
    simp at h
   simp at h
  simp at h
 simp at h
theorem akf(x:Ctx w0 id ρ B w){o:FuncId->Option Spec}(j:aS P o){f:FuncId}{q:Array TypeId}{args:Array Operand}{l:dq}{F:Spec}(u:o f=some F)(h:F w0 id l B=some out)(y:∀p∈out.pre,p)(z:bW ρ l (args.toList.map a.eval)):dc P id B ⟨dst,.call ⟨.value (.func f),args,q⟩,ty,pos,af,gd⟩ out ρ a w:=by
 intro next Q n;have i:=j f F u w0 id l B out h y ρ _ w z x;have r:execOp a.eval ⟨dst,.call ⟨.value (.func f),args,q⟩,ty,pos,af,gd⟩=(callFunc f ((#[]++args.map a.eval) ++ #[])):=rfl;have c:(#[]++args.map a.eval) ++ #[]=(⟨args.toList.map a.eval⟩:Array Value):=by apply lk;simp
 unfold Oper.wp;rw[r,c];rcases i with ⟨d,g⟩|⟨v,m,d,b,g,s⟩;rw[d];refine g.mono ?_;rintro e m⟨v,rfl,b,k,t⟩;exact n v m b k t;rw[d];exact n v m b g s
theorem agL(A:Ctx w0 id ρ B w){s:FuncId->Option Spec}(m:aS P s){f:FuncId}{g:Operand}(k:a.eval g=.func (.func f) #[] #[]){t:Array TypeId}{args:Array Operand}{o:dq}{F:Spec}(z:s f=some F)(h:F w0 id o B=some out)(C:∀p∈out.pre,p)(D:bW ρ o (args.toList.map a.eval)):dc P id B ⟨dst,.call ⟨.value g,args,t⟩,ty,pos,af,gd⟩ out ρ a w:=by
 intro next Q r;have l:=m f F z w0 id o B out h C ρ _ w D A;have u:execOp a.eval ⟨dst,.call ⟨.value g,args,t⟩,ty,pos,af,gd⟩=(callFunc f ((#[]++args.map a.eval) ++ #[])):=by show(do let d <-Deferred.ofValue (a.eval g) (args.map a.eval);invoke d.target d.args)=_;rw[k];rfl
 have c:(#[]++args.map a.eval) ++ #[]=(⟨args.toList.map a.eval⟩:Array Value):=by apply lk;simp
 unfold Oper.wp;rw[u,c];rcases l with ⟨i,j⟩|⟨v,q,i,b,j,x⟩;rw[i];refine j.mono ?_;rintro e q⟨v,rfl,b,n,y⟩;exact r v q b n y;rw[i];exact r v q b j x
theorem TL(C:Ctx w0 id ρ B w){t:FuncId->Option Spec}(n:aS P t){f:FuncId}{i:Operand}{b:bn}(l:a.eval i=.func (.func f) ⟨[]⟩ ⟨b⟩){u:Array TypeId}{args:Array Operand}{q:dq}{F:Spec}(A:t f=some F)(h:F w0 id q B=some out)(D:∀p∈out.pre,p)(E:bW ρ q (args.toList.map a.eval++b)):dc P id B ⟨dst,.call ⟨.value i,args,u⟩,ty,pos,af,gd⟩ out ρ a w:=by
 intro next Q s;have m:=n f F A w0 id q B out h D ρ _ w E C;have x:execOp a.eval ⟨dst,.call ⟨.value i,args,u⟩,ty,pos,af,gd⟩=(callFunc f ((#[]++args.map a.eval)++⟨b⟩)):=by show(do let d <-Deferred.ofValue (a.eval i) (args.map a.eval);invoke d.target d.args)=_;rw[l];rfl
 have g:(#[]++args.map a.eval)++⟨b⟩=(⟨args.toList.map a.eval++b⟩:Array Value):=by apply lk;simp
 unfold Oper.wp;rw[x,g];rcases m with ⟨j,k⟩|⟨v,r,j,c,k,y⟩;rw[j];refine k.mono ?_;rintro e r⟨v,rfl,c,o,z⟩;exact s v r c o z;rw[j];exact s v r c k y
theorem Aq:∀{l m:dq}{c b:bn},bW ρ l c->bW ρ m b->bW ρ (l++m) (c++b):=by
 intro l;induction l with
 |nil=>intro m c b h d;subst h;exact d
 |cons a l i=>intro m c b⟨y,j,e,f,g⟩d;subst e;exact⟨y,j++b,rfl,f,i g d⟩
theorem Z0:∀{j:Kd}{x:a6 j}{f:FuncId}{l:dq}{v:Value},NZ j x=some (f,l)->Rd ρ.M j x [v]->∃d,v=.func (.func f) ⟨[]⟩ ⟨d⟩/\bW ρ l d:=by
 intro j;induction j with
 |fn g=>intro x f l v h i;obtain⟨rfl,rfl⟩:=h;have i:[v]=[_]:=i;simp at i;exact⟨[],i,rfl⟩
 |cap c e m s=>intro x f l v h i;simp[NZ]at h;split at h;rename_i y z r;obtain⟨rfl,rfl⟩:=h;obtain⟨g,d,b,o,n,p,q⟩:=i;obtain⟨k,t,u⟩:=m r p;obtain⟨rfl,_,rfl⟩:=t;simp at n;refine⟨_,n,Aq u ⟨_,[],rfl,FE q az az,rfl⟩⟩;simp at h
 |_=>intro x f l v h;simp[NZ]at h
theorem aeX:∀{l:List Nat}{c:bn},kb ρ l c->bW ρ (Ko l) c:=by
 intro l;induction l with
 |nil=>intro c h;exact h
 |cons i l g=>intro c⟨b,j,d,e,f⟩;subst f;exact Aq (g e) ⟨_,[],rfl,⟨b,d,rfl⟩,rfl⟩
theorem UA:∀{f:dq}{l m:List Nat}{g ws:bn},A0 f l=some m->bW ρ f g->kb ρ l ws->kb ρ m (ws++g):=by
 intro f;induction f with
 |nil=>intro l m g ws h d j;simp[A0]at h;subst h;have d:=d;subst d;rw[bF];exact j
 |cons v f p=>intro l m g ws h d j;unfold A0 at h;split at h;rename_i c;cases c;rename_i i q c;obtain⟨rfl,rfl⟩:=c;obtain⟨y,r,e,c,n⟩:=d;obtain⟨b,o,k⟩:=qi c;subst k e;have:=p h n ⟨b,ws,o,j,rfl⟩;simpa using this;simp at h
theorem VY(k:Ctx w0 id ρ B w){fn:Fn}{first b:Array Operand}{j:dq}(h:Fl fn first j=some out)(n:bW ρ j ((first++b).toList.map a.eval)):dc P id B ⟨dst,.makeFunc fn first b,ty,pos,af,gd⟩ out ρ a w:=by
 have e:∀(f:FuncId)(m:List Nat),first.size=0->A0 j []=some m->kb ρ m (b.toList.map a.eval)/\(execOp a.eval ⟨dst,.makeFunc (.func f) first b,ty,pos,af,gd⟩).run P w=.ok (.value (.func (.func f) ⟨[]⟩ ⟨b.toList.map a.eval⟩)) w:=by intro f m c d;have l:=Dv c;subst l;refine⟨?_,?_⟩;have:=UA d n rfl;simpa using this;·refine cC rfl ?_;show Result.ok _ w=Result.ok _ w;congr 1;congr 1;all_goals (apply lk;simp)
 unfold Fl at h;split at h;rename_i f c d;simp[gY]at h;subst h;obtain⟨i,g⟩:=e f [] c d;rw[i]at g;exact bz k g (nU rfl);rename_i f m _ c d;simp[ret]at h;subst h;obtain⟨i,g⟩:=e f m c d;exact bz k g ⟨_,i,rfl⟩;simp at h
theorem abx(b:Ctx w0 id ρ B w){s:SV}{v:Value}(h:s.rel ρ v):(norm w0 s).rel ρ v:=by unfold norm;split;rename_i g;split;rename_i e x c;have ev:=cY h;subst ev;exact FE (b.glob g e x c) az az;exact h;exact h
theorem ac3{s:SV}{v:Value}(h:s.rel ρ v):(C0 s).rel ρ v:=by unfold C0;split;exact h.1;exact h
theorem wJ(g:Ctx w0 id ρ B w):∀{b:dq}{c:bn},bW ρ b c->bW ρ (b.map λs=>C0 (norm w0 s)) c:=by
 intro b;induction b with
 |nil=>simp_all
 |cons v b h=>intro c⟨x,i,e,d,f⟩;exact⟨x,i,e,ac3 (abx g d),h f⟩
theorem rH{b:BinOp}{t:TypeId}{x y:Operand}{p q:Option Addr}{n m c d:Nat}:(eqGuard b t x y (.slice p n c) (.slice q m d)).run P w=.ok () w:=by cases b<;>simp[eqGuard]
theorem uo{t e:TypeId}(d:P.underlying t=some (.slice e)){b:Option Addr}{n c:Nat}:(Op.equal t (.slice b n c) (.slice none 0 0)).run P w=.ok b.isNone w:=by unfold Op.equal Op.maxDepth;rw[show 10000=9999+1 from rfl,Op.equalIn];cases b<;>simp[bP d]<;>rfl
theorem agO(i:Ctx w0 id ρ B w){k:BinOp}{t q:TypeId}{x y:Operand}{l:dq}(h:Q7 P k t l=some out)(o:bW ρ l [a.eval x,a.eval y]):dc P id B ⟨dst,.binOp k t x y q,ty,pos,af,gd⟩ out ρ a w:=by unfold Q7 at h;split at h;obtain⟨r,s,m,d,j⟩:=dz o;obtain⟨rfl,rfl⟩:=m;have g:=cY j;split at h;rename_i e f;split at h;obtain⟨_,p,n,c,b⟩:=d;simp at b;simp[ret]at h;subst h;refine bz i (cC rfl ?_) rfl;rw[b,g];simp[rH,binOp,uo f];have b:=cY d;simp[ret]at h;subst h;refine bz i (cC rfl ?_) rfl;rw[b,g];simp[rH,binOp,uo f];simp at h;rename_i e f;split at h;obtain⟨_,p,n,c,b⟩:=d;simp at b;simp[ret]at h;subst h;refine bz i (cC rfl ?_) rfl;rw[b,g];simp[rH,binOp,uo f];have b:=cY d;simp[ret]at h;subst h;refine bz i (cC rfl ?_) rfl;rw[b,g];simp[rH,binOp,uo f];simp at h;simp at h;simp at h
theorem xA(j:Ctx w0 id ρ B w){Z:FuncId->Option Spec}(D:aS P Z){o:Oper}{vs:dq}(h:Ia P Z w0 id o.op vs B=some out)(r:∀p∈out.pre,p)(g:bW ρ vs (o.op.operands.toList.map a.eval)):dc P id B o out ρ a w:=by
 obtain⟨dst,V,ty,pos,af,gd⟩:=o;unfold Ia at h;split at h;simp at h
 ·rename_i m;dsimp only at h m g;cases V<;>dsimp only at h<;>try (simp at h;done)
  case move x=>exact Y1 j h g
  case assign x=>exact Qr j h g
  case pick c x y=>exact akj j h g
  case alloc t=>exact agJ j h
  case box t x=>exact alO j h g
  case build t ps=>exact agK j m h r (by simpa[Op.operands,vT]using g)
  case buildSlice t n ps=>exact Qs j m h r (by simpa[Op.operands,vT]using g)
  case load t x=>exact akh j (n5 m).2.1 (n5 m).2.2 h r g
  case store t x y=>exact agQ j (n5 m).1 h r g
  case fieldAddr t x f=>exact RC j (λfd R=>(Da m R).1) h g
  case indexAddr t x i=>exact RD j m h r g
  case index t x i=>exact agN j m h r g
  case field t x f=>exact agM j m h g
  case extract x i=>exact Y0 j h g
  case binOp V t x y t'=>exact alN j h r g
  case unOp V t x=>exact apt j h g
  case convert s d x=>exact YZ j h g
  case nilCheck x=>exact alQ j h g
  case sliceToArrayPointer t x=>exact alM j h r g
  case makeSlice t x y=>exact aki j h r g
  case slice t x lo hi mx=>
   refine agP j m h r ?_;simp[Op.operands]at g;cases lo<;>cases hi<;>cases mx<;>simpa using g
  case makeFunc fn first I=>exact VY j h (by simpa[Op.operands]using g)
  case call c=>
   obtain⟨ce,args,ts⟩:=c;unfold aeI at h;split at h;rename_i f v H b;dsimp only at b;subst b;split at h;rename_i F E;simp[Op.operands,Call.operands]at g;obtain⟨y,W,z,_,A⟩:=g;simp at z;obtain⟨_,rfl⟩:=z;exact akf j D E h r A;simp at h;rename_i Y f H _ b;dsimp only at b;subst b;split at h;rename_i F E;simp[Op.operands,Call.operands]at g;obtain⟨y,W,z,L,A⟩:=g;simp at z;obtain⟨q,rfl⟩:=z;have C:=cY L;rw[C]at q;exact agL j D q E h r A;simp at h;rename_i Y κ x H _ b;dsimp only at b;subst b;split at h;rename_i f l K;split at h;rename_i F E;simp[Op.operands,Call.operands]at g;obtain⟨y,W,z,L,A⟩:=g;simp at z;obtain⟨q,rfl⟩:=z;obtain⟨X,C,Q⟩:=Z0 K L.1;rw[C]at q;exact TL j D q E h r (Aq A Q);simp at h;simp at h;rename_i Y f l H _ b;dsimp only at b;subst b;split at h;rename_i F E;simp[Op.operands,Call.operands]at g;obtain⟨y,W,z,L,A⟩:=g;simp at z;obtain⟨q,rfl⟩:=z;obtain⟨us,O,C⟩:=L;simp at C;rw[C]at q;exact TL j D q E h r (Aq A (aeX O));simp at h;rename_i b;dsimp only at b;subst b;exact alP j h (by simpa[Op.operands,Call.operands]using g);rename_i b;dsimp only at b;subst b;exact ab9 j h r (by simpa[Op.operands,Call.operands]using g);rename_i b;dsimp only at b;subst b;exact akg j h r (by simpa[Op.operands,Call.operands]using g)
   ·rename_i k x U y b;dsimp only at b;subst b;obtain⟨u,v,e,T,G⟩:=dz g;simp[Op.operands,Call.operands]at e;have z:=cY T;have N:=cY G;subst z N;simp[gY]at h;subst h;refine bz j (cC rfl ?_) (nU rfl);have e:(args.map a.eval).toList=[Value.int k x,Value.int U y]:=by simpa using e
    unfold Builtin.max_;rw[e];rfl
   ·rename_i k x U y b;dsimp only at b;subst b;obtain⟨u,v,e,T,G⟩:=dz g;simp[Op.operands,Call.operands]at e;have z:=cY T;have N:=cY G;subst z N;simp[gY]at h;subst h;refine bz j (cC rfl ?_) (nU rfl);have e:(args.map a.eval).toList=[Value.int k x,Value.int U y]:=by simpa using e
    unfold Builtin.min_;rw[e];rfl
   simp at h
theorem U1(Y:Ctx w0 id ρ B w){o:Oper}{out z:Out}(E:aaU (some out)=some z)(h:(∀p∈out.pre,p)->dc P id B o out ρ a w)(hp:∀p∈z.pre,p):dc P id B o z ρ a w:=by
 classical
 unfold aaU at E;split at E
 ·rename_i o' i k c j cell wr pre O;simp at O;subst O;split at E
  ·rename_i e k' xs u W;simp at E;subst E;simp only[bD,sM]at u;obtain⟨u,x8⟩:=u;have u:=ca u;subst u;have I:=hp _ (DP ..);intro next Q hk;refine h (λp d=>hp p (zf _ d)) next Q ?_;intro v w' x H g;have X:=λp d=>List.isEmpty_iff.1 (x8 p d);rcases H with ⟨hz,H⟩|⟨b,o',x0,hb,A,ho,y0,H⟩;simp at H;have x9:xs=[]:=eL aa;refine hk v w' ρ ?_ {le:=aI.le_refl _,dom:=λ_ _ h=>.inl h,bound:=λi b hi=>gJ (Y.bound i b hi) g.size,os:=g.os,tape:=g.tape,output:=g.output,size:=g.size,same:=g.same,new:=(λp d=>by cases d),newinj:=(λp d=>by cases d),wruniq:=g.wruniq,wr:=λp d=>⟨(g.wr p d).1,λ_ _ h=>absurd (X p d) h⟩,mem:=λ_ _ h=>.inl h};subst x9;rw[H];exact .inl ⟨rfl,none,0,rfl,λ_=>rfl⟩
   ·simp at H;have D:[cell]≠[]:=az;obtain⟨_,_,T⟩:=g.new (i,[cell]) az;obtain⟨t,l,N,x4⟩:=T b hb D;obtain⟨v1,v2,el,x3,C⟩:=x4;have C:v2=[]:=C;subst C;rw[bF]at el;subst el;obtain⟨_,V,_⟩:=mr W x3;obtain⟨f,x1,fr,F,_⟩:=N;have U:∀r,ρ.M b≠some r:=by
     intro r Z;rcases t with x5|⟨q,hq,x7,_⟩;obtain⟨el,fr,hh⟩:=Y.mem b r Z;have:=gH x5;rw[this]at hh;cases hh;obtain⟨⟨cs,hB,x6⟩,_⟩:=g.wr q hq;exact Y.apart b r Z q.1 cs hB x6 x7
    have G:x.M b=none:=by
     cases Z:x.M b with
     |none=>rfl
     |some r=>rcases g.mem b r Z with L|⟨L,_⟩;exact absurd L (U r);exact absurd hb (L (i,[cell]) az)
    let K:aI:=⟨ρ.m,ρ.n,λs=>if s=b/\l++f≠[]then some (l++f)else x.M s⟩;have hM:Mem.le x.M K.M:=by intro s r y;show(if s=b/\l++f≠[]then _ else x.M s)=some r;by_cases e:s=b/\l++f≠[];obtain⟨rfl,_⟩:=e;rw[G]at y;cases y;rw[ai e];exact y
    have x2:l++f≠[]->K.M b=some (l++f):=λhn=>by show(if b=b/\l++f≠[]then _ else _)=_;rw[ah ⟨rfl,hn⟩]
    refine hk v w' K ?_ {le:=⟨λ_ _ h=>⟨h,rfl⟩,λs r y=>hM s r (g.le.mem s r y)⟩,dom:=λ_ _ h=>.inl h,bound:=λi b hi=>gJ (Y.bound i b hi) g.size,os:=g.os,tape:=g.tape,output:=g.output,size:=g.size,same:=g.same,new:=(λp d=>by cases d),newinj:=(λp d=>by cases d),wruniq:=g.wruniq,wr:=λp d=>⟨(g.wr p d).1,λ_ _ h=>absurd (X p d) h⟩,mem:=?_}
    ·rw[H];rcases ho with rfl|rfl
     ·have hl:=iu (λ_ _=>cK) V;have hz:0+0*c=0:=by rw[nh]
      refine .inr ⟨b,0+0*c,x0,by rw[I],by rw[I];exact A,l++f,x2,by rw[hz,bA,hl,cy];exact vX _ _,?_⟩;rw[hz,jU,<-hl,px rfl];exact fe (λ_ _ h=>dT hM h) V
     have R:k=0:=Nat.le_zero.1 A;exact .inl ⟨eL (I.trans R),some ⟨b,o',none⟩,0,by rw[R],λh=>by cases h⟩
    intro s r y;have y:(if s=b/\l++f≠[]then some (l++f)else x.M s)=some r:=y;by_cases e:s=b/\l++f≠[];have h2:=(ah e).symm.trans y;obtain⟨rfl,hn⟩:=e;obtain rfl:=nO h2;exact .inr ⟨(λp d=>by cases d),t,x1,fr,by rw[vG hn];exact F⟩;rw[ai e]at y;rcases g.mem s r y with L|⟨_,h2,h3⟩;exact .inl L;exact .inr ⟨(λp d=>by cases d),h2,h3⟩
  cases E
 cases E
theorem Wu(b:Ctx w0 id ρ B w){k:FuncId->Option Spec}(d:aS P k){o:Oper}{l:dq}(h:adf P k w0 id o.op l B=some out)(i:∀p∈out.pre,p)(e:bW ρ l (o.op.operands.toList.map a.eval)):dc P id B o out ρ a w:=by
 obtain⟨dst,m,ty,pos,af,gd⟩:=o;unfold adf at h;dsimp only at h e;split at h;exact Y1 b h e;exact Qr b h e
 ·rename_i c;split at h
  ·cases f:Ia P k w0 id (.call c) (l.map λs=>C0 (norm w0 s)) B with
   |none=>rw[f]at h;cases h
   |some g=>rw[f]at h;exact U1 b h (λj=>xA b d f j (wJ b e)) i
  exact xA b d h i (wJ b e)
 split at h;rename_i g f;simp at h;subst h;exact agO b f e;exact xA b d h i (wJ b e);exact xA b d h i (wJ b e)
theorem abc{t:TypeId}(h:isStr P t=true):P.underlying t=some .string:=by unfold isStr at h;split at h;assumption;cases h
theorem afV{t:TypeId}(h:abd P t=true):P.underlying t=some (.int .u8):=by unfold abd at h;split at h;assumption;cases h
theorem WB(x y:ByteArray):(x.toList==y.toList)=decide (x=y):=by by_cases h:x=y;subst h;simp;rw[cm h];refine beq_eq_false_iff_ne.2 λe=>h ?_;rw[ByteArray.toList_eq,ByteArray.toList_eq]at e;exact ByteArray.ext (Array.toList_inj.1 e)
theorem TM(i:Ctx w0 id ρ B w){t k:TypeId}{x y:Operand}{s e:ByteArray}(b:Bool)(j:bW ρ [.is (.one (.v (.string s))),.is (.one (.v (.string e)))] [a.eval x,a.eval y]):
  dc P id B ⟨dst,.binOp (bif b then .neq else .eql) t x y k,ty,pos,af,gd⟩ {val:=.is (.one (.v (.bool (bif b then !decide (s=e)else decide (s=e)))))} ρ a w:=by
 obtain⟨l,m,f,c,d⟩:=dz j;simp only[dS,fW]at f;obtain⟨g,h⟩:=f;have c:=cY c;have d:=cY d;subst c d;refine bz i (cC (s:=(do eqGuard (bif b then .neq else .eql) t x y (a.eval x) (a.eval y);binOp (bif b then .neq else .eql) t (a.eval x) (a.eval y))) rfl ?_) ⟨rfl,rfl⟩;rw[g,h];cases b<;>simp only[cond_true,cond_false,cf,eqGuard_at_string,binOp_string_eql,binOp_string_neq,c1,cn,WB]
theorem agR(n:Ctx w0 id ρ B w){s d e:TypeId}{x:Operand}{v:SV}{m:Nat}{c:LI}{p:gi}(u:P.underlying s=some (.slice e))(r:P.underlying e=some (.int .u8))(o:P.underlying d=some .string)(h:F5 B (.int .u8) v=some (m,c,p)) (E:∀q∈p,q) (G:bW ρ [v] [a.eval x]):
  dc P id B ⟨dst,.convert s d x,ty,pos,af,gd⟩ {val:=.is (.one (.v (.string (strOfNums c)))),pre:=p} ρ a w:=by
 obtain⟨z,l,H⟩:=cI G;simp only[dS,fW]at l;obtain⟨t,g,F,y⟩:=Ai n h E H;refine bz n (cC (s:=convert s d (a.eval x)) rfl ?_) ⟨rfl,rfl⟩;rw[l];rcases y with ⟨rfl,C⟩|⟨k,f,rfl,b⟩;have:c=[]:=eL (t.trans C);subst this;rw[run_convert_bytes_nil w s e u r 0 0 d o];rfl
 ·have D:g=c.map (Value.int .u8):=xC.1 F;subst D;have i:(loadCells k m).run P w=.ok (c.map (Value.int .u8)).toArray w:=by
   have:=run_loadCells_list (P:=P) w k (c.map (Value.int .u8)) (λj v A=>b j v A);rw[b5,t]at this;exact this
  rw[run_convert_bytes_string w s d e _ m f u r o,run_bytesToString w _ m f c i,foldl_push_bytes];simp[strOfNums,ByteArray.empty,ByteArray.emptyWithCapacity];rfl
theorem RJ(f:Ctx w0 id ρ B w){o:Oper}{g:dq}(h:Wr P o.op g B=some out)(k:∀p∈out.pre,p)(c:bW ρ g (o.op.operands.toList.map a.eval)):dc P id B o out ρ a w:=by
 obtain⟨dst,m,ty,pos,af,gd⟩:=o;dsimp only at h c;unfold Wr at h;split at h;rename_i m t x y r;split at h;rename_i s q;split at h;simp only[gY,cd]at h;subst h;exact TM f false c;simp only[gY,cd]at h;subst h;exact TM f true c;cases h;cases h;rename_i s d x;split at h;rename_i e v l i;split at h;rename_i n u p j b;simp only[cd]at h;subst h;exact agR f l (afV j) (abc i) b k c;cases h;cases h;cases h
theorem ZL(b:Ctx w0 id ρ B w){g:FuncId->Option Spec}(c:aS P g){o:Oper}{i:dq}(h:xop P g w0 id o.op i B=some out)(d:∀p∈out.pre,p)(e:bW ρ i (o.op.operands.toList.map a.eval)):dc P id B o out ρ a w:=by
 unfold xop at h;split at h;rename_i f j;simp only[cd]at h;subst h;exact RJ b j d (wJ b e);exact Wu b c h d e
end
structure Env where
 P:Program
 sp:FuncId->Option Spec
 w0:dn
def eA:e5->Nat->Option cb
 |[],_=>none
 |(i,cs)::r,id=>match beq i id with
  |true=>some cs
  |false=>eA r id
structure St where
 aW:dq
 bQ:e5
 next:Nat
def St.S(d:St):dr:=λt=>d.aW.getD t .junk
def St.B(d:St):b8:=eA d.bQ
def R7:Value->SV
 |.bool true=>.is (.one .T)
 |.bool false=>.is (.one .F)
 |.agg _ | .tuple _=>.junk
 |x=>.is (.one (.v x))
def fG(S:dr):Operand->SV
 |.tmp t=>S t
 |.const v=>R7 v
 |.global g=>.is (.one (.v (.pointer (some ⟨g,0,none⟩))))
 |.func f=>.is (.one (.v (.func (.func f) #[] #[])))
def ax.ids:ax->List Nat
 |.ptr i _ | .pe i _ _ _ | .sl i _ _ _ _=>[i]
 |.clo _ l=>l
 |_=>[]
def TV.ids:TV->List Nat
 |.one c=>c.ids
 |.agg cs=>cs.flatMap ax.ids
def SV.ids:SV->List Nat
 |.is x=>x.ids
 |.tup l=>l.flatMap TV.ids
 |_=>[]
def dQ(i:Nat):List Nat->Bool
 |[]=>false
 |j::l=>match beq i j with
  |true=>true
  |false=>dQ i l
def nE(ids:List Nat)(B:b8):b8:=λi=>match dQ i ids with
 |true=>B i
 |false=>none
def jb(B:b8)(b:dq):List Nat:=
 let d:=b.flatMap SV.ids
 d++d.flatMap λi=>match B i with
  |some cs=>cs.flatMap ax.ids
  |none=>[]
def Bi(b:Op)(B:b8)(c:dq):List Nat:=match b with
 |.move _=>[]
 |_=>jb B c
inductive StepR where
 |bad
 |skip
 |run (out:Out) (ids:List Nat)
def od(E:Env)(S:dr)(B:b8)(id:Nat)(o:Oper):StepR:=
 let b:=o.op.operands.toList.map (fG S);let ids:=Bi o.op B b;match xop E.P E.sp E.w0 id o.op b (nE ids B)with
 |some out=>.run out ids
 |none=>.bad
def sg(E:Env)(ops:Array Oper)(S:dr)(B:b8)(id:Nat)(o:Oper):StepR:=
 match o.guard with
 |none=>od E S B id o
 |some (j,b)=>match (ops[j]?).bind (·.dst)with
  |some d=>match S d,b with
   |.is (.one .T),true=>od E S B id o
   |.is (.one .T),false=>.skip
   |.is (.one .F),true=>.skip
   |.is (.one .F),false=>od E S B id o
   |.undef,_=>.skip
   |_,_=>.bad
  |none=>.bad
structure Rec where
 val:SV
 new:e5
 wr:e5
 ids:List Nat
def gW(n:Nat)(b:Option Tmp)(v:SV)(S:dr):dr:=λt=>
 match b with
 |some d=>if t=d/\d<n then v else S t
 |none=>S t
def kN(r:Rec)(B:b8):b8:=λid=>
 match eA r.new id with
 |some cs=>some cs
 |none=>match eA r.wr id with
  |some cs=>some cs
  |none=>B id
def dE(x y:SV):Prop:=∀ρ v,x.rel ρ v->y.rel ρ v
def qj:Rec:=⟨.undef,[],[],[]⟩
def xR(E:Env)(ops:Array Oper)(S:dr)(B:b8)(id:Nat)(o:Oper)(r:Rec):Prop:=
 (sg E ops S B id o=.skip/\r=qj)\/
 (∃out ids,sg E ops S B id o=.run out ids/\(∀p∈out.pre,p)/\dE out.val r.val/\r.new=out.new/\r.wr=out.wr/\r.ids=ids)
theorem jz{l:e5}{id:Nat}{cs:cb}(h:eA l id=some cs):(id,cs)∈l:=by
 induction l with
 |nil=>trivial
 |cons p l c=>simp[eA]at h;split at h;rename_i b;have:=ca b;grind;grind
theorem I5{l:e5}{id:Nat}(h:eA l id=none):∀p∈l,p.1≠id:=by
 induction l with
 |nil=>simp_all
 |cons q l b=>
  simp[eA]at h;split at h;trivial
  ·intro p hp;rcases mem_cons.1 hp with rfl|hp;·intro e;simp_all
   exact b h p hp
theorem pR{ids:List Nat}{B:b8}{i:Nat}{cs:cb}(h:nE ids B i=some cs):B i=some cs:=by unfold nE at h;grind
section
variable {E:Env}{ops:Array Oper}{n:Nat}{S:dr}{B:b8}{ρ:aI}{a:Act}{w:World}
theorem Ri(v:Value):(R7 v).rel ρ v:=by
 cases v with
 |bool b=>cases b<;>exact rfl
 |agg _=>trivial
 |tuple _=>trivial
 |_=>trivial
structure dJ(w0:dn)(n:Nat)(S:dr)(B:b8)(ρ:aI)(a:Act)(w:World):Prop where
 defers:a.defers=[]
 size:a.tmps.size=n
 aW:∀t,(S t).rel ρ (a.tmps.getD t Go.undef)
 below:mV w0 w
 bQ:∀id cs,B id=some cs->cs≠[]->∀b,ρ id=some b->∃l,cN w b (ρ.n id) l/\aH ρ cs l
 inj:∀id id' cs cs' b,B id=some cs->cs≠[]->B id'=some cs'->cs'≠[]->ρ id=some b->ρ id'=some b->id=id'
 bound:∀id b,ρ id=some b->w0.bB b/\b<w.heap.size
 init:∀p∈w0.ids,ρ p.1=some p.2/\ρ.n p.1=w0.num p
 mem:∀b l,ρ.M b=some l->(∀i cs,B i=some cs->cs≠[]->ρ i≠some b)/\∃el fr,w.heap[b]?=some (qv l el fr)
 bJ:∀b l,ρ.M b=some l->b<w0.w.heap.size->w0.own b=true\/w0.M b=some l
 glob:∀g e x,w0.gl g=some ⟨e,x⟩->n9 (Rd ρ.M e) (aC e) ρ.M g 0 [x]
 tops:∀p∈w0.ids,p.1<w0.top
 memle:Mem.le w0.M ρ.M
theorem dJ.fG(h:dJ E.w0 n S B ρ a w)(x:Operand):(fG S x).rel ρ (a.eval x):=by
 cases x with
 |tmp t=>exact h.aW t
 |const v=>exact Ri v
 |global g=>trivial
 |func f=>trivial
theorem dJ.akN(h:dJ E.w0 n S B ρ a w):∀(l:List Operand),bW ρ (l.map (Eng.fG S)) (l.map a.eval):=by
 intro l;induction l with
 |nil=>rfl
 |cons x l b=>exact⟨_,_,rfl,h.fG x,b⟩
theorem FT(b:Option Tmp)(v:Value)(t:Nat)(c:a.tmps.size=n):
  (a.put b v).tmps.getD t Go.undef=(match b with|some d=>if t=d/\d<n then v else a.tmps.getD t Go.undef|none=>a.tmps.getD t Go.undef):=by
 cases b with
 |none=>rfl
 |some d=>simp[Act.put];grind
theorem CD(b:Option Tmp)(v:Value):(a.put b v).tmps.size=a.tmps.size:=by cases b<;>simp[Act.put]
theorem put_defers(b:Option Tmp)(v:Value):(a.put b v).defers=a.defers:=by cases b<;>simp[Act.put]
theorem dJ.step(h:dJ E.w0 n S B ρ a w){id:Nat}{B0:b8}{out:Out}{r:Rec}{Y:Option Tmp}{N:aI}{w':World}{v:Value}(C:∀i cs,B0 i=some cs->B i=some cs)(j:Eff id B0 out ρ N w w') (hv:r.val.rel N v) (hn:r.new=out.new) (hw:r.wr=out.wr):
  dJ E.w0 n (gW n Y r.val S) (kN r B) N (a.put Y v) w':=by
 have x3:∀i b,N i=some b->E.w0.bB b:=by intro i b y;rcases j.dom i b y with h'|⟨_,_,_,h'|⟨q,_,h'⟩⟩;exact(h.bound i b h').1;exact .inl (fw h.below.size h');exact(h.bound _ b h').1
 -- z2 cells y1,of an id
 have D:∀i cs,kN r B i=some cs->cs≠[]->(∃p∈out.new,p.1=i/\p.2=cs)\/((∀p∈out.new,p.1≠i)/\∃p∈out.wr,p.1=i/\p.2=cs)\/((∀p∈out.new,p.1≠i)/\(∀p∈out.wr,p.1≠i)/\B i=some cs):=by
  intro i cs y _;unfold kN at y;split at y;rename_i c hc;simp at y;subst y;exact .inl ⟨(i,c),by rw[<-hn];exact jz hc,rfl,rfl⟩
  ·rename_i x4;have hnn:∀p∈out.new,p.1≠i:=by intro p m;rw[<-hn]at m;exact I5 x4 p m
   split at y;rename_i c hc;simp at y;subst y;exact .inr (.inl ⟨hnn,(i,c),by rw[<-hw];exact jz hc,rfl,rfl⟩);rename_i K;exact .inr (.inr ⟨hnn,by intro p m;rw[<-hw]at m;exact I5 K p m,y⟩)
 -- an id y7 is not z1 y2 for y8 it y6 for
 have G:∀i b,N i=some b->(∀p∈out.new,p.1≠i)->ρ i=some b:=by intro i b y hnn;rcases j.dom i b y with h'|⟨_,_,⟨p,m,e⟩,_⟩;exact h';exact(hnn p m e).elim
 refine⟨?_,?_,?_,?_,?_,?_,?_,?_,?_,?_,?_,?_,?_⟩;rw[put_defers];exact h.defers;rw[CD];exact h.size
 ·intro t;rw[FT Y v t h.size];cases Y with
  |none=>exact SV.gM j.le (h.aW t)
  |some d=>simp only[gW];by_cases hc:t=d/\d<n;simp[hc,and_self];exact hv;simp only[hc,mq];exact SV.gM j.le (h.aW t)
 refine⟨j.os.trans h.below.os,j.tape.trans h.below.tape,j.output.trans h.below.output,fw h.below.size j.size,λk hk ho=>?_⟩;rw[<-h.below.block k hk ho];refine j.same k (gJ hk h.below.size) (λp _ e=>?_);rcases (h.bound _ _ e).1 with h'|h';omega;rw[ho]at h';cases h'
 ·intro i cs y f b U;rcases D i cs y f with ⟨p,m,rfl,rfl⟩|⟨hnn,p,m,rfl,rfl⟩|⟨hnn,K,I⟩;exact((j.new p m).2.2 b U f).2;have H:=j.wr p m;have h':=G _ _ U hnn;obtain⟨l,g1,g2⟩:=H.2 b h' f;exact⟨l,by rw[(j.le.id _ _ h').2];exact g1,g2⟩
  ·have h':=G _ _ U hnn;obtain⟨l,g1,g2⟩:=h.bQ i cs I f b h';refine⟨l,?_,fi j.le g2⟩;rw[(j.le.id _ _ h').2]
   have hs:=j.same b g1.lt (λp m e=>by
    obtain⟨⟨c,s,u⟩,_⟩:=j.wr p m
    exact K p m (h.inj _ _ _ _ _ (C _ _ s) u I f e h'))
   obtain⟨y0,el,fr,k1,k2,k3⟩:=g1;exact⟨y0,el,fr,by rw[hs];exact k1,k2,k3⟩
 ·have ao:∀p∈out.new,p.2≠[]->∀i cs b,kN r B i=some cs->cs≠[]->(∀p∈out.new,p.1≠i)->N p.1=some b->N i=some b->False:=by
   intro p m X i cs b y f hnn y3 y4;have h2:=G _ _ y4 hnn;rcases ((j.new p m).2.2 b y3 X).1 with g|⟨q,R,F,T⟩;have:=(h.bound _ _ h2).2;omega;obtain⟨⟨c,s,u⟩,_⟩:=j.wr q R;rcases D i cs y f with ⟨L,o,e,_⟩|⟨_,L,o,V,e2⟩|⟨_,K,I⟩;exact hnn L o e;obtain⟨⟨c',z,A⟩,_⟩:=j.wr L o;have:=h.inj _ _ _ _ _ (C _ _ s) u (C _ _ z) A F (by rw[V];exact h2);have:=j.wruniq q R L o this;subst this;exact f (by rw[<-e2];exact T);exact K q R (h.inj _ _ _ _ _ (C _ _ s) u I f F h2)
  have P:∀i cs,kN r B i=some cs->cs≠[]->(∀p∈out.new,p.1≠i)->∃c,B i=some c/\c≠[]:=by intro i cs y f hnn;rcases D i cs y f with ⟨L,o,e,_⟩|⟨_,L,o,V,e2⟩|⟨_,K,I⟩;exact(hnn L o e).elim;obtain⟨⟨c',z,A⟩,_⟩:=j.wr L o;exact⟨c',by rw[<-V];exact C _ _ z,A⟩;exact⟨cs,I,f⟩
  intro i i' cs x5 b y f x8 x0 U x7;have dec:∀i cs,kN r B i=some cs->cs≠[]->(∃p∈out.new,p.1=i/\p.2=cs)\/(∀p∈out.new,p.1≠i):=by grind
  rcases dec i cs y f with ⟨p,m,V,e2⟩|hnn<;>rcases dec i' x5 x8 x0 with ⟨L,o,x6,y9⟩|hnn';rw[<-V,<-x6];exact j.newinj p m L o b (by rw[V];exact U) (by rw[x6];exact x7);grind;grind;obtain⟨c,s,u⟩:=P i cs y f hnn;obtain⟨c',z,A⟩:=P i' x5 x8 x0 hnn';exact h.inj _ _ _ _ _ s u z A (G _ _ U hnn) (G _ _ x7 hnn')
 intro i b y;exact⟨x3 i b y,j.bound i b y⟩;intro p m;exact⟨(j.le.id _ _ (h.init p m).1).1,((j.le.id _ _ (h.init p m).1).2).trans (h.init p m).2⟩
 ·have P:∀i cs,kN r B i=some cs->cs≠[]->(∀p∈out.new,p.1≠i)->(∃c,B i=some c/\c≠[])/\∀p∈out.wr,p.1=i->p.2≠[]:=by
   intro i cs y f hnn;rcases D i cs y f with ⟨L,o,e,_⟩|⟨_,L,o,V,e2⟩|⟨_,K,I⟩;exact(hnn L o e).elim;obtain⟨⟨c',z,A⟩,_⟩:=j.wr L o;refine⟨⟨c',by rw[<-V];exact C _ _ z,A⟩,λp m e=>?_⟩;have:=j.wruniq p m L o (by rw[e,V]);rw[this,e2];exact f;exact⟨⟨cs,I,f⟩,λp m e=>(K p m e).elim⟩
  intro b l U;rcases j.mem b l U with O|⟨hnn,W,Z⟩
  ·obtain⟨h1,el,fr,h2⟩:=h.mem b l O;have x2:b<w.heap.size:=by
    grind
   refine⟨λi cs y f H=>?_,el,fr,?_⟩
   ·rcases j.dom i b H with h'|⟨_,_,_,h'|⟨q,R,h'⟩⟩
    ·by_cases hnn:∀p∈out.new,p.1≠i;grind
     ·have hnn:∃p∈out.new,p.1=i:=iH λhh=>hnn λp m e=>hh ⟨p,m,e⟩;obtain⟨p,m,e⟩:=hnn;have X:p.2≠[]:=by
       rcases D i cs y f with ⟨L,o,V,e2⟩|⟨hnn',_⟩|⟨hnn',_⟩
       ·intro h0;have z0:N p.1=some b:=by rw[e];exact H
        have:=(j.new L o).2.2 b (by rw[V];exact H) (by rw[e2];exact f);rcases this.1 with g|⟨q,R,F,T⟩;omega;obtain⟨⟨c,s,u⟩,_⟩:=j.wr q R;exact h1 _ c (C _ _ s) u F
       exact(hnn' p m e).elim;exact(hnn' p m e).elim
      rcases ((j.new p m).2.2 b (by rw[e];exact H) X).1 with g|⟨q,R,F,T⟩;omega;obtain⟨⟨c,s,u⟩,_⟩:=j.wr q R;exact h1 _ c (C _ _ s) u F
    omega;obtain⟨⟨c,s,u⟩,_⟩:=j.wr q R;exact h1 _ c (C _ _ s) u h'
   ·rw[j.same b x2 (λp m e=>by
     obtain⟨⟨c,s,u⟩,_⟩:=j.wr p m
     exact h1 _ c (C _ _ s) u e)]
    exact h2
  refine⟨λi cs y f H=>?_,Z⟩;have x9:∀p∈out.new,p.1≠i:=λp m e=>hnn p m (by rw[e];exact H);have x1:=G i b H x9;obtain⟨⟨c,s,u⟩,y5⟩:=P i cs y f x9;rcases W with W|⟨q,R,F,T⟩;have:=(h.bound _ _ x1).2;omega;obtain⟨⟨c',z,A⟩,_⟩:=j.wr q R;have:=h.inj _ _ _ _ _ (C _ _ z) A s u F x1;exact y5 q R this T
 intro b l U x2;rcases j.mem b l U with O|⟨_,W,_⟩;exact h.bJ b l O x2;rcases W with W|⟨q,R,F,T⟩;have:=h.below.size;omega;rcases (h.bound _ _ F).1 with h'|h';omega;exact .inl h';intro g e x hg;exact l7 j.le.mem (h.glob g e x hg);exact h.tops;exactλb l U=>j.le.mem b l (h.memle b l U)
theorem dJ.skip(h:dJ E.w0 n S B ρ a w)(b:Option Tmp):dJ E.w0 n (gW n b .undef S) (kN qj B) ρ (a.put b Go.undef) w:=by
 have e:kN qj B=B:=by trivial
 rw[e];refine⟨by rw[put_defers];exact h.defers,by rw[CD];exact h.size,?_,h.below,h.bQ,h.inj,h.bound,h.init,h.mem,h.bJ,h.glob,h.tops,h.memle⟩;intro t;rw[FT b Go.undef t h.size];cases b with
 |none=>exact h.aW t
 |some d=>simp only[gW];by_cases c:t=d/\d<n;simp[c];exact rfl;simp only[c];exact h.aW t
theorem pV{j d:Nat}(e:(ops[j]?).bind (·.dst)=some d){b:Bool}(c:a.tmps.getD d Go.undef=.bool b):yielded ops a.tmps j=some b:=by
 unfold yielded;rw[e];rw[eh]at c;cases f:a.tmps[d]? with
 |none=>rw[f]at c;simp[Go.undef]at c
 |some y=>simp_all
theorem uv(O:aS E.P E.sp)(h:dJ E.w0 n S B ρ a w){id:Nat}{o:Oper}{r:Rec}(c:xR E ops S B id o r)(C:∀i,id<=i->i<id+8->ρ i=none){next:aA} {Q:Exit->aA}(W:∀U T A,dJ E.w0 n (gW n o.dst r.val S) (kN r B) A U T->(∀i b,A i=some b->ρ i=some b\/(id<=i/\i<id+8))->next U T):
  if Region.wanted o (yielded ops a.tmps)then o.wp E.P a w next Q\/(o.asks E.P a w/\LetsOut Q)else next (a.put o.dst Go.undef) w:=by
 have skip:r=qj->Region.wanted o (yielded ops a.tmps)=false->(if Region.wanted o (yielded ops a.tmps)then o.wp E.P a w next Q\/(o.asks E.P a w/\LetsOut Q)else next (a.put o.dst Go.undef) w):=by intro D q;subst D;simp[q];exact W _ _ ρ (h.skip o.dst) (λ_ _ h=>.inl h)
 have H:∀out ids,od E S B id o=.run out ids->(∀p∈out.pre,p)->dE out.val r.val->r.new=out.new->r.wr=out.wr->Region.wanted o (yielded ops a.tmps)=true ->
   (if Region.wanted o (yielded ops a.tmps)then o.wp E.P a w next Q\/(o.asks E.P a w/\LetsOut Q)else next (a.put o.dst Go.undef) w):=by
  intro out ids D F k t u q;simp[q];refine .inl ?_;unfold od at D;dsimp only at D;split at D;rename_i X hx;obtain⟨rfl,rfl⟩:=D;have hc:Ctx E.w0 id ρ (nE (Bi o.op B (o.op.operands.toList.map (fG S))) B) w:=⟨h.below,λi cs z=>h.bQ i cs (pR z),λi b z=>(h.bound i b z).2,C,λb l m=>(h.mem b l m).2,h.glob,λi i' cs N b t u Y Z=>h.inj i i' cs N b (pR t) u (pR Y) Z,λb l m i cs z=>(h.mem b l m).1 i cs (pR z)⟩;refine ZL hc O hx F (h.akN _) next Q (λv T A hv V=>?_);exact W _ _ A (h.step (λi cs z=>pR z) V (k _ _ hv) t u) (λi b z=>by rcases V.dom i b z with h|⟨t,u,_⟩;exact .inl h;exact .inr ⟨t,u⟩);cases D
 unfold xR sg at c;cases L:o.guard with
 |none=>
  have q:Region.wanted o (yielded ops a.tmps)=true:=by simp[Region.wanted,L]
  simp[L]at c;rcases c with ⟨c,_⟩|⟨out,ids,c,F,k,t,u,_⟩;unfold od at c;dsimp only at c;split at c<;>cases c;exact H out ids c F k t u q
 |some g=>
  obtain⟨j,I⟩:=g;simp[L]at c;have q:Region.wanted o (yielded ops a.tmps)=(yielded ops a.tmps j==some I):=by simp[Region.wanted,L]
  cases K:(ops[j]?).bind (·.dst)with
  |none=>simp only[K]at c;rcases c with ⟨c,_⟩|⟨_,_,c,_⟩<;>cases c
  |some d=>
   simp[K]at c;have e:=h.aW d;have known:∀b:Bool,a.tmps.getD d Go.undef=.bool b->yielded ops a.tmps j=some b:=by intro b m;exact pV K m
   have s:∀G:Region.wanted o (yielded ops a.tmps)=true,((od E S B id o=.skip/\r=qj)\/(∃out ids,od E S B id o=.run out ids/\(∀p∈out.pre,p)/\dE out.val r.val/\r.new=out.new/\r.wr=out.wr/\r.ids=ids)) ->
     (if Region.wanted o (yielded ops a.tmps)then o.wp E.P a w next Q\/(o.asks E.P a w/\LetsOut Q)else next (a.put o.dst Go.undef) w):=by
    intro G c;rcases c with ⟨c,_⟩|⟨out,ids,c,F,k,t,u,_⟩;unfold od at c;dsimp only at c;split at c<;>cases c;exact H out ids c F k t u G
   have f:((StepR.skip=.skip/\r=qj)\/(∃out ids,StepR.skip=.run out ids/\(∀p∈out.pre,p)/\dE out.val r.val/\r.new=out.new/\r.wr=out.wr/\r.ids=ids))->r=qj:=by intro c;rcases c with ⟨_,c⟩|⟨_,_,c,_⟩;exact c;cases c
   split at c;rename_i _ x;rw[x]at e;have m:=known true (iZ rfl e);exact s (by rw[q,m];rfl) c;rename_i _ x;rw[x]at e;have m:=known true (iZ rfl e);exact skip (f c) (by rw[q,m];rfl);rename_i _ x;rw[x]at e;have m:=known false (iZ rfl e);exact skip (f c) (by rw[q,m];rfl);rename_i _ x;rw[x]at e;have m:=known false (iZ rfl e);exact s (by rw[q,m];rfl) c
   ·rename_i x;rw[x]at e;have R:=e;have hy:yielded ops a.tmps j=none:=by
     unfold yielded;rw[K];simp;rw[eh]at R;cases hq:a.tmps[d]? with
     |none=>rfl
     |some y=>rw[hq]at R;subst R;rfl
    exact skip (f c) (by rw[q,hy];rfl)
   rcases c with ⟨c,_⟩|⟨_,_,c,_⟩<;>cases c
end
def dm(n:Nat)(e:Nat->Bool):Nat->List (Oper×Rec)->dr->dr
 |_,[],S=>S
 |i,(o,r)::l,S=>dm n e (i+1) l (match e i with|true=>gW n o.dst r.val S|false=>S)
def ee(e:Nat->Bool):Nat->List (Oper×Rec)->b8->b8
 |_,[],B=>B
 |i,(_,r)::l,B=>ee e (i+1) l (match e i with|true=>kN r B|false=>B)
def Ka(E:Env)(ops:Array Oper)(n base:Nat):Nat->List (Oper×Rec)->dr->b8->Prop
 |_,[],_,_=>True
 |i,(o,r)::l,S,B=>xR E ops S B (base+8*i) o r/\Ka E ops n base (i+1) l (gW n o.dst r.val S) (kN r B)
section
variable {E:Env}{ops:Array Oper}{n base:Nat}
theorem nT{e c:Nat->Bool}{t:Nat}:∀(l:List (Oper×Rec))(i:Nat)(S b:dr),S t=b t ->
  (∀j p,l[j]?=some p->p.1.dst=some t->e (i+j)=c (i+j))->dm n e i l S t=dm n c i l b t:=by
 intro l;induction l with
 |nil=>intro i S b h _;exact h
 |cons p l u=>
  intro i S b h m;obtain⟨o,r⟩:=p
  refine u (i+1) _ _ ?_ (λj q s f=>by
   have:=m (j+1) q (by simpa using s) f
   rw[show i+1+j=i+(j+1)from by omega];exact this)
  by_cases f:o.dst=some t;have:=m 0 (o,r) rfl f;simp at this;rw[this];cases c i;exact h;simp[gW,h]
  ·have k:∀S,gW n o.dst r.val S t=S t:=by
    intro S;unfold gW;split;rename_i d g;rw[ai];rintro⟨rfl,_⟩;exact f g;rfl
   cases e i<;>cases c i<;>simp[k,h]
def kh(r:Rec)(id:Nat):Bool:=(eA r.new id).isSome||(eA r.wr id).isSome
theorem Ii{r:Rec}{id:Nat}(h:kh r id=true)(B b:b8):kN r B id=kN r b id:=by unfold kN;simp[kh]at h;split;rfl;·split;rfl;simp_all
theorem Kh{r:Rec}{id:Nat}(h:kh r id=false)(B:b8):kN r B id=B id:=by unfold kN;simp[kh]at h;simp_all
theorem nS{e d:Nat->Bool}{t:Nat}:∀(l:List (Oper×Rec))(i:Nat)(B c:b8),B t=c t ->
  (∀j p,l[j]?=some p->kh p.2 t=true->e (i+j)=d (i+j))->ee e i l B t=ee d i l c t:=by
 intro l;induction l with
 |nil=>intro i S m h _;exact h
 |cons p l k=>
  intro i B c h f;obtain⟨o,r⟩:=p
  refine k (i+1) _ _ ?_ (λj q g b=>by
   have:=f (j+1) q (by simpa using g) b
   rw[show i+1+j=i+(j+1)from by omega];exact this)
  by_cases b:kh r t=true;have:=f 0 (o,r) rfl b;simp at this;rw[this];cases d i;exact h;exact Ii b B c
  ·have b:=by simpa using b
   cases e i<;>cases d i<;>simp[Kh b,h]
theorem Yk{S b:dr}{x:Operand}(h:∀t,x=.tmp t->S t=b t):fG S x=fG b x:=by
 cases x with
 |tmp t=>exact h t rfl
 |_=>rfl
theorem Wk{S c:dr}:∀(l:List Operand),(∀t,Operand.tmp t∈l->S t=c t)->l.map (fG S)=l.map (fG c):=by
 intro l;induction l with
 |nil=>simp_all
 |cons x l d=>intro h;simp only[eV];rw[Yk (λt b=>h t (by simp[b])),d (λt b=>h t (by simp[b]))]
theorem yt{i:Nat}{l:List Nat}(h:dQ i l=true):i∈l:=by
 induction l with
 |nil=>simp[dQ]at h
 |cons j l b=>
  simp[dQ]at h;split at h;·simp_all
  ·simp_all
theorem Hw{i:Nat}{l:List Nat}(h:i∈l):dQ i l=true:=by
 induction l with
 |nil=>cases h
 |cons j l b=>
  simp[dQ];split;rfl
  ·rcases mem_cons.1 h with rfl|h;·simp_all
   ·simp_all
theorem Rz{ids:List Nat}{B b:b8}(h:∀i∈ids,B i=b i):nE ids B=nE ids b:=by
 funext i;unfold nE;cases c:dQ i ids with
 |true=>exact h i (yt c)
 |false=>rfl
def IT(S:dr)(B:b8)(o:Oper):List Nat:=Bi o.op B (o.op.operands.toList.map (fG S))
theorem Ro{B b:b8}{c:dq}(h:∀i∈jb B c,B i=b i):jb B c=jb b c:=by
 unfold jb at h⊢;simp only at h⊢;congr 1;have:∀(l:List Nat),(∀i∈l,B i=b i)->(l.flatMap λi=>match B i with|some cs=>cs.flatMap ax.ids|none=>[])=l.flatMap λi=>match b i with|some cs=>cs.flatMap ax.ids|none=>[]:=by
  intro l;induction l with
  |nil=>intro _;rfl
  |cons i l g=>intro d;simp[d i az,g (λj f=>d j (by simp[f]))]
 exact this _ (λi e=>h i (jN _ e))
theorem OW{b:Op}{B d:b8}{c:dq}(h:∀i∈Bi b B c,B i=d i):Bi b B c=Bi b d c:=by cases b<;>first|rfl|exact Ro h
theorem Rs{o:Oper}{t:Nat}(h:Operand.tmp t∈o.op.operands.toList):t∈o.looksAt ops:=by unfold Oper.looksAt;refine List.mem_append.2 (.inl ?_);exact List.mem_filterMap.2 ⟨.tmp t,h,rfl⟩
theorem RA{S d:dr}{B c:b8}{id:Nat}{o:Oper}(f:∀t∈o.looksAt ops,S t=d t)(b:∀i∈IT S B o,B i=c i):od E S B id o=od E d c id o:=by have e:=Wk o.op.operands.toList (λt g=>f t (Rs g));unfold IT at b;unfold od;rw[e]at b;dsimp only;rw[e,Rz b,OW b]
theorem GL{S c:dr}{B b:b8}{id:Nat}{o:Oper}(e:∀t∈o.looksAt ops,S t=c t)(h:∀i∈IT S B o,B i=b i):sg E ops S B id o=sg E ops c b id o:=by
 unfold sg;rw[RA e h];cases l:o.guard with
 |none=>rfl
 |some g=>
  obtain⟨j,f⟩:=g;dsimp only;cases k:(ops[j]?).bind (·.dst)with
  |none=>rfl
  |some d=>
   dsimp only
   have:=e d (by
    unfold Oper.looksAt;refine List.mem_append.2 (.inr ?_)
    simp[l,k])
   rw[this]
theorem MY{S:dr}{B:b8}{id:Nat}{o:Oper}{out:Out}{ids:List Nat}(h:sg E ops S B id o=.run out ids):ids=IT S B o:=by
 have b:od E S B id o=.run out ids->ids=IT S B o:=by intro h;unfold od at h;dsimp only at h;split at h;simp at h;exact h.2.symm;cases h
 unfold sg at h
 repeat' split at h
 all_goals simp_all
def N7(a b:List Nat):Bool:=a.all λi=> !dQ i b
def Lz(r:Rec):List Nat:=(r.new.map (·.1))++(r.wr.map (·.1))
def r9(ops:Array Oper)(p q:Oper×Rec):Bool:=
 !(p.1.apart ops q.1&&N7 (Lz p.2) q.2.ids&&N7 (Lz q.2) p.2.ids&&N7 (Lz p.2) (Lz q.2))
def wH(b:List Nat)(c:List Edge):Nat:=
 match c with
 |[]=>0
 |e::c=>match Region.binds .any e with
  |true=>(2^e.on) ||| (b.getD e.on 0) ||| wH b c
  |false=>wH b c
def kB:List Oper->List Nat->List Nat
 |[],b=>b
 |o::c,b=>kB c (b++[wH b o.after.toList])
def FL(ops:Array Oper):Nat->List (Oper×Rec)->List (Oper×Rec)->List Nat->Bool
 |_,_,[],_=>true
 |_,_,_::_,[]=>false
 |i,b,q::l,m::ms=>
  (b.zipIdx.all λ(p,j)=>m.testBit j || !r9 ops p q)&&FL ops (i+1) (b++[q]) l ms
def rv(ops:List Oper):Bool:=ops.zipIdx.all λ(o,i)=>o.after.toList.all λe=> !Region.binds .any e||blt e.on i
def indep(ops:Array Oper)(l:List (Oper×Rec)):Bool:=
 rv ops.toList&&FL ops 0 [] l (kB ops.toList [])
theorem o4{a b:List Nat}(h:N7 a b=true):∀i∈a,i∉b:=by intro i d c;simp[N7]at h;have:=h i d;rw[Hw c]at this;cases this
theorem Ru{b:List Nat}{i:Nat}:∀(c:List Edge),(wH b c).testBit i=true->∃e∈c,Region.binds .any e=true/\(e.on=i\/(b.getD e.on 0).testBit i=true):=by
 intro c;induction c with
 |nil=>intro h;simp[wH]at h
 |cons e c d=>intro h;simp[wH]at h;grind
theorem Cp:∀(c:List Oper)(b:List Nat),(kB c b).take b.length=b/\(kB c b).length=b.length+c.length/\
  ∀j o,c[j]?=some o->(kB c b).getD (b.length+j) 0=wH ((kB c b).take (b.length+j)) o.after.toList:=by
 intro c;induction c with
 |nil=>intro b;exact⟨by simp[kB],by simp[kB],λj o h=>by simp at h⟩
 |cons o c k=>
  intro b;obtain⟨d,f,g⟩:=k (b++[wH b o.after.toList]);simp at d f g;simp only[kB];refine⟨?_,by rw[f];simp;omega,?_⟩;have:=congrArg (take b.length) d;simpa[nP]using this
  ·intro j m e;cases j with
   |zero=>
    simp at e;subst e;have i:=by have:=congrArg (take b.length) d;simpa[nP]using this
    rw[lf,i];have:=congrArg (λl=>l.getD b.length 0) d;simpa[gI]using this
   |succ j=>have:=g j m (by simpa using e);rw[show b.length+1+j=b.length+(j+1)from by omega]at this;exact this
theorem EU:∀(l:List (Oper×Rec))(i:Nat)(b:List (Oper×Rec))(ms:List Nat),FL ops i b l ms=true->l.length<=ms.length ->
  ∀j p k q,(b++l)[j]?=some p->l[k]?=some q->j<b.length+k->(ms.getD k 0).testBit j=true\/r9 ops p q=false:=by
 intro l;induction l with
 |nil=>simp_all
 |cons x l s=>
  intro i b ms h c j p k q d f r;cases ms with
  |nil=>simp at c
  |cons m ms=>
   simp only[FL,bD]at h;obtain⟨g,o⟩:=h;cases k with
   |zero=>
    simp at f;subst f;have e:=by rw[uS aa]at d;exact d
    simp only[sM]at g;have:=g (p,j) (List.mem_zipIdx_iff_getElem?.2 e);simpa using this
   |succ k=>have:=s (i+1) (b++[x]) ms o (by simpa using c) j p k q (by simpa using d) (by simpa using f) (by simp;omega);simpa using this
theorem ln{b:List Oper}(h:rv b=true){i:Nat}{o:Oper}(d:b[i]?=some o):∀e∈o.after.toList,Region.binds .any e=true->e.on<i:=by intro e c f;simp only[rv,sM]at h;have:=h (o,i) (List.mem_zipIdx_iff_getElem?.2 d) e c;simp_all
def Dq(ops:Array Oper)(e:Nat->Bool):Prop:=∀j o,ops[j]?=some o->e j=true->∀d∈o.after.toList,Region.binds .any d=true->e d.on=true
theorem qc{e:Nat->Bool}(s:rv ops.toList=true)(r:Dq ops e):∀(N j:Nat)(o:Oper),j<N->ops[j]?=some o->(∀d∈o.after.toList,Region.binds .any d=true->e d.on=true) ->
  ∀i,((kB ops.toList []).getD j 0).testBit i=true->e i=true:=by
 intro N;induction N with
 |zero=>intro j o h;omega
 |succ N t=>
  intro j o x k m i p;obtain⟨_,u,q⟩:=Cp ops.toList [];have:=q j o (by simpa using k);simp only[jj,cy]at this;rw[this]at p;obtain⟨d,b,c,hd3⟩:=Ru _ p;have g:=ln s (by simpa using k:ops.toList[j]?=some o) d b c;rcases hd3 with rfl|hd3;exact m d b c
  ·have l:=by
    have:j<ops.size:=by rcases cG j ops.size with h|h;exact h;simp[gH h]at k
    omega
   have f:ops[d.on]?=some ops[d.on]:=by simp
   refine t d.on ops[d.on] aa f (r _ _ f (m d b c)) i ?_;have:((kB ops.toList []).take j).getD d.on 0=(kB ops.toList []).getD d.on 0:=by simp[g]
   rw[<-this];exact hd3
end
section
variable {E:Env}{ops:Array Oper}{n base:Nat}{Q:Exit->aA}
def tH(n:Nat)(l:List (Oper×Rec))(S:dr):dr:=dm n (λ_=>true) 0 l S
def tG(l:List (Oper×Rec))(B:b8):b8:=ee (λ_=>true) 0 l B
theorem AE(n:Nat):∀(l:List (Oper×Rec))(i j:Nat)(S:dr),dm n (λ_=>true) i l S=dm n (λ_=>true) j l S:=by
 intro l;induction l with
 |nil=>intro i j S;rfl
 |cons p l b=>intro i j S;exact b _ _ _
theorem AD:∀(l:List (Oper×Rec))(i j:Nat)(B:b8),ee (λ_=>true) i l B=ee (λ_=>true) j l B:=by
 intro l;induction l with
 |nil=>intro i j S;rfl
 |cons p l b=>intro i j S;exact b _ _ _
theorem Y8(z:aS E.P E.sp):∀(l:List (Oper×Rec))(i:Nat)(S:dr)(B:b8)(ρ:aI)(a:Act)(w:World),Ka E ops n base i l S B ->
  (∀k p,l[k]?=some p->ops[i+k]?=some p.1)->dJ E.w0 n S B ρ a w->(∀id b,ρ id=some b->id<base+8*i) ->
  (∀g s c,dJ E.w0 n (tH n l S) (tG l B) c g s->(∀id b,c id=some b->id<base+8*(i+l.length))->Q .normal g s) ->
  wpOps E.P ops Q (List.range' i l.length) a w:=by
 intro l;induction l with
 |nil=>intro i S B ρ a w _ _ x m u;exact u a w ρ x (by simpa using m)
 |cons p l K=>
  intro i S B ρ a w A d x m u;obtain⟨o,r⟩:=p;obtain⟨I,A⟩:=A;have D:=d 0 (o,r) rfl;simp at D;simp[vW];unfold wpOps;simp[D];refine uv z x I (λj N _=>?_) (λg s c y e=>?_)
  ·cases f:ρ j with
   |none=>rfl
   |some b=>have:=m j b f;omega
  refine K (i+1) _ _ c g s A (λk q H=>?_) y (λj b f=>?_) (λF L C G t=>?_);have:=d (k+1) q (by simpa using H);rw[show i+1+k=i+(k+1)from by omega];exact this;rcases e j b f with h|h;have:=m j b h;omega;omega;refine u F L C ?_ (λj b f=>?_);unfold tH tG at *;simp[dm,ee];rw[AE n l (0+1) 0,AD l (0+1) 0];exact G;have:=t j b f;simp;omega
theorem NM:∀(l:List (Oper×Rec))(i k:Nat)(S:dr)(B:b8)(o:Oper)(r:Rec),Ka E ops n base i l S B->l[k]?=some (o,r) ->
  xR E ops (dm n (λj=>decide (j<i+k)) i l S) (ee (λj=>decide (j<i+k)) i l B) (base+8*(i+k)) o r:=by
 intro l;induction l with
 |nil=>simp_all
 |cons p l t=>
  intro i k S B o r e c;obtain⟨u,x⟩:=p;obtain⟨s,e⟩:=e;have b:∀(m:Nat)(l:List (Oper×Rec))(i:Nat),m<=i->∀S B,dm n (λj=>decide (j<m)) i l S=S/\ee (λj=>decide (j<m)) i l B=B:=by
   intro m l;induction l with
   |nil=>intro i _ S B;exact⟨rfl,rfl⟩
   |cons q l f=>
    intro i y S B;obtain⟨z,A⟩:=q;have:decide (i<m)=false:=by simp;omega
    simp[dm,ee,this];exact f (i+1) aa S B
  cases k with
  |zero=>simp at c;obtain⟨rfl,rfl⟩:=c;obtain⟨g,h⟩:=b (i+0) ((u,x)::l) i aa S B;rw[g,h];exact s
  |succ k=>have:=t (i+1) k _ _ o r e (by simpa using c);rw[show i+1+k=i+(k+1)from by omega]at this;simp only[dm,ee];have d:decide (i<i+(k+1))=true:=az;rw[d];exact this
theorem yO{S c:dr}{B k:b8}{id:Nat}{o:Oper}(l:∀t∈o.looksAt ops,S t=c t)(h:sg E ops S B id o=.skip):sg E ops c k id o=.skip:=by
 have b:∀S B,od E S B id o≠.skip:=by intro S B h;unfold od at h;dsimp only at h;split at h<;>cases h
 unfold sg at h⊢;cases f:o.guard with
 |none=>simp_all
 |some g=>
  obtain⟨j,i⟩:=g;simp[f]at h;dsimp only;cases e:(ops[j]?).bind (·.dst)with
  |none=>simp_all
  |some d=>
   simp[e]at h;dsimp only
   have:=l d (by
    unfold Oper.looksAt;refine List.mem_append.2 (.inr ?_)
    simp[f,e])
   rw[<-this];split at h;·simp_all
   rfl;rfl;·simp_all
   rfl;cases h
theorem s7(n:Nat)(e:Nat->Bool){t:Nat}(b:n<=t):∀(l:List (Oper×Rec))(i:Nat)(S:dr),dm n e i l S t=S t:=by
 intro l;induction l with
 |nil=>intro i S;rfl
 |cons p l c=>intro i S;obtain⟨o,r⟩:=p;simp[dm];rw[c];cases e i;rfl;show gW n o.dst r.val S t=S t;unfold gW;split;rw[ai (by rintro⟨rfl,h⟩;exact absurd h (Nat.not_lt.2 b))];rfl
theorem IL{e:Nat->Bool}{t:Nat}{o:Oper}{r:Rec}(x:o.dst=some t)(z:t<n):∀(l:List (Oper×Rec))(i k:Nat)(S:dr),l[k]?=some (o,r)->e (i+k)=true ->
  (∀j p,l[j]?=some p->k<j->p.1.dst=some t->e (i+j)=false)->dm n e i l S t=r.val:=by
 intro l;induction l with
 |nil=>intro i k S h;simp at h
 |cons p l A=>
  intro i k S d c m;obtain⟨s,u⟩:=p;cases k with
  |zero=>
   simp at d;obtain⟨rfl,rfl⟩:=d;simp at c;simp[dm,c];have:dm n e (i+1) l (gW n s.dst u.val S) t=dm n (λ_=>false) (i+1) l (gW n s.dst u.val S) t:=
    nT l (i+1) _ _ rfl (λj q f b=>by
     have:=m (j+1) q (by simpa using f) aa b
     rw[show i+1+j=i+(j+1)from by omega];exact this)
   rw[this];have none:∀(l:List (Oper×Rec))(i:Nat)(S:dr),dm n (λ_=>false) i l S=S:=by
    intro l;induction l with
    |nil=>intro i S;rfl
    |cons q l g=>intro i S;obtain⟨C,D⟩:=q;exact g _ _
   rw[none];simp[gW,x,z]
  |succ k=>refine A (i+1) k _ (by simpa using d) (by rw[show i+1+k=i+(k+1)from by omega];exact c) (λj q f y b=>?_);have:=m (j+1) q (by simpa using f) aa b;rw[show i+1+j=i+(j+1)from by omega];exact this
theorem IK{e:Nat->Bool}{t:Nat}{o:Oper}{r:Rec}(x:kh r t=true)(u:b8):∀(l:List (Oper×Rec))(i k:Nat)(B:b8),l[k]?=some (o,r)->e (i+k)=true ->
  (∀j p,l[j]?=some p->k<j->kh p.2 t=true->e (i+j)=false)->ee e i l B t=kN r u t:=by
 intro l;induction l with
 |nil=>intro i k S h;simp at h
 |cons p l z=>
  intro i k S d c m;obtain⟨A,s⟩:=p;cases k with
  |zero=>
   simp at d;obtain⟨rfl,rfl⟩:=d;simp at c;simp[ee,c];have:ee e (i+1) l (kN s S) t=ee (λ_=>false) (i+1) l (kN s S) t:=
    nS l (i+1) _ _ rfl (λj q f b=>by
     have:=m (j+1) q (by simpa using f) aa b
     rw[show i+1+j=i+(j+1)from by omega];exact this)
   rw[this];have none:∀(l:List (Oper×Rec))(i:Nat)(S:b8),ee (λ_=>false) i l S=S:=by
    intro l;induction l with
    |nil=>intro i S;rfl
    |cons q l g=>intro i S;obtain⟨C,D⟩:=q;exact g _ _
   rw[none];exact Ii x _ _
  |succ k=>refine z (i+1) k _ (by simpa using d) (by rw[show i+1+k=i+(k+1)from by omega];exact c) (λj q f y b=>?_);have:=m (j+1) q (by simpa using f) aa b;rw[show i+1+j=i+(j+1)from by omega];exact this
theorem qk{r:Rec}{t:Nat}(h:kh r t=true):t∈Lz r:=by simp[kh]at h;unfold Lz;refine List.mem_append.2 ?_;rcases h with h|h;obtain⟨cs,b⟩:=Option.isSome_iff_exists.1 h;exact .inl (mem_map.2 ⟨_,jz b,rfl⟩);obtain⟨cs,b⟩:=Option.isSome_iff_exists.1 h;exact .inr (mem_map.2 ⟨_,jz b,rfl⟩)
def Dm(l:List Bool):Nat:=l.countP (λb=> !b)
theorem LB:∀(l:List Bool)(i:Nat),l[i]?=some false->Dm (l.set i true)+1=Dm l:=by
 intro l;induction l with
 |nil=>simp_all
 |cons b l c=>
  intro i h;cases i with
  |zero=>simp at h;subst h;simp[Dm]
  |succ i=>have:=c i (by simpa using h);unfold Dm at *;simp[List.countP_cons];omega
theorem H6{l:List Bool}(h:Dm l=0):∀i,l.getD i true=true:=by
 intro i;unfold Dm at h;rw[List.countP_eq_zero]at h;cases c:l[i]? with
 |none=>simp[c]
 |some b=>have:=h b (ft c);simp[c];simpa using this
theorem Rj(z9:aS E.P E.sp){l:List (Oper×Rec)}{S:dr}{B:b8}(hl:l.map (·.1)=ops.toList)(ht:Ka E ops n base 0 l S B)(y6:indep ops l=true)(hq:∀a w ρ,dJ E.w0 n (tH n l S) (tG l B) ρ a w->(∀id b,ρ id=some b->id<base+8*ops.size)->Q .normal a w):
  ∀(A:Nat)(c:Array Bool)(a:Act)(w:World)(ρ:aI),c.size=ops.size->Dm c.toList<=A->Dq ops (λj=>c.getD j false) ->
   dJ E.w0 n (dm n (λj=>c.getD j false) 0 l S) (ee (λj=>c.getD j false) 0 l B) ρ a w ->
   (∀id b,ρ id=some b->id<base\/∃j,c.getD j false=true/\base+8*j<=id/\id<base+8*j+8) ->
   wpAny E.P .any ops Q A c a w:=by
 simp[indep]at y6;obtain⟨y,x2⟩:=y6;have x5:l.length=ops.size:=by have:=congrArg length hl;simpa using this
 have R:∀(j:Nat)(p:Oper×Rec),l[j]?=some p->ops[j]?=some p.1:=by intro j p L;have:=congrArg (λm:List Oper=>m[j]?) hl;simp[L]at this;simpa using this.symm
 have x9:l.length<=(kB ops.toList []).length:=by rw[(Cp ops.toList []).2.1];simp[x5]
 have z:∀(j:Nat)(p:Oper×Rec)(k:Nat)(q:Oper×Rec),l[j]?=some p->l[k]?=some q->j<k->((kB ops.toList []).getD k 0).testBit j=true\/r9 ops p q=false:=by intro j p k q g hk x0;exact EU l 0 [] _ x2 x9 j p k q (by simpa using g) hk (by simpa using x0)
 -- u2 c
 have H:∀(c:Array Bool)(a:Act)(w:World)(ρ:aI),c.size=ops.size->(∀i,i<ops.size->c.getD i false=true) ->
   dJ E.w0 n (dm n (λj=>c.getD j false) 0 l S) (ee (λj=>c.getD j false) 0 l B) ρ a w ->
   (∀id b,ρ id=some b->id<base\/∃j,c.getD j false=true/\base+8*j<=id/\id<base+8*j+8)->Q .normal a w:=by
  intro c a w ρ u C hr hd;refine hq a w ρ ?_ (λid b z7=>?_)
  ·have e1:dm n (λj=>c.getD j false) 0 l S=tH n l S:=by
    funext t;refine nT l 0 S S rfl (λj p g _=>?_);simp only[cy];refine C j ?_;rcases cG j l.length with h|h;omega;simp[fQ h]at g
   have e2:ee (λj=>c.getD j false) 0 l B=tG l B:=by funext t;refine nS l 0 B B rfl (λj p g _=>?_);simp only[cy];refine C j ?_;rcases cG j l.length with h|h;omega;simp[fQ h]at g
   rw[<-e1,<-e2];exact hr
  ·rcases hd id b z7 with h|⟨j,V,I,W⟩;omega
   ·have:j<ops.size:=by
     rcases cG j ops.size with h|h;exact h;rw[eh,gH aa]at V;cases V
    omega
 have tt:∀c:Array Bool,c.size=ops.size->Region.ready .any ops c=[]->∀i,i<ops.size->c.getD i false=true:=by
  intro c u hr;have:∀N i,i<N->i<ops.size->c.getD i false=true:=by
   intro N;induction N with
   |zero=>intro i h;omega
   |succ N u0=>
    intro i K D;cases hb:c.getD i false with
    |true=>rfl
    |false=>
     exfalso;have x6:i∈Region.ready .any ops c:=by
      unfold Region.ready;refine List.mem_filter.2 ⟨mem_range.2 D,?_⟩;have x1:ops[i]?=some ops[i]:=by simp[D]
      have z5:c.getD i true=false:=by
       rw[eh]at hb⊢;have:c[i]?=some c[i]:=by simp[u,D]
       rw[this]at hb⊢;simpa using hb
      rw[z5,x1];simp only[wb,fU,c7,mn];rw[qQ];intro e he;cases z3:Region.binds .any e with
      |false=>rfl
      |true=>have x0:=ln y (by simp[D]:ops.toList[i]?=some ops[i]) e (by simpa using he) z3;simp[u0 e.on aa aa]
     rw[hr]at x6;cases x6
  exactλi K=>this (i+1) i aa K
 intro A;induction A with
 |zero=>
  intro c a w ρ u hf hc hr hd;have C:∀i,i<ops.size->c.getD i false=true:=by
   intro i K;have:=H6 (Nat.le_zero.1 hf) i;rw[eh];have I:c[i]?=some c[i]:=by simp[u,K]
   rw[I];have W:c.toList[i]?=some c[i]:=by simp[u,K]
   rw[bx,W]at this;simpa using this
  refine⟨?_,H c a w ρ u C hr hd⟩;unfold Region.ready;rw[List.filter_eq_nil_iff];intro i K;have K:=mem_range.1 K;have:=C i K;rw[eh]at this;have I:c[i]?=some c[i]:=by simp[u,K]
  rw[I]at this;rw[eh,I];simp at this⊢;simp[this]
 |succ A ih=>
  intro c a w ρ u hf hc hr hd;refine⟨λh0=>H c a w ρ u (tt c u h0) hr hd,λi K=>?_⟩;obtain⟨z6,y3⟩:=List.mem_filter.1 K;have D:=mem_range.1 z6;have x1:ops[i]?=some ops[i]:=by simp[D]
  have x8:c[i]?=some c[i]:=by simp[u,D]
  simp only[bD,zl,x1,fU,c7]at y3;obtain⟨y4,y5⟩:=y3;have y7:c[i]=false:=by rw[eh,x8]at y4;simpa using y4
  have Z:c.getD i false=false:=by rw[eh,x8];simpa using y7
  obtain⟨⟨o,r⟩,L⟩:∃p,l[i]?=some p:=⟨l[i],by simp[x5,D]⟩;have T:=R i _ L;have eo:ops[i]=o:=by rw[x1]at T;simpa using T
  have O:∀d∈o.after.toList,Region.binds .any d=true->c.getD d.on false=true:=by intro d X Y;rw[qQ]at y5;have:=y5 d (by rw[eo];simpa using X);simpa[Y]using this
  have early:=qc y hc (i+1) i o aa T O;have x7:∀j oj,ops[j]?=some oj->((kB ops.toList []).getD j 0).testBit i=true->c.getD j false=false:=by
   intro j oj g hb;cases G:c.getD j false with
   |false=>rfl
   |true=>have:=qc y hc (j+1) j oj aa g (hc j oj g G) i hb;rw[Z]at this;cases this
  -- y1 is not z2 from i is z1 with it
  have U:∀(t j:Nat)(p:Oper×Rec),l[j]?=some p->p.1.dst=some t->(t∈o.looksAt ops\/o.dst=some t)->(decide (j<i)=c.getD j false\/j=i):=by intro t j p g f hto;rcases zn j i with h|h|h;left;rcases z j p i (o,r) g L h with hb|hb;rw[early j hb];simpa using h;exfalso;simp[r9]at hb;obtain⟨s1,s2,s3⟩:=Oper.apart_spec hb.1.1.1;rcases hto with hto|hto;exact s1 t f hto;exact s2 t f hto;right;exact h;left;rcases z i (o,r) j p L g h with hb|hb;rw[x7 j p.1 (R j p g) hb];simp;omega;exfalso;simp[r9]at hb;obtain⟨s1,s2,s3⟩:=Oper.apart_spec hb.1.1.1;rcases hto with hto|hto;exact s3 t f hto;exact s2 t hto f
  have x3:∀(t j:Nat)(p:Oper×Rec),l[j]?=some p->kh p.2 t=true->(t∈r.ids\/kh r t=true)->(decide (j<i)=c.getD j false\/j=i):=by intro t j p g f hto;have f:=qk f;rcases zn j i with h|h|h;left;rcases z j p i (o,r) g L h with hb|hb;rw[early j hb];simpa using h;exfalso;simp[r9]at hb;obtain⟨⟨⟨_,b1⟩,b2⟩,b3⟩:=hb;rcases hto with hto|hto;exact o4 b1 t f hto;exact o4 b3 t f (qk hto);right;exact h;left;rcases z i (o,r) j p L g h with hb|hb;rw[x7 j p.1 (R j p g) hb];simp;omega;exfalso;simp[r9]at hb;obtain⟨⟨⟨_,b1⟩,b2⟩,b3⟩:=hb;rcases hto with hto|hto;exact o4 b2 t f hto;exact o4 b3 t (qk hto) f
  have y8:=NM l 0 i S B o r ht L;simp at y8;have x4:∀t∈o.looksAt ops,dm n (λj=>decide (j<i)) 0 l S t=dm n (λj=>c.getD j false) 0 l S t:=by intro t hto;refine nT l 0 S S rfl (λj p g f=>?_);simp only[cy];rcases U t j p g f (.inl hto)with h|h;exact h;subst h;rw[Z];simp
  have y9:xR E ops (dm n (λj=>c.getD j false) 0 l S) (ee (λj=>c.getD j false) 0 l B) (base+8*i) o r:=by rcases y8 with ⟨V,I⟩|⟨out,ids,V,I,W,h4,h5,h6⟩;exact .inl ⟨yO x4 V,I⟩;refine .inr ⟨out,ids,?_,I,W,h4,h5,h6⟩;rw[<-GL x4 ?_];exact V;intro t z0;rw[<-MY V,<-h6]at z0;refine nS l 0 B B rfl (λj p g f=>?_);simp only[cy];rcases x3 t j p g f (.inl z0)with h|h;exact h;subst h;rw[Z];simp
  have s:∀j,(c.setIfInBounds i true).getD j false=if j=i then true else c.getD j false:=by intro j;rw[eh,eh];by_cases h:j=i;subst h;rw[B2 aa];simp;rw[yZ (λe=>h e.symm)];simp[h]
  unfold wpOp;simp[T];refine uv z9 hr y9 (λk V I=>?_) (λa' w' u1 z8 y2=>?_)
  ·cases hk:ρ k with
   |none=>rfl
   |some b=>
    exfalso;rcases hd k b hk with h|⟨j,W,h4,h5⟩;omega
    ·have:j=i:=by omega
     subst this;rw[Z]at W;cases W
  ·have e1:dm n (λj=>(c.setIfInBounds i true).getD j false) 0 l S=gW n o.dst r.val (dm n (λj=>c.getD j false) 0 l S):=by
    funext t;by_cases y0:t<n
    ·by_cases x:o.dst=some t
     ·rw[IL x y0 l 0 i S L (by simp only[cy];rw[s];simp) (λj p g x0 f=>by
       simp only[cy];rw[s,ai aa];rcases U t j p g f (.inr x)with h|h;rw[<-h];simp;omega
       ·omega)]
      simp[gW,x,y0]
     ·have:gW n o.dst r.val (dm n (λj=>c.getD j false) 0 l S) t=dm n (λj=>c.getD j false) 0 l S t:=by
       unfold gW;split;rename_i d z4;rw[ai];rintro⟨rfl,_⟩;exact x z4;rfl
      rw[this];refine nT l 0 S S rfl (λj p g f=>?_);simp only[cy];rw[s];by_cases F:j=i;subst F;rw[L]at g;simp at g;subst g;exact absurd f x;simp[F]
    rw[s7 n _ aa];unfold gW;split;rw[ai (by rintro⟨rfl,h⟩;exact y0 h),s7 n _ aa];rw[s7 n _ aa]
   have e2:ee (λj=>(c.setIfInBounds i true).getD j false) 0 l B=kN r (ee (λj=>c.getD j false) 0 l B):=by
    funext t;cases x:kh r t with
    |true=>
     exact IK x _ l 0 i B L (by simp only[cy];rw[s];simp) (λj p g x0 f=>by
       simp only[cy];rw[s,ai aa];rcases x3 t j p g f (.inr x)with h|h;rw[<-h];simp;omega
       ·omega)
    |false=>rw[Kh x];refine nS l 0 B B rfl (λj p g f=>?_);simp only[cy];rw[s];by_cases F:j=i;subst F;rw[L]at g;simp at g;subst g;rw[x]at f;cases f;simp[F]
   refine ih (c.setIfInBounds i true) a' w' u1 (by simpa using u) ?_ ?_ (by rw[e1,e2];exact z8) ?_;have:=LB c.toList i (by simpa[y7]using x8);simp[Array.toList_setIfInBounds];omega
   ·intro j oj g G d X Y;have G:(c.setIfInBounds i true).getD j false=true:=G;show(c.setIfInBounds i true).getD d.on false=true;rw[s]at G⊢;by_cases F:j=i
    ·subst F;have:oj=o:=by rw[T]at g;simpa using g.symm
     subst this;have:=O d X Y;simp[this]
    simp only[F,mq]at G;have:=hc j oj g G d X Y;simp[this]
   intro k b hk;rcases y2 k b hk with h|⟨V,I⟩;rcases hd k b h with h|⟨j,W,h4⟩;exact .inl h;exact .inr ⟨j,by rw[s];simp[W],h4⟩;exact .inr ⟨i,by rw[s];simp,V,I⟩
end
def G3:gi->Prop->Prop
 |[],K=>K
 |p::a,K=>p/\G3 a K
def alr(ops:List Oper)(i:Nat):Bool:=ops.any λo=>match o.guard with
 |some (j,_)=>beq j i
 |none=>false
def H2(src:Bool)(v:SV)(K:SV->Prop):Prop:=
 match src,v with
 |true,.is (.one (.v (.bool c)))=>(c=true->K (.is (.one .T)))/\(c=false->K (.is (.one .F)))
 |_,v=>K v
def St.put(a:St)(dst:Option Tmp)(v:SV):St:=
 match dst with
 |some d=>{a with aW:=a.aW.set d v}
 |none=>a
def St.app(c:St)(e:Option Tmp)(v:SV)(a wr:e5):St:=
 match e with
 |some d=>{c with aW:=c.aW.set d v,bQ:=a++(wr++c.bQ)}
 |none=>{c with bQ:=a++(wr++c.bQ)}
def xe(E:Env)(ops:Array Oper):Nat->List Oper->St->List Rec->(St->List Rec->Prop)->Prop
 |_,[],a,tr,K=>K a tr
 |i,o::b,a,tr,K=>match sg E ops a.S a.B (a.next+8*i) o with
  |.bad=>False
  |.skip=>xe E ops (i+1) b (a.put o.dst .undef) (tr++[qj]) K
  |.run out ids=>G3 out.pre (H2 (alr ops.toList i) out.val λv=>xe E ops (i+1) b (a.app o.dst v out.new out.wr) (tr++[⟨v,out.new,out.wr,ids⟩]) K)
def IU(b:Bool)(K:Prop):Prop:=
 match b with
 |true=>K
 |false=>False
def KU:SV->SV->Prop
 |.is (.one .T),.is (.one (.v (.bool b)))=>b=true
 |.is (.one .F),.is (.one (.v (.bool b)))=>b=false
 |s,t=>s=t
def kQ:dq->dq->Prop->Prop
 |[],[],K=>K
 |_::l,.junk::m,K=>kQ l m K
 |s::l,t::m,K=>KU s t/\kQ l m K
 |_,_,_=>False
def tU(B:b8):e5->Prop->Prop
 |[],K=>K
 |(id,cs)::l,K=>match B id with
  |some a=>a=cs/\tU B l K
  |none=>False
def SV.below(n:Nat)(v:SV):Bool:=v.ids.all λi=>blt i n
def St.wf(a:St):Bool:=(a.aW.all λv=>v.below a.next)&&a.bQ.all λp=>blt p.1 a.next&&(p.2.all λc=>c.ids.all λi=>blt i a.next)
def St.le(a:St)(W:dn)(τ:St)(K:Prop):Prop:=IU (ble τ.next a.next&&τ.wf&&ble W.top τ.next) (kQ a.aW τ.aW (tU a.B τ.bQ K))
def lD(S:dr)(c:Operand):SV:=fG S c
def vc(E:Env):Code->St->(St->Prop)->(St->Prop)->(Nat->St->Prop)->Prop
 |.skip,e,n,_,_=>n e
 |.ret,e,_,r,_=>r e
 |.exit id,e,_,_,x=>x id e
 |.seq a b,e,n,r,x=>vc E a e (λd=>vc E b d n r x) r x
 |.cond c a b,e,n,r,x=>match lD e.S c with
  |.is (.one .T)=>vc E a e n r x
  |.is (.one .F)=>vc E b e n r x
  |.is (.one (.v (.bool t)))=>(t=true->vc E a e n r x)/\(t=false->vc E b e n r x)
  |_=>False
 |.block id b,e,n,r,x=>vc E b e n r (λi d=>match beq i id with
  |true=>n d
  |false=>x i d)
 |.loop b,e,_,r,x=>∃(h:Type)(I:h->St)(J:h->Prop)(j:h->Nat),(∃a,e.le E.w0 (I a) (J a))/\∀a,J a->vc E b (I a) (λd=>∃g,d.le E.w0 (I g) (J g/\j g<j a)) r x
 |.region _ ops f,e,n,_,_=>xe E ops 0 ops.toList e [] λd tr=>
  match f with
  |true=>IU (indep ops (ops.toList.zip tr)) (n {d with next:=d.next+8*ops.size})
  |false=>n {d with next:=d.next+8*ops.size}
 |_,_,_,_,_=>False
section
variable {E:Env}{ops:Array Oper}
theorem xX{a:gi}{K:Prop}(h:G3 a K):(∀p∈a,p)/\K:=by
 induction a with
 |nil=>exact⟨(λ_ h=>nomatch h),h⟩
 |cons p a f=>obtain⟨b,c⟩:=h;obtain⟨d,e⟩:=f c;exact⟨λq hq=>by rcases mem_cons.1 hq with rfl|hq;exact b;exact d q hq,e⟩
theorem Nh{src:Bool}{v:SV}{K:SV->Prop}(h:H2 src v K):∃b,dE v b/\K b:=by
 unfold H2 at h;split at h
 ·rename_i c;cases c with
  |true=>exact⟨_,λd u a=>by have:=cY a;subst this;exact rfl,h.1 rfl⟩
  |false=>exact⟨_,λd u a=>by have:=cY a;subst this;exact rfl,h.2 rfl⟩
 exact⟨_,λ_ _ h=>h,h⟩
theorem Jr(b:St)(a:Option Tmp)(v:SV):(b.put a v).S=gW b.aW.length a v b.S:=by
 funext t;cases a with
 |none=>rfl
 |some d=>simp[St.put,St.S,gW];by_cases h:t=d;subst h;by_cases c:t<b.aW.length;simp[c];simp[c];rw[List.getElem?_set_ne (λe=>h e.symm)];simp[h]
theorem adn(c:St)(a:Option Tmp)(v:SV)(b wr:e5):(c.app a v b wr).S=gW c.aW.length a v c.S:=by
 have:(c.app a v b wr).S=(c.put a v).S:=by cases a<;>rfl
 rw[this,Jr]
theorem EH(l m:e5)(i:Nat):eA (l++m) i=match eA l i with
  |some cs=>some cs
  |none=>eA m i:=by
 induction l with
 |nil=>rfl
 |cons p l a=>obtain⟨j,cs⟩:=p;simp[eA];cases beq j i;exact a;rfl
theorem adm(c:St)(b:Option Tmp)(v:SV)(a wr:e5)(ids:List Nat):(c.app b v a wr).B=kN ⟨v,a,wr,ids⟩ c.B:=by
 have:(c.app b v a wr).bQ=a++(wr++c.bQ):=by cases b<;>rfl
 funext i;simp only[St.B,this,EH,kN];try (cases eA a i<;>rfl)
theorem Nu(b:St)(a:Option Tmp)(v:SV):(b.put a v).B=b.B:=by cases a<;>rfl
theorem CC(b:St)(a:Option Tmp)(v:SV):(b.put a v).next=b.next:=by cases a<;>rfl
theorem NU(c:St)(a:Option Tmp)(v:SV)(b wr:e5):(c.app a v b wr).next=c.next:=by cases a<;>rfl
theorem By(b:St)(a:Option Tmp)(v:SV):(b.put a v).aW.length=b.aW.length:=by cases a<;>simp[St.put]
theorem Ki(c:St)(a:Option Tmp)(v:SV)(b wr:e5):(c.app a v b wr).aW.length=c.aW.length:=by cases a<;>simp[St.app]
theorem ako(B:b8):kN qj B=B:=by rfl
theorem CJ:∀(c:List Oper)(i:Nat)(b:St)(tr:List Rec)(K:St->List Rec->Prop),xe E ops i c b tr K ->
  ∃(rs:List Rec)(a:St),rs.length=c.length/\Ka E ops b.aW.length b.next i (c.zip rs) b.S b.B/\
   a.S=dm b.aW.length (λ_=>true) i (c.zip rs) b.S/\a.B=ee (λ_=>true) i (c.zip rs) b.B/\a.next=b.next/\a.aW.length=b.aW.length/\K a (tr++rs):=by
 intro c;induction c with
 |nil=>intro i b tr K h;exact⟨[],b,rfl,trivial,rfl,rfl,rfl,rfl,by have h:K b tr:=h;simpa using h⟩
 |cons o c p=>intro i b tr K h;simp[xe]at h;split at h;exact h.elim;rename_i d;obtain⟨rs,a,l,e,f,g,j,k,m⟩:=p _ _ _ _ h;rw[Jr,Nu,CC,By]at e;rw[Jr,By]at f;rw[Nu]at g;rw[CC]at j;rw[By]at k;refine⟨qj::rs,a,by simp[l],⟨.inl ⟨d,rfl⟩,?_⟩,?_,?_,j,k,by simpa using m⟩;rw[ako];exact e;exact f;exact g;rename_i out ids d;obtain⟨q,h⟩:=xX h;obtain⟨v,r,h⟩:=Nh h;obtain⟨rs,a,l,e,f,g,j,k,m⟩:=p _ _ _ _ h;rw[adn,adm b o.dst v out.new out.wr ids,NU,Ki]at e;rw[adn,Ki]at f;rw[adm b o.dst v out.new out.wr ids]at g;rw[NU]at j;rw[Ki]at k;refine⟨⟨v,out.new,out.wr,ids⟩::rs,a,by simp[l],⟨.inr ⟨out,ids,d,q,r,rfl,rfl,rfl⟩,e⟩,?_,?_,j,k,by simpa using m⟩;exact f;exact g
def Holds(e:dn)(n:Nat)(c:St)(a:Act)(w:World):Prop:=
 c.aW.length=n/\∃d,dJ e n c.S c.B d a w/\∀id b,d id=some b->id<c.next
theorem ss{b:Bool}{K:Prop}(h:IU b K):b=true/\K:=by unfold IU at h;split at h;trivial;·simp_all
theorem X6(s:SV):KU s s:=by
 cases s with
 |is x=>
  cases x with
  |one c=>cases c<;>rfl
  |agg cs=>rfl
 |tup l=>rfl
 |undef=>rfl
 |junk=>rfl
theorem X7{s t:SV}(h:KU s t):dE s t:=by unfold KU at h;split at h;intro b v a;have:[v]=[Value.bool true]:=a;simp at this;subst this h;exact⟨rfl,rfl⟩;intro b v a;have:[v]=[Value.bool false]:=a;simp at this;subst this h;exact⟨rfl,rfl⟩;subst h;intro b v a;exact a
theorem yq:∀{l m:dq}{K:Prop},kQ l m K->K/\l.length=m.length/\∀t,m.getD t .junk=.junk\/dE (l.getD t .junk) (m.getD t .junk):=by
 intro l;induction l with
 |nil=>
  intro m K h;cases m with
  |nil=>exact⟨h,rfl,λt=>az⟩
  |cons t m=>simp[kQ]at h
 |cons s l f=>
  intro m K h;cases m with
  |nil=>simp[kQ]at h
  |cons t m=>
   by_cases e:t=.junk
   ·subst e;obtain⟨a,b,c⟩:=f h;refine⟨a,by simp[b],λu=>?_⟩;cases u with
    |zero=>exact .inl az
    |succ u=>simpa using c u
   ·have d:KU s t/\kQ l m K:=by
     cases t with
     |junk=>exact absurd rfl e
     |_=>simpa only[kQ]using h
    obtain⟨a,b,c⟩:=f d.2;refine⟨a,by simp[b],λu=>?_⟩;cases u with
    |zero=>exact .inr (by simpa using X7 d.1)
    |succ u=>simpa using c u
theorem AH{B:b8}:∀{l:e5}{K:Prop},tU B l K->K/\∀p∈l,B p.1=some p.2:=by
 intro l;induction l with
 |nil=>intro K h;exact⟨h,(λ_ h=>nomatch h)⟩
 |cons p l a=>intro K h;obtain⟨id,cs⟩:=p;simp[tU]at h;split at h;grind;exact h.elim
def aI.cut(a:aI)(m:Nat):aI:=⟨λi=>if i<m then a i else none,a.n,a.M⟩
theorem Na{d:aI}{m:Nat}:∀{l:List Nat}{a:bn},kb d l a->(∀i∈l,i<m)->kb (d.cut m) l a:=by
 intro l;induction l with
 |nil=>intro a h _;exact h
 |cons i l n=>intro a⟨b,o,e,f,g⟩c;exact⟨b,o,by simp[aI.cut,c i az,e],n f (λj k=>c j (by simp[k])),g⟩
theorem ax.o8{q:aI}{c:ax}{p:bn}{m:Nat}(h:c.rel q p)(g:∀i∈c.ids,i<m):c.rel (q.cut m) p:=by
 cases c with
 |ptr id n=>obtain⟨b,d,e⟩:=h;exact⟨b,by simp[aI.cut,g id (by simp[ax.ids]),d],e⟩
 |pe id a j c=>obtain⟨b,d,e⟩:=h;exact⟨b,by simp[aI.cut,g id (by simp[ax.ids]),d],e⟩
 |sl id a n len c=>rcases h with h|⟨b,o,k,d,e⟩;exact .inl h;exact .inr ⟨b,o,k,by simp[aI.cut,g id (by simp[ax.ids]),d],e⟩
 |clo f l=>obtain⟨t,r,s⟩:=h;exact⟨t,Na r g,s⟩
 |_=>exact h
theorem uU{f:aI}{m:Nat}{cs:cb}:∀{a:bn},aH f cs a->(∀c∈cs,∀i∈c.ids,i<m)->aH (f.cut m) cs a:=by
 induction cs with
 |nil=>intro a h _;exact h
 |cons c cs l=>intro a h b;obtain⟨n,o,e,g,j⟩:=h;exact⟨n,o,e,ax.o8 g (b c az),l j (λd k=>b d (by simp[k]))⟩
theorem TV.o8{b:aI}{m:Nat}{x:TV}{v:Value}(h:x.rel b v)(a:∀i∈x.ids,i<m):x.rel (b.cut m) v:=by
 cases x with
 |one c=>exact ax.o8 h a
 |agg cs=>obtain⟨l,e,g⟩:=h;exact⟨l,e,uU g (λc d i f=>a i (List.mem_flatMap.2 ⟨c,d,f⟩))⟩
theorem QW{c:aI}{m:Nat}{l:List TV}:∀{a:bn},gh c l a->(∀x∈l,∀i∈x.ids,i<m)->gh (c.cut m) l a:=by
 induction l with
 |nil=>intro a h _;exact h
 |cons t n j=>intro a h b;obtain⟨x,k,e,d,f⟩:=h;exact⟨x,k,e,TV.o8 d (b t az),j f (λy g=>b y (by simp[g]))⟩
theorem SV.o8{c:aI}{m:Nat}{x:SV}{v:Value}(h:x.rel c v)(a:x.below m=true):x.rel (c.cut m) v:=by
 have a:∀i∈x.ids,i<m:=by intro i b;simp[SV.below]at a;simpa[sW]using a i b
 cases x with
 |is x=>exact TV.o8 h a
 |tup l=>obtain⟨g,e,d⟩:=h;exact⟨g,e,QW d (λy f i b=>a i (List.mem_flatMap.2 ⟨y,f,b⟩))⟩
 |undef=>exact h
 |junk=>trivial
theorem na{R q:St}{K:Prop}{P:dn}{n:Nat}{a:Act}{w:World}(h:R.le P q K)(X:Holds P n R a w):K/\Holds P n q a w:=by
 unfold St.le at h;obtain⟨u,h⟩:=ss h;simp only[bD]at u;obtain⟨⟨k,y⟩,g⟩:=u;have k:=by simpa[Nat.ble_eq]using k
 obtain⟨h,x,o⟩:=yq h;obtain⟨V,d⟩:=AH h;obtain⟨Y,Q,f,hd⟩:=X;simp only[St.wf,bD,sM]at y;obtain⟨L,N⟩:=y;have e:∀i b,(Q.cut q.next) i=some b->Q i=some b:=by intro i b h;simp[aI.cut]at h;by_cases m:i<q.next;simpa[m]using h;simp[m]at h
 refine⟨V,by rw[<-x];exact Y,Q.cut q.next,⟨f.defers,f.size,?_,f.below,?_,?_,?_,?_,?_,f.bJ,f.glob,f.tops,f.memle⟩,?_⟩
 ·intro t;rcases o t with h|h;show(q.aW.getD t .junk).rel _ _;rw[h];trivial
  ·have:=f.aW t;show(q.aW.getD t .junk).rel _ _;have this:=h _ _ this;refine SV.o8 this ?_;cases I:q.aW[t]? with
   |none=>simp[I,SV.below,SV.ids]
   |some v=>simpa[I]using L v (ft I)
 intro id cs G s b u;have r:=jz G;obtain⟨l,D,F⟩:=f.bQ id cs (d _ r) s b (e _ _ u);have Z:=N _ r;refine⟨l,D,uU F (λc W i m=>?_)⟩;have:=Z.2 c W i m;simpa[sW]using this;intro i j cs z b A C D F T U;exact f.inj i j cs z b (d _ (jz A)) C (d _ (jz D)) F (e _ _ T) (e _ _ U);intro i b h;exact f.bound i b (e _ _ h);intro p H;have g:=fR g;have:=gJ (f.tops p H) g;exact⟨by simp[aI.cut,this,(f.init p H).1],(f.init p H).2⟩;intro b l u;obtain⟨A,C⟩:=f.mem b l u;exact⟨λi cs m s O=>A i cs (d _ (jz m)) s (e _ _ O),C⟩;intro i b h;simp[aI.cut]at h;by_cases m:i<q.next;exact m;simp[m]at h
theorem Holds.drew{e:dn}{n:Nat}{f:St}{a:Act}{w:World}(h:Holds e n f a w):Holds e n f a {w with drawn:=w.drawn+1}:=by obtain⟨i,j,d,g⟩:=h;exact⟨i,j,⟨d.defers,d.size,d.aW,d.below.drew,d.bQ,d.inj,d.bound,d.init,d.mem,d.bJ,d.glob,d.tops,d.memle⟩,g⟩
theorem QY(x1:aS E.P E.sp)(hm:E.P.follows .mixedOrders=true){N:Nat}:∀(c:Code)(e:St)(n r:St->Prop)(x:Nat->St->Prop)(a:Act)(w:World)(Q:Exit->aA),
  vc E c e n r x->Holds E.w0 N e a w->(∀d a w,Holds E.w0 N d a w->n d->Q .normal a w)->(∀d a w,Holds E.w0 N d a w->r d->Q .ret a w) ->
  (∀i d a w,Holds E.w0 N d a w->x i d->Q (.exit i) a w)->c.wp E.P Q a w:=by
 intro c;induction c with
 |skip=>intro e n r x a w Q h f z _ _;exact wp_skip (z e a w f h)
 |ret=>intro e n r x a w Q h f _ A _;exact wp_ret (A e a w f h)
 |exit id=>intro e n r x a w Q h f _ _ C;exact wp_exit (C id e a w f h)
 |seq p q y L=>intro e n r x a w Q h f z A C;exact wp_seq (y e _ r x a w _ h f (λd a w D F=>L d n r x a w Q F D z A C) A C)
 |cond c p q y L=>intro e n r x a w Q h f z A C;have V:(lD e.S c).rel f.2.choose (a.eval c):=(f.2.choose_spec.1).fG c;simp[vc]at h;split at h;rename_i Y;rw[Y]at V;exact wp_cond_true (iZ rfl V) (y e n r x a w Q h f z A C);rename_i Y;rw[Y]at V;exact wp_cond_false (iZ rfl V) (L e n r x a w Q h f z A C);rename_i t Y;rw[Y]at V;exact wp_cond_split (cY V) (λht=>y e n r x a w Q (h.1 ht) f z A C) (λht=>L e n r x a w Q (h.2 ht) f z A C);exact h.elim
 |block id p y=>
  intro e n r x a w Q h f z A C;refine wp_block (y e n r _ a w _ h f z A (λi d a w D F=>?_));simp[Exit.inBlock];by_cases R:i=id;subst R;rw[ah rfl];simp at F;exact z d a w D F
  ·rw[ai R];have:beq i id=false:=by
    cases hb:beq i id with
    |false=>rfl
    |true=>exact absurd (ca hb) R
   rw[this]at F;exact C i d a w D F
 |loop p y=>intro e n r x a w Q h f z A C;obtain⟨α,I,J,μ,⟨g0,h0⟩,K⟩:=h;obtain⟨x4,x3⟩:=na h0 f;refine wp_loop_ghost (λm a w=>∃g,μ g=m/\J g/\Holds E.w0 N (I g) a w) (μ g0) ⟨g0,rfl,x4,x3⟩ ?_;rintro m a w ⟨g,rfl,hj,hg⟩;refine y (I g) _ r x a w _ (K g hj) hg (λd a' w' D F=>?_) A C;obtain⟨g',F⟩:=F;obtain⟨⟨h1,X⟩,h3⟩:=na F D;exact⟨μ g',X,g',rfl,h1,h3⟩
 |region id ops W=>
  intro e n r x a w Q h f z A C;simp[vc]at h;obtain⟨rs,d,h1,X,h3,h4,h5,h6,h7⟩:=CJ _ _ _ _ _ h;have O:(ops.toList.zip rs).length=ops.size:=by simp[h1]
  have fin:n {d with next:=d.next+8*ops.size}->∀a w G,dJ E.w0 N (tH N (ops.toList.zip rs) e.S) (tG (ops.toList.zip rs) e.B) G a w->(∀id b,G id=some b->id<e.next+8*ops.size)->Q .normal a w:=by
   intro hk a w G u s;refine z _ a w ⟨by rw[<-f.1];exact h6,G,?_,?_⟩ hk
   ·have e1:({d with next:=d.next+8*ops.size}:St).S=tH N (ops.toList.zip rs) e.S:=by
     show d.S=_;rw[h3,f.1];rfl
    have e2:({d with next:=d.next+8*ops.size}:St).B=tG (ops.toList.zip rs) e.B:=by show d.B=_;rw[h4];rfl
    rw[e1,e2];exact u
   intro i b R;rw[h5];exact s i b R
  rw[f.1]at X;cases W with
  |false=>
   obtain⟨_,G,u,s⟩:=f;refine wp_region ?_
   have:=Y8 x1 (ops.toList.zip rs) 0 e.S e.B G a w X (λk p hk=>by
    have:=List.getElem?_zip_eq_some.1 hk
    simpa using this.1) u (by simpa using s) (λa' w' x5 T H=>fin h7 a' w' x5 T (by rw[O]at H;simpa using H))
   rw[O]at this;rw[List.range_eq_range'];exact this
  |true=>
   obtain⟨Z,h7⟩:=ss h7;obtain⟨_,G,u,s⟩:=f.drew;refine wp_region_any hm ?_;have hf:∀j,(Array.replicate ops.size false).getD j false=false:=by intro j;simp[Array.getElem?_replicate];split<;>rfl
   have x2:=funext hf;have z1:∀(l:List (Oper×Rec))(i:Nat)(S:dr),dm N (λ_=>false) i l S=S:=by
    intro l;induction l with
    |nil=>intro i S;rfl
    |cons q l U=>intro i S;obtain⟨o2,r2⟩:=q;simp[dm];exact U _ _
   have z2:∀(l:List (Oper×Rec))(i:Nat)(B:b8),ee (λ_=>false) i l B=B:=by
    intro l;induction l with
    |nil=>intro i S;rfl
    |cons q l U=>intro i S;obtain⟨o2,r2⟩:=q;simp[ee];exact U _ _
   refine Rj x1 (by simp[List.map_fst_zip,h1]) X Z (λa w G T H=>fin h7 a w G T H) ops.size _ a _ G az ?_ ?_ ?_ ?_;unfold Dm;refine fw (List.countP_le_length) az;intro j o _ hj;have x0:(Array.replicate ops.size false).getD j false=true:=hj;rw[hf]at x0;cases x0;rw[x2,z1,z2];exact u;intro i b R;exact .inl (s i b R)
 |_=>intro e n r x a w Q h;simp[vc]at h
end
def FW(E:Env)(e:St):ResultVar->Option TV
 |.tmp t=>match e.S t with
  |.is x=>some x
  |_=>none
 |.cell a t=>match wY E.P t,e.S a with
  |true,.is (.one (.ptr b d))=>match e.B b with
   |some (c::cs)=>match nZ (c::cs) d (E.P.cellsOf t)with
    |some m=>rE (c3 E.P t) m
    |none=>none
   |_=>none
  |_,_=>none
def uj(E:Env)(a:St):List ResultVar->Option (List TV)
 |[]=>some []
 |r::rs=>match FW E a r,uj E a rs with
  |some x,some b=>some (x::b)
  |_,_=>none
def Jv(E:Env)(b:St)(rs:List ResultVar):Option SV:=
 match uj E b rs with
 |some [x]=>some (.is x)
 |some a=>some (.tup a)
 |none=>none
def m6(E:Env)(fn:Func)(Q:SV->St->Prop)(a:St):Prop:=
 match Jv E a fn.results.toList with
 |some v=>Q v a
 |none=>False
def Wl(E:Env)(fn:Func)(args:dq)(a:e5)(b:Nat)(Q:SV->St->Prop):Prop:=
 match fn.body with
 |some c=>vc E c ⟨args++replicate (fn.ntmps-args.length) .undef,a,b⟩ (m6 E fn Q) (m6 E fn Q) (λ_ _=>False)
 |none=>False
def E4(b:Array Value):ResultVar->Sem Value
 |.tmp t=>pure (b.getD t Go.undef)
 |.cell a t=>do loadVar t (<-asAddr (b.getD a Go.undef))
section
variable {E:Env}
theorem YV{p:St}{r:ResultVar}{x:TV}{n:Nat}{F:aI}{a:Act}{w:World}(h:FW E p r=some x)(s:dJ E.w0 n p.S p.B F a w):
  ∃v,(E4 a.tmps r).run E.P w=.ok v w/\x.rel F v:=by
 cases r with
 |tmp t=>
  simp only[FW]at h;have:=s.aW t;cases o:p.S t with
  |is y=>rw[o]at h this;simp at h;subst h;exact⟨_,rfl,this⟩
  |_=>rw[o]at h;simp at h
 |cell b t=>
  simp only[FW]at h;split at h
  ·rename_i id C z o;have j:=s.aW b;rw[o]at j;obtain⟨G,H,ev⟩:=qi j;obtain⟨Q,O,D⟩:=n5 z;obtain⟨d,I⟩:=Option.isSome_iff_exists.1 O;split at h
   ·rename_i c cs q;obtain⟨l,f,i⟩:=s.bQ _ _ q az G H;split at h
    ·rename_i m K;obtain⟨u,g⟩:=yP K i;obtain⟨g1,g2⟩:=vH (P:=E.P) I f g;obtain⟨L,N⟩:=qh h u (λh=>by rw[D h];simp;rw[D h]at g;omega);cases e:c3 E.P t with
     |true=>exact⟨.agg ⟨(l.drop C).take (E.P.cellsOf t)⟩,by simp only[E4];rw[ev];simp[asAddr,g1 e],L e⟩
     |false=>obtain⟨v,k,A⟩:=N e;rw[D e]at k;exact⟨v,by simp only[E4];rw[ev];simp[asAddr,g2 e v k],A⟩
    simp at h
   simp at h
  simp at h
theorem VR{e:St}{n:Nat}{f:aI}{a:Act}{w:World}(l:dJ E.w0 n e.S e.B f a w):∀(rs:List ResultVar)(c:List TV),uj E e rs=some c ->
  ∃b,(rs.mapM (E4 a.tmps)).run E.P w=.ok b w/\gh f c b:=by
 intro rs;induction rs with
 |nil=>intro c h;simp[uj]at h;subst h;exact⟨[],az,rfl⟩
 |cons r rs m=>intro c h;simp only[uj]at h;split at h;rename_i x d j k;simp at h;subst h;obtain⟨v,g1,g2⟩:=YV j l;obtain⟨b,g,i⟩:=m d k;refine⟨v::b,?_,v,b,rfl,g2,i⟩;simp only[List.mapM_cons,cf,g1,cn,g];simp;simp at h
theorem E1{g:St}{n:Nat}{p:aI}{a:Act}{w:World}{fn:Func}{m:SV}(r:dJ E.w0 n g.S g.B p a w)(h:Jv E g fn.results.toList=some m):
  ∃v,(results fn a.tmps).run E.P w=.ok v w/\m.rel p v:=by
 unfold Jv at h;cases k:uj E g fn.results.toList with
 |none=>rw[k]at h;simp at h
 |some o=>
  rw[k]at h;obtain⟨b,g1,g2⟩:=VR r _ _ k;have d:(results fn a.tmps).run E.P w=.ok (if h:b.toArray.size=1 then b.toArray[0]else .tuple b.toArray) w:=by
   have e:results fn a.tmps=(do let b <-fn.results.mapM (E4 a.tmps);pure (if h:b.size=1 then b[0]else .tuple b)):=by rfl
   rw[e,Array.mapM_eq_mapM_toList];simp only[cf,Sem.run_map,g1,cn,c1]
  rw[d];match o,b,g2,h with
  |[],b,g2,h=>have:b=[]:=g2;subst this;simp at h;subst h;exact⟨_,rfl,[],az,rfl⟩
  |[x],b,g2,h=>obtain⟨v,f,rfl,i,j⟩:=g2;have:f=[]:=j;subst this;simp at h;subst h;exact⟨v,az,i⟩
  |x::y::o,b,g2,h=>obtain⟨v,f,rfl,i,l,c,rfl,j,q⟩:=g2;simp at h;subst h;refine⟨.tuple ⟨v::l::c⟩,az,v::l::c,rfl,v,_,rfl,i,l,c,rfl,j,q⟩
theorem ac4{d:aI}:∀{l:dq}{a:bn},bW d l a->l.length=a.length:=by
 intro l;induction l with
 |nil=>intro a h;have:a=[]:=h;subst this;rfl
 |cons x l c=>intro a h;obtain⟨y,e,rfl,_,b⟩:=h;simp[c b]
structure Start(W:dn)(bl:e5)(nx:Nat)(ρ:aI):Prop where
 bQ:∀id cs,eA bl id=some cs->cs≠[]->∀b,ρ id=some b->∃l,cN W.w b (ρ.n id) l/\aH ρ cs l
 inj:∀id id' cs cs' b,eA bl id=some cs->cs≠[]->eA bl id'=some cs'->cs'≠[]->ρ id=some b->ρ id'=some b->id=id'
 bound:∀id b,ρ id=some b->W.bB b/\b<W.w.heap.size
 init:∀p∈W.ids,ρ p.1=some p.2/\ρ.n p.1=W.num p
 next:∀id b,ρ id=some b->id<nx
 mem:∀b l,ρ.M b=some l->(∀i cs,eA bl i=some cs->cs≠[]->ρ i≠some b)/\∃el fr,W.w.heap[b]?=some (qv l el fr)
 bJ:∀b l,ρ.M b=some l->b<W.w.heap.size->W.own b=true\/W.M b=some l
 glob:∀g e x,W.gl g=some ⟨e,x⟩->n9 (Rd ρ.M e) (aC e) ρ.M g 0 [x]
 tops:∀p∈W.ids,p.1<W.top
 memle:Mem.le W.M ρ.M
def aI.start(M:Mem):aI:=⟨λ_=>none,λ_=>0,M⟩
theorem AP{fn:Func}{args:dq}{d:bn}{g:e5}{j:Nat}{c:aI}(a:Start E.w0 g j c)(i:bW c args d)(q:args.length<=fn.ntmps):
  Holds E.w0 fn.ntmps ⟨args++replicate (fn.ntmps-args.length) .undef,g,j⟩ {tmps:=(⟨d⟩:Array Value)++Array.replicate (fn.ntmps-(⟨d⟩:Array Value).size) undef,defers:=[]} E.w0.w:=by
 have b:d.length=args.length:=(ac4 i).symm;refine⟨by simp;omega,c,⟨rfl,by simp;omega,?_,mV.refl _,a.bQ,a.inj,a.bound,a.init,a.mem,a.bJ,a.glob,a.tops,a.memle⟩,a.next⟩
 ·intro t;simp only[St.S,bx,eh];by_cases e:t<args.length
  ·rw[uS e,Array.getElem?_append_left (by simpa[b]using e)];have f:∀(l:dq)(d:bn)(t:Nat),bW c l d->t<l.length->(l[t]?.getD .junk).rel c (d[t]?.getD Go.undef):=by
    intro l;induction l with
    |nil=>intro d t _ h;simp at h
    |cons x l o=>
     intro d t h e;obtain⟨y,p,rfl,k,m⟩:=h;cases t with
     |zero=>simpa using k
     |succ t=>simpa using o p t m (by simpa using e)
   simpa using f args d t i e
  by_cases n:t<fn.ntmps;rw[vP aa,DC,ah aa];rw[Array.getElem?_append_right (by simp[b];omega),Array.getElem?_replicate,ah (by simp[b];omega)];rfl;rw[vP aa,DC,ai aa];trivial
theorem aaS(q:aS E.P E.sp)(D:E.P.follows .mixedOrders=true){f:FuncId}{fn:Func}(A:E.P.funcs[f]?=some fn){args:dq}{x:bn}{t:e5}{u:Nat}{p:aI}(r:Start E.w0 t u p){Q:SV->St->Prop}(G:bW p args x) (F:args.length<=fn.ntmps) (h:Wl E fn args t u Q):
  Calls E.P f ⟨x⟩ E.w0.w λe H=>∃v l o m n a,e=.returned v/\l.rel m v/\Q l o/\dJ E.w0 n o.S o.B m a H:=by
 unfold Wl at h;split at h
 ·rename_i c z;refine calls_of_wp A z ?_;have C:=AP (E:=E) (fn:=fn) r G F;have k:∀b a w,Holds E.w0 fn.ntmps b a w->m6 E fn Q b->a.defers=[]/\∃v,(results fn a.tmps).run E.P w=.ok v w/\∃y l o m n a,(Ending.returned v)=.returned y/\l.rel m y/\Q l o/\dJ E.w0 n o.S o.B m a w:=by
   intro b a w d j;obtain⟨_,m,g,_⟩:=d;unfold m6 at j;split at j;rename_i l s;obtain⟨v,g1,g2⟩:=E1 g s;exact⟨g.defers,v,g1,v,l,b,m,_,a,rfl,g2,j,g⟩;exact j.elim
  exact QY q D c _ _ _ _ _ _ _ h C (λb a w d j=>k b a w d j) (λb a w d j=>k b a w d j) (λi b a w _ j=>j.elim)
 exact h.elim
end
attribute [irreducible] Wl
def ad1(i:Nat):g9->SV
 |[]=>.junk
 |(j,v)::l=>match beq i j with
  |true=>v
  |false=>ad1 i l
def MX:Nat->Nat->g9->dq
 |_,0,_=>[]
 |i,n+1,l=>ad1 i l::MX (i+1) n l
def ay(n next:Nat)(a:g9)(d:e5):St:=⟨MX 0 n a,d,next⟩
def Aa:dq->dq->dq
 |_::l,.junk::m=>.junk::Aa l m
 |s::l,_::m=>s::Aa l m
 |_,_=>[]
def FP(B:b8):e5->e5
 |[]=>[]
 |(id,cs)::l=>match B id with
  |some a=>(id,a)::FP B l
  |none=>(id,.junk::cs)::FP B l
def St.proj(b a:St):St:=⟨Aa b.aW a.aW,FP b.B a.bQ,a.next⟩
theorem abR{K:Prop}:∀(l m:dq),m=Aa l m->l.length=m.length->K->kQ l m K:=by
 intro l;induction l with
 |nil=>intro m h a b;cases m with
  |nil=>exact b
  |cons t m=>simp at a
 |cons s l d=>
  intro m h a b;cases m with
  |nil=>simp at a
  |cons t m=>
   by_cases c:t=.junk;subst c;simp only[Aa,dS,true_and]at h;exact d m h (by simpa using a) b
   ·have e:Aa (s::l) (t::m)=s::Aa l m:=by
     cases t with
     |junk=>exact absurd rfl c
     |_=>rfl
    rw[e]at h;simp only[dS]at h;have g:kQ (s::l) (t::m) K=(KU s t/\kQ l m K):=by
     cases t with
     |junk=>exact absurd rfl c
     |_=>rfl
    rw[g];exact⟨h.1▸X6 _,d m h.2 (by simpa using a) b⟩
theorem abQ{B:b8}{K:Prop}:∀(l:e5),l=FP B l->K->tU B l K:=by
 intro l;induction l with
 |nil=>intro _ b;exact b
 |cons p l c=>
  intro h b;obtain⟨id,cs⟩:=p;simp only[FP]at h;simp only[tU];split at h
  ·rename_i d a;simp only[dS,cp,true_and]at h;try rw[a]
   exact⟨h.1.symm,c h.2 b⟩
  simp only[dS,cp,true_and]at h;have:=congrArg length h.1;simp at this
theorem aB{W:dn}{d τ:St}{K:Prop}(h:τ=d.proj τ)(e:(ble τ.next d.next&&τ.wf&&ble W.top τ.next&&beq d.aW.length τ.aW.length)=true)(i:K):d.le W τ K:=by
 simp only[bD]at e;unfold St.le;have f:τ.aW=Aa d.aW τ.aW:=by have:=congrArg St.aW h;exact this
 have g:τ.bQ=FP d.B τ.bQ:=by have:=congrArg St.bQ h;exact this
 rw[show(ble τ.next d.next&&τ.wf&&ble W.top τ.next)=true from by simp[e.1.1.1,e.1.1.2,e.1.2]];exact abR _ _ f (ca e.2) (abQ _ g i)
theorem av{X G:Prop}(h:X=G)(x:X):G:=h▸x
theorem M7{b:aI}{v:SV}{c:dq}{u:Value}{a:bn}(h:v.rel b u)(d:bW b c a):bW b (v::c) (u::a):=⟨u,a,rfl,h,d⟩
abbrev ag(c:ax):SV:=.is (.one c)
abbrev al(a b:Nat):SV:=.is (.one (.ptr a b))
def sI(k:IntKind)(a:Int):SV:=.is (.one (.v (.int k a)))
abbrev sJ(x:Int):SV:=sI .i64 x
abbrev vI(x:Int):ax:=.v (.int .i64 x)
def sA(k:IntKind)(n:Nat)(a:LI):SV:=.is (.agg [.ints k n a])
end Go.Eng
abbrev cw:=List Go.Code
namespace Go.Eng
def NC:dq->Prop->Prop
 |[],K=>K
 |.junk::m,K=>NC m K
 |t::m,K=>t=t/\NC m K
def We:e5->Prop->Prop
 |[],K=>K
 |(_,cs)::l,K=>cs=cs/\We l K
def St.aj(τ:St)(K:Prop):Prop:=NC τ.aW (We τ.bQ K)
theorem RF{K:Prop}(h:K):∀l:e5,We l K:=by
 intro l;induction l with
 |nil=>exact h
 |cons p l a=>exact⟨rfl,a⟩
theorem RG{K:Prop}(h:K):∀l:dq,NC l K:=by
 intro l;induction l with
 |nil=>exact h
 |cons t l a=>
  cases t with
  |junk=>exact a
  |_=>exact⟨rfl,a⟩
theorem aw{τ:St}{K:Prop}(h:K):τ.aj K:=RG (RF h _) _
def Y7:cw->Code
 |[]=>.skip
 |c::l=>.seq c (Y7 l)
def flat:Code->cw
 |.seq a b=>flat a++flat b
 |.skip=>[]
 |c=>[c]
def ng(P:Program):cw->(Exit->aA)->aA
 |[],Q,a,w=>Q .normal a w
 |c::l,Q,a,w=>c.wp P (Exit.then (ng P l Q) Q) a w
theorem lM{P:Program}:∀(c:Code)(l:cw)(Q:Exit->aA)(a:Act)(w:World),ng P (flat c++l) Q a w->c.wp P (Exit.then (ng P l Q) Q) a w:=by
 intro c;induction c with
 |skip=>intro l Q a w h;exact wp_skip h
 |seq p q b d=>
  intro l Q a w h;simp only[flat,cZ]at h;refine wp_seq (wp_mono (b _ Q a w h) ?_);intro e g i f;cases e with
  |normal=>exact d l Q g i f
  |_=>exact f
 |_=>intro l Q a w h;exact h
def VC(E:Env)(l:cw)(a:St)(n r:St->Prop)(x:Nat->St->Prop):Prop:=vc E (Y7 l) a n r x
def Tr(E:Env)(N:Nat)(l:cw)(d:St)(n r:St->Prop)(x:Nat->St->Prop):Prop:=
 ∀(a:Act)(w:World)(Q:Exit->aA),Holds E.w0 N d a w->(∀b a w,Holds E.w0 N b a w->n b->Q .normal a w)->(∀b a w,Holds E.w0 N b a w->r b->Q .ret a w) ->
  (∀i b a w,Holds E.w0 N b a w->x i b->Q (.exit i) a w)->ng E.P l Q a w
section
variable {E:Env}{N:Nat}{n r:St->Prop}{x:Nat->St->Prop}
theorem cq(g:aS E.P E.sp)(o:E.P.follows .mixedOrders=true):∀(l:cw)(b:St),VC E l b n r x->Tr E N l b n r x:=by
 intro l;induction l with
 |nil=>intro b h a w Q d f _ _;exact f b a w d h
 |cons c l p=>intro b h a w Q d f j k;exact QY g o c b _ r x a w _ h d (λi a w e m=>p i m a w Q e f j k) j k
theorem B1{P:Program}{Q:Exit->aA}:∀(l m:cw)(a:Act)(w:World),ng P l (Exit.then (ng P m Q) Q) a w->ng P (l++m) Q a w:=by
 intro l;induction l with
 |nil=>intro m a w h;exact h
 |cons c l f=>
  intro m a w h;refine wp_mono h ?_;intro e d g b;cases e with
  |normal=>exact f m d g b
  |_=>exact b
theorem bN(e:aS E.P E.sp)(y:E.P.follows .mixedOrders=true){l:cw}{i:St}(k:Nat)(j:St)(K:Prop)(p:VC E (l.take k) i (λb=>b.le E.w0 j K) r x)(q:K->Tr E N (l.drop k) j n r x):Tr E N l i n r x:=by intro a w Q u z g h;rw[<-ff k l];refine B1 _ _ a w ?_;refine cq e y _ _ p a w _ u (λb m A d o=>?_) g h;obtain⟨s,f⟩:=na o d;exact q s m A Q f z g h
def cH:Code->Nat
 |.block id _=>id
 |_=>0
def aO:Code->cw
 |.block _ (.loop b)=>flat b
 |_=>[]
def ef:Code->Bool
 |.block _ (.loop _)=>true
 |_=>false
theorem LA{α:Type}{l:cw}{c:Code}{R:St}(I:α->St)(J:α->Prop)(q:α->Nat)(out:α->St)(H:α->Prop)(s:α)(D:l.head?=some c) (y:ef c=true) (T:R.le E.w0 (I s) (J s))(u:∀g,J g->Tr E N (aO c) (I g) (λf=>∃j,f.le E.w0 (I j) (J j/\q j<q g)) r (λi f=>match beq i (cH c)with|true=>∃j,f.le E.w0 (out j) (H j)|false=>x i f))(X:∀g,H g->Tr E N l.tail (out g) n r x):Tr E N l R n r x:=by
 intro a w Q hh hn K L;cases l with
 |nil=>simp at D
 |cons d l=>
  simp at D;subst D;unfold ef at y;split at y
  ·rename_i id b;obtain⟨C,z⟩:=na T hh;refine wp_block ?_;refine wp_loop_ghost (λm a w=>∃g,q g=m/\J g/\Holds E.w0 N (I g) a w) (q s) ⟨s,rfl,C,z⟩ ?_;rintro m a w ⟨g,rfl,hj,Z⟩;have G:=u g hj a w (Exit.then (λo p=>∃O,O<q g/\∃g,q g=O/\J g/\Holds E.w0 N (I g) o p) (Exit.inBlock id (Exit.then (ng E.P l Q) Q))) Z ?_ ?_ ?_;have:=lM b [] _ a w (by simpa[aO]using G);refine wp_mono this ?_;intro e o p Y;cases e<;>exact Y;rintro f o p h ⟨j,k⟩;obtain⟨⟨U,V⟩,W⟩:=na k h;exact⟨q j,V,j,rfl,U,W⟩;intro f o p h k;exact K f o p h k
   ·intro i f o p h k;show Exit.inBlock id (Exit.then (ng E.P l Q) Q) (.exit i) o p;simp only[Exit.inBlock];by_cases A:i=id;subst A;rw[ah rfl];simp only[cH,lh]at k;obtain⟨j,k⟩:=k;obtain⟨t,F⟩:=na k h;exact X j t o p Q F hn K L
    ·rw[ai A];have:beq i id=false:=by
      cases u:beq i id with
      |false=>rfl
      |true=>exact absurd (ca u) A
     simp only[cH,this]at k;exact L i f o p h k
  cases y
theorem BS{l:cw}{k:St}{g:St->Prop}{j:Nat->St->Prop}(h:Tr E N l k g r j)(e:∀b,g b->n b)(f:∀i b,j i b->x i b):Tr E N l k n r x:=by intro a w Q m o p q;exact h a w Q m (λb a w c d=>o b a w c (e b d)) p (λi b a w c d=>q i b a w c (f i b d))
theorem QT(j:aS E.P E.sp)(y:E.P.follows .mixedOrders=true){d:Type}{l:cw}{c:Code}{o:St}(I:d->St)(J:d->Prop)(k:d->Nat)(b:d->d)(out:d->St)(f:d->Prop)(h:d)(w:l.head?=some c) (t:ef c=true) (p:o.le E.w0 (I h) (J h))(s:∀g,J g->VC E (aO c) (I g) (λa=>a.le E.w0 (I (b g)) (J (b g)/\k (b g)<k g)) r (λi a=>match beq i (cH c)with|true=>a.le E.w0 (out g) (f g)|false=>x i a))(q:∀g,f g->Tr E N l.tail (out g) n r x):Tr E N l o n r x:=by
 refine LA I J k out f h w t p (λg u=>?_) q;refine BS (cq j y _ _ (s g u)) (λa e=>⟨b g,e⟩) (λi a e=>?_);cases m:beq i (cH c)with
 |true=>rw[m]at e;exact⟨g,e⟩
 |false=>rw[m]at e;exact e
def ar(l:cw)(k:Nat):Code:=l.getD k .skip
def pZ:Code->Operand
 |.cond c _ _=>c
 |_=>.const (.bool true)
def fC:Code->cw
 |.cond _ a _=>flat a
 |_=>[]
def tM:Code->cw
 |.cond _ _ b=>flat b
 |_=>[]
def p6:Code->Bool
 |.cond _ _ _=>true
 |_=>false
def cg:Code->cw
 |.block _ b=>flat b
 |_=>[]
def FD:Code->Bool
 |.block _ _=>true
 |_=>false
theorem T7{l:cw}{c:Code}{e:St}(t:Bool)(h:l.head?=some c)(g:p6 c=true)(m:lD e.S (pZ c)=ag (.v (.bool t)))(s:t=true->Tr E N (fC c++l.tail) e n r x) (u:t=false->Tr E N (tM c++l.tail) e n r x):Tr E N l e n r x:=by
 intro a w Q f j k o;cases l with
 |nil=>simp at h
 |cons d l=>simp at h;subst h;unfold p6 at g;split at g;rename_i c p q;have b:(lD e.S c).rel f.2.choose (a.eval c):=(f.2.choose_spec.1).fG (E:=E) c;simp only[pZ]at m;rw[m]at b;refine wp_cond_split (cY b) (λi=>?_) (λi=>?_);exact lM p l Q a w (s i a w Q f j k o);exact lM q l Q a w (u i a w Q f j k o);cases g
theorem n3{l:cw}{c:Code}{y:St}(p:l.head?=some c)(m:FD c=true)(z:Tr E N (cg c) y (λf=>Tr E N l.tail f n r x) r (λi f=>match beq i (cH c)with|true=>Tr E N l.tail f n r x|false=>x i f)):Tr E N l y n r x:=by
 intro a w Q D u q s;cases l with
 |nil=>simp at p
 |cons d l=>
  simp at p;subst p;unfold FD at m;split at m
  ·rename_i id b;refine wp_block ?_;have t:=z a w (Exit.inBlock id (Exit.then (ng E.P l Q) Q)) D (λf j k g h=>h j k Q g u q s) (λf j k g h=>q f j k g h) ?_;have:=lM b [] _ a w (by simpa[cg]using t);refine wp_mono this ?_;intro e j k C;cases e<;>exact C
   ·intro i f j k g h;simp only[Exit.inBlock];by_cases o:i=id;subst o;rw[ah rfl];simp only[cH,lh]at h;exact h j k Q g u q s
    ·rw[ai o];have:beq i id=false:=by
      cases A:beq i id with
      |false=>rfl
      |true=>exact absurd (ca A) o
     simp only[cH,this]at h;exact s i f j k g h
  cases m
def aq(fn:Func):cw:=
 match fn.body with
 |some c=>flat c
 |none=>[]
def lK(fn:Func)(args:dq)(bl:e5)(b:Nat):St:=⟨args++replicate (fn.ntmps-args.length) .undef,bl,b⟩
def Du(E:Env)(fn:Func)(args:dq)(a:e5)(b:Nat)(Q:SV->St->Prop):Prop:=
 Tr E fn.ntmps (aq fn) (lK fn args a b) (m6 E fn Q) (m6 E fn Q) (λ_ _=>False)
theorem Eo{f:FuncId}{fn:Func}(G:E.P.funcs[f]?=some fn)(p:fn.body.isSome=true){args:dq}{s:bn}{z:e5}{C:Nat}{q:aI}(u:Start E.w0 z C q){Q:SV->St->Prop}(L:bW q args s) (K:args.length<=fn.ntmps) (h:Du E fn args z C Q):
  Calls E.P f ⟨s⟩ E.w0.w λe t=>∃v l j m n a,e=.returned v/\l.rel m v/\Q l j/\dJ E.w0 n j.S j.B m a t:=by
 obtain⟨c,A⟩:=Option.isSome_iff_exists.1 p;have H:=AP (E:=E) (fn:=fn) u L K;refine calls_of_wp G A ?_;have o:∀b a w,Holds E.w0 fn.ntmps b a w->m6 E fn Q b->a.defers=[]/\∃v,(results fn a.tmps).run E.P w=.ok v w/\∃D l j m n a,(Ending.returned v)=.returned D/\l.rel m D/\Q l j/\dJ E.w0 n j.S j.B m a w:=by intro b a w d k;obtain⟨_,m,g,_⟩:=d;unfold m6 at k;split at k;rename_i l y;obtain⟨v,g1,g2⟩:=E1 g y;exact⟨g.defers,v,g1,v,l,b,m,_,a,rfl,g2,k,g⟩;exact k.elim
 have I:flat c++[]=aq fn:=by simp[aq,A]
 suffices O:ng E.P (aq fn) (bodyPost E.P fn λe t=>∃v l j m n a,e=.returned v/\SV.rel m l v/\Q l j/\dJ E.w0 n j.S j.B m a t) {tmps:=(⟨s⟩:Array Value)++Array.replicate (fn.ntmps-(⟨s⟩:Array Value).size) undef,defers:=[]} E.w0.w by refine wp_mono (lM c [] _ _ _ (I▸O)) ?_;intro e R t F;cases e<;>exact F
 exact h _ _ _ H (λb a w d k=>o b a w d k) (λb a w d k=>o b a w d k) (λi b a w _ k=>k.elim)
end
attribute [irreducible] VC
