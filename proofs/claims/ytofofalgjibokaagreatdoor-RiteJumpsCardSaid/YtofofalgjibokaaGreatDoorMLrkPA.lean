import Derived.Orders
import Derived.Below
import Derived.Laws.Cells
import Derived.Laws.StructEq
import Derived.KernelRfl
import Derived.Laws.BytesArg
import Derived.Laws.MakeOwn
import Derived.Laws.IdiomStrings
import Derived.Laws.Slices
set_option maxRecDepth 100000
noncomputable section
open List(drop length mem_cons mem_map range replicate take)
open Nat(beq ble blt)
open Int(toNat)
theorem aa {p:Prop}(h:p:=by omega):p:=h
theorem aw {p:Prop}(h:p:=by simp):p:=h
abbrev aE:=@Option.some.injEq
abbrev aF:=@Int.toNat_natCast
abbrev a2:=@List.getD_eq_getElem?_getD
abbrev ai:=@if_neg
abbrev bu:=@List.getElem?_eq_getElem
abbrev ak:=@if_pos
abbrev a7:=@List.length_append
abbrev aT:=@List.take_length
abbrev aX:=@Bool.and_eq_true
abbrev aL:=@Prod.mk.injEq
abbrev aI:=@Nat.le_refl
abbrev cw:=@List.take_succ_eq_append_getElem
abbrev bW:=@List.take_of_length_le
abbrev bw:=@List.append_nil
abbrev bx:=@List.cons.injEq
abbrev cE:=@Array.getD_eq_getD_getElem?
abbrev bN:=@List.length_cons
abbrev a8:=@Nat.zero_le
abbrev dM:=@List.eq_nil_of_length_eq_zero
abbrev bZ:=@List.length_map
abbrev bO:=@Nat.zero_add
abbrev cx:=@Option.getD_some
abbrev cp:=@decide_eq_false
abbrev cH:=@List.append_assoc
abbrev bS:=@Nat.lt_or_ge
abbrev cg:=@decide_eq_true
abbrev ef:=@Array.getElem?_eq_none
abbrev dN:=@List.getElem?_eq_none
abbrev dO:=@List.take_append_drop
abbrev de:=@Int.emod_eq_of_lt
abbrev c5:=@List.length_take
abbrev dP:=@List.mem_of_getElem?
abbrev c6:=@Option.map_some
abbrev dy:=@List.getElem?_map
abbrev ga:=@Classical.byContradiction
abbrev dr:=@List.getElem_mem
abbrev di:=@List.map_append
abbrev fa:=@Nat.eq_of_beq_eq_true
abbrev bR:=@and_true
abbrev fb:=@Nat.mul_le_mul_right
abbrev dG:=@List.nil_append
abbrev fe:=@Nat.lt_of_lt_of_le
abbrev gJ:=@Nat.le_of_ble_eq_true
abbrev dz:=@Int.mul_assoc
abbrev fE:=@List.getElem?_take
abbrev gK:=@List.mem_append_left
abbrev eH:=@List.length_nil
abbrev hV:=@List.mem_append_right
abbrev lV:=@List.take_append_of_le_length
abbrev gb:=@List.mem_singleton
abbrev dH:=@Int.mul_emod
abbrev jU:=@Int.eq_ofNat_of_zero_le
abbrev eI:=@List.map_cons
abbrev gf:=@List.length_drop
abbrev hX:=@decide_eq_true_iff
abbrev lW:=@List.drop_eq_getElem_cons
abbrev eJ:=@Int.le_of_lt
abbrev fF:=@List.drop_drop
abbrev sz:=@Array.getElem?_setIfInBounds_self_of_lt
abbrev ni:=@Int.tmod_eq_emod_of_nonneg
abbrev lX:=@List.getElem?_cons_succ
abbrev hY:=@Nat.mod_eq_of_lt
abbrev gL:=@List.drop_zero
abbrev hZ:=@List.length_set
abbrev iT:=@List.cons_append
abbrev nj:=@Int.ediv_ediv_of_nonneg
abbrev qn:=@List.drop_append_of_le_length
abbrev oS:=@List.getElem?_append_left
abbrev ff:=@Nat.add_mul
abbrev nk:=@List.drop_of_length_le
abbrev sB:=@Nat.Coprime.mul_dvd_of_dvd_of_dvd
abbrev iU:=@Nat.min_eq_left
abbrev gh:=@Nat.add_zero
abbrev gi:=@Nat.beq_refl
abbrev h8:=@Bool.true_and
abbrev qo:=@List.getElem?_append_right
abbrev gM:=@Int.mul_comm
abbrev lY:=@Bool.false_eq_true
abbrev jV:=@Option.some.inj
abbrev jY:=@Nat.zero_lt_one
abbrev nm:=@List.mem_of_mem_take
abbrev dQ:=@if_false
abbrev np:=@Array.length_toList
abbrev lZ:=@decide_eq_true_eq
abbrev oT:=@List.length_replicate
abbrev h9:=@Nat.le_trans
abbrev oU:=@List.length_filter_le
abbrev nq:=@Array.all_eq_true'
abbrev iV:=@Nat.succ_mul
abbrev sD:=@Int.fdiv_eq_ediv_of_nonneg
abbrev sE:=@Int.tdiv_eq_ediv_of_nonneg
abbrev vr:=@Array.getElem?_setIfInBounds_ne
abbrev oV:=@List.replicate_succ
abbrev vt:=@Int.mul_le_mul_of_nonneg_right
abbrev qp:=@List.set_append_right
abbrev oW:=@Bool.not_eq_false'
abbrev qq:=@List.mem_cons_of_mem
abbrev l5:=@Bool.false_and
abbrev sF:=@List.getElem?_replicate
abbrev nr:=@Bool.eq_iff_iff
abbrev ly:=@Option.map_none
abbrev lz:=@List.take_left'
abbrev lA:=@List.mem_append
abbrev jm:=@Nat.zero_mul
abbrev kB:=@Int.emod_emod
abbrev mW:=@List.ext_getElem
abbrev mX:=@List.all_eq_true
abbrev wD:=@List.findIdx_lt_length_of_exists
abbrev mY:=@Nat.zero_lt_succ
abbrev lB:=@List.take_take
abbrev qE:=@Array.getElem?_modify
abbrev eB:=@if_true
abbrev oD:=@List.set_cons_zero
abbrev oE:=@Bool.not_eq_true'
abbrev tF:=@List.getElem?_cons_zero
abbrev gm:=@Prod.ext
abbrev oF:=@List.drop_append
abbrev mZ:=@Int.mul_nonneg
abbrev oG:=@List.drop_length
abbrev jn:=@Array.ext'
abbrev lC:=@List.map_map
abbrev qF:=@Nat.eq_zero_or_pos
abbrev lD:=@Nat.mul_comm
abbrev qG:=@BitVec.toNat_ofNat
abbrev qH:=@List.filter_append
abbrev lE:=@Nat.pow_succ
abbrev oH:=@Bool.or_eq_true
abbrev tG:=@List.getElem?_toArray
abbrev wE:=@Int.add_mul_emod_self_left
abbrev m5:=@List.cons.inj
abbrev tH:=@BitVec.ofInt_natCast
abbrev lF:=@Int.mul_one
abbrev oJ:=@Bool.not_false
abbrev oL:=@Bool.and_false
abbrev qI:=@List.any_eq_true
abbrev tJ:=@List.flatten_append
abbrev oM:=@Bool.not_true
abbrev qJ:=@Int.emod_nonneg
abbrev tK:=@Int.emod_lt_of_pos
abbrev A8:=@Array.eq_empty_of_size_eq_zero
abbrev lG:=@Nat.blt_eq
abbrev tL:=@Option.toList_some
abbrev A9:=@List.eq_nil_iff_forall_not_mem
abbrev Ba:=@Nat.and_two_pow_sub_one_eq_mod
abbrev qK:=@List.range_succ
abbrev m6:=@Nat.one_mul
abbrev Bb:=@Int.mul_le_mul_of_nonneg_left
abbrev tM:=@Function.comp_def
abbrev tN:=@List.flatten_cons
abbrev wF:=@Int.emod_add_mul_ediv
abbrev oN:=@Nat.add_comm
abbrev qL:=@List.drop_take
abbrev oO:=@Nat.sub_self
abbrev tO:=@List.range'_succ
abbrev wG:=@List.findIdx_getElem
abbrev tP:=@List.filter_cons
abbrev Bc:=@Array.toList_setIfInBounds
abbrev qM:=@Nat.le_of_dvd
abbrev wH:=@List.getD_cons_zero
abbrev wI:=@Array.toList_append
abbrev Bd:=@Array.getElem?_eq_getElem
abbrev Be:=@Nat.add_mul_mod_self_left
abbrev wJ:=@Int.sub_emod_right
abbrev wK:=@Option.isNone_some
abbrev wL:=@Option.isNone_none
abbrev wM:=@Option.toList_none
abbrev wN:=@List.zip_cons_cons
abbrev Bf:=@List.length_erase_of_mem
abbrev kC:=@Iff.rfl
abbrev tQ:=@Nat.mul_le_mul
abbrev tR:=@List.take_zero
abbrev wO:=@Nat.lt_trichotomy
abbrev wP:=@List.getElem?_set
abbrev wQ:=@Int.mul_left_comm
abbrev wR:=@List.length_range
abbrev qN:=@Int.mul_add
abbrev qO:=@Int.add_mul
abbrev Bg:=@Int.ediv_eq_zero_of_lt
abbrev qP:=@Nat.add_mod
abbrev Bh:=@List.drop_eq_nil_of_le
abbrev tT:=@mem_cons
abbrev tU:=@Nat.add_assoc
abbrev wS:=@List.getElem_map
abbrev wT:=@BitVec.toNat_and
abbrev Bi:=@List.length_singleton
abbrev Bj:=@List.mem_of_mem_erase
abbrev IU:=@List.findIdx_eq_length_of_false
abbrev tV:=@Int.emod_def
abbrev tX:=@Nat.le_of_lt
abbrev Bk:=@Bool.or_eq_false_iff
abbrev Bl:=@List.mem_of_mem_drop
abbrev wU:=@Int.natCast_mul
abbrev Bm:=@Int.emod_emod_of_dvd
abbrev wV:=@Int.ediv_nonneg
abbrev wW:=@Nat.not_lt_zero
abbrev tY:=@List.map_nil
abbrev Bn:=@Int.toNat_of_nonneg
abbrev Bo:=@List.map_congr_left
abbrev tZ:=@Nat.mul_one
abbrev Bp:=@Int.add_emod_right
abbrev Bq:=@List.getElem_range
abbrev Br:=@List.mem_cons_self
abbrev Bt:=@List.set_cons_succ
abbrev wX:=@Nat.dvd_trans
abbrev Bu:=@List.size_toArray
abbrev Bv:=@Nat.lt_succ_of_lt
abbrev Bw:=@List.foldl_append
abbrev Bx:=@List.nodup_append
abbrev By:=@List.ext_getElem?
abbrev Bz:=@List.findIdx_cons
abbrev ua:=@Nat.ble_eq
abbrev wY:=@Nat.le_of_eq
abbrev wZ:=@Nat.mul_succ
theorem Odt{p:Prop}[Decidable p](h:decide p=true):p:=of_decide_eq_true h
theorem Odf{p:Prop}[Decidable p](h:decide p=false):Not p:=of_decide_eq_false h
namespace Cr
def gI (a:Int):Prop:=0<=a/\a<18446744073709551616
def Ws (xs:List Int):Prop:=∀ x∈xs,gI x
def val:List Int->Int
 | []=>0
 | x::xs=>x+18446744073709551616*val xs
def aY:Nat->Int->List Int
 | 0,_=>[]
 | n+1,N=>N%18446744073709551616::aY n (N/18446744073709551616)
def pw:Nat->Int
 | 0=>1
 | n+1=>18446744073709551616*pw n
theorem we (n:Nat):0<pw n:=by
 induction n with
 | zero=>decide
 | succ n a=>simp only[pw];omega
theorem rL (n:Nat) (N:Int):(aY n N).length=n:=by
 induction n generalizing N with
 | zero=>rfl
 | succ n a=>simp[aY,a]
theorem jx (n:Nat) (N:Int):Ws (aY n N):=by
 induction n generalizing N with
 | zero=>intro x h;cases h
 | succ n a =>intro x h;simp only[aY,tT] at h;rcases h with rfl|h;exact⟨aa,aa⟩;exact a _ x h
theorem eE {xs:List Int} (h:Ws xs):0<=val xs:=by
 induction xs with
 | nil=>decide
 | cons x xs d =>have a:=h x aw;have e:=d (fun y b=>h y (by simp[b]));simp only[val];have:=a.1;omega
theorem zr {a:List Int} (h:Ws a):val a<pw a.length:=by
 induction a with
 | nil=>decide
 | cons x a e =>have b:=h x aw;have f:=e (fun y d=>h y (by simp[d]));simp only[val,pw,bN];have:=b.2;omega
theorem tt (n:Nat) (N:Int):val (aY n N)=N%pw n:=by
 induction n generalizing N with
 | zero=>simp[aY,val,pw,Int.emod_one]
 | succ n g =>simp only[aY,val,pw,g];have e:=we n;rw[<- wF N 18446744073709551616];generalize i:N/18446744073709551616=q;generalize j:N%18446744073709551616=r;have f:0<=r/\r<18446744073709551616:=aa;have a:(r+18446744073709551616*q)%18446744073709551616=r:=aa;have b:(r+18446744073709551616*q)/18446744073709551616=q:=aa;rw[a,b];have c:q=q%pw n+pw n*(q/pw n):=(wF q (pw n)).symm;have h:=qJ q (by omega:pw n≠0);have d:=tK q e;generalize k:q%pw n=s at *;generalize q/pw n=t at *;subst c;rw[show r+18446744073709551616*(s+pw n*t)=(r+18446744073709551616*s)+18446744073709551616*pw n*t from by rw[qN,dz];omega];rw[wE];exact (de aa aa).symm
theorem sY {xs:List Int} (h:Ws xs):aY xs.length (val xs)=xs:=by
 induction xs with
 | nil=>rfl
 | cons x xs g =>have d:=h x aw;have e:=g (fun y f=>h y (by simp[f]));simp only[val,aY,bN];obtain⟨a,b⟩:=d;rw[show (x+18446744073709551616*val xs)%18446744073709551616=x from by omega,show (x+18446744073709551616*val xs)/18446744073709551616=val xs from by omega,e]
theorem val_inj {a b:List Int} (d:Ws a) (e:Ws b) (c:a.length=b.length) (h:val a=val b):a=b:=by rw[<- sY d,<- sY e,c,h]
def nI:List Int->List Int->Int->List Int × Int
 | a::us,b::vs,k=>((a-b-k)%18446744073709551616::(nI us vs (if a<b+k then 1 else 0)).1,(nI us vs (if a<b+k then 1 else 0)).2)
 | _,_,k=>([],k)
def p7:List Int->List Int->Int->List Int × Int
 | a::us,b::vs,k=>((a+b+k)%18446744073709551616::(p7 us vs ((a+b+k)/18446744073709551616)).1,(p7 us vs ((a+b+k)/18446744073709551616)).2)
 | _,_,k=>([],k)
theorem UD:∀ (e d:List Int) (k:Int),e.length=d.length->Ws e->Ws d->(k=0\/k=1) ->
  (nI e d k).1.length=e.length/\Ws (nI e d k).1/\((nI e d k).2=0\/(nI e d k).2=1)/\val (nI e d k).1=val e-val d-k+pw e.length*(nI e d k).2:=by
 intro e;induction e with
 | nil =>
  intro d k h _ _ j;cases d with
  | nil=>refine⟨rfl,fun x h=>(nomatch h),j,?_⟩;simp[nI,val,pw];omega
  | cons b d=>simp at h
 | cons a e n =>
  intro d k h g i j;cases d with
  | nil=>simp at h
  | cons b d =>obtain⟨o,q⟩:=g a aw;obtain⟨r,s⟩:=i b aw;obtain⟨g1,g2,l,m⟩:=n d (if a<b+k then 1 else 0) (by simpa using h) (fun y f=>g y (by simp[f])) (fun y f=>i y (by simp[f])) (by split<;>simp);refine⟨by simp[nI,g1],?_,l,?_⟩;intro x hx;simp only[nI,tT] at hx;rcases hx with rfl|hx;exact⟨aa,aa⟩;exact g2 x hx;simp only[nI,val,bN,pw,m];generalize (nI e d (if a<b+k then 1 else 0)).2=c at *;rw[dz];generalize pw e.length*c=pc at *;split<;>omega
theorem Sa:∀ (e d:List Int) (k:Int),e.length=d.length->Ws e->Ws d->(k=0\/k=1) ->
  (p7 e d k).1.length=e.length/\Ws (p7 e d k).1/\((p7 e d k).2=0\/(p7 e d k).2=1)/\val (p7 e d k).1=val e+val d+k-pw e.length*(p7 e d k).2:=by
 intro e;induction e with
 | nil =>
  intro d k h _ _ j;cases d with
  | nil=>refine⟨rfl,fun x h=>(nomatch h),j,?_⟩;simp[p7,val,pw]
  | cons b d=>simp at h
 | cons a e n =>
  intro d k h g i j;cases d with
  | nil=>simp at h
  | cons b d =>obtain⟨o,q⟩:=g a aw;obtain⟨r,s⟩:=i b aw;obtain⟨g1,g2,l,m⟩:=n d ((a+b+k)/18446744073709551616) (by simpa using h) (fun y f=>g y (by simp[f])) (fun y f=>i y (by simp[f])) aa;refine⟨by simp[p7,g1],?_,l,?_⟩;intro x hx;simp only[p7,tT] at hx;rcases hx with rfl|hx;exact⟨aa,aa⟩;exact g2 x hx;simp only[p7,val,bN,pw,m];generalize (p7 e d ((a+b+k)/18446744073709551616)).2=c at *;rw[dz];generalize pw e.length*c=pc at *;omega
theorem Pz {us vs:List Int} (f:us.length=vs.length) (c:Ws us) (d:Ws vs):(nI us vs 0).1=aY us.length (val us-val vs)/\(nI us vs 0).2=if val us<val vs then 1 else 0:=by obtain⟨e,b,h3,a⟩:=UD us vs 0 f c d (.inl rfl);have i:=we us.length;have j:=eE b;have g:=zr b;rw[e] at g;have k:=eE c;have l:=zr c;have m:=eE d;have h:=zr d;rw[<- f] at h;constructor;refine val_inj b (jx _ _) (by rw[e,rL]) ?_;rw[tt,a];rcases h3 with h3|h3;rw[h3] at a ⊢;rw[de aa aa];omega;rw[h3] at a ⊢;rw[show val us-val vs-0+pw us.length*1=val us-val vs+pw us.length from by omega];rw[<- Bp,de aa aa];rcases h3 with h3|h3;rw[h3] at a ⊢;rw[ai aa];rw[h3] at a ⊢;rw[ak aa]
theorem NR {us vs:List Int} (f:us.length=vs.length) (d:Ws us) (e:Ws vs):(p7 us vs 0).1=aY us.length (val us+val vs):=by obtain⟨c,a,h3,b⟩:=Sa us vs 0 f d e (.inl rfl);have h:=we us.length;have i:=eE a;have g:=zr a;rw[c] at g;refine val_inj a (jx _ _) (by rw[c,rL]) ?_;rw[tt,b];rcases h3 with h3|h3;rw[h3] at b ⊢;rw[de aa aa];omega;rw[h3] at b ⊢;rw[show val us+val vs+0-pw us.length*1=val us+val vs-pw us.length from by omega];rw[<- wJ,de aa aa]
class Md (M:Int) where
 n:Nat
 rinv:Int
 gt:1<M
 I2:2*M<=pw n
 inv:(pw n*rinv)%M=1
structure Zm (M:Int) where
 v:Int
 nn:0<=v
 lt:v<M
theorem Zm.ext {M:Int} {a b:Zm M} (h:a.v=b.v):a=b:=by cases a;cases b;simp at h;subst h;rfl
instance {M : Int} : DecidableEq (Zm M) := fun a b =>
 if h:a.v=b.v then isTrue (Zm.ext h) else isFalse (fun e=>h (by rw[e]))
section
variable {M:Int} [Md M]
theorem US:0<M:=by have:=Md.gt (M:=M);omega
def zm (a:Int):Zm M:=⟨a%M,qJ _ (by have:=US (M:=M);omega),tK _ US⟩
instance : Add (Zm M) := ⟨fun a b => zm (a.v + b.v)⟩
instance : Mul (Zm M) := ⟨fun a b => zm (a.v * b.v)⟩
instance : Neg (Zm M) := ⟨fun a => zm (-a.v)⟩
instance : Sub (Zm M) := ⟨fun a b => zm (a.v - b.v)⟩
instance : Zero (Zm M) := ⟨zm 0⟩
instance : One (Zm M) := ⟨zm 1⟩
theorem AM (a:Int):(zm a:Zm M).v=a%M:=rfl
theorem Qd (a b:Zm M):(a+b).v=(a.v+b.v)%M:=rfl
theorem xr (a b:Zm M):(a*b).v=(a.v*b.v)%M:=rfl
theorem J9 (a:Zm M):(-a).v=(-a.v)%M:=rfl
theorem RM (a b:Zm M):(a-b).v=(a.v-b.v)%M:=rfl
theorem uA:(0:Zm M).v=0:=by show (0:Int)%M=0;simp
theorem Gu:(1:Zm M).v=1:=by show (1:Int)%M=1;exact de aa Md.gt
omit [Md M] in
theorem RV (a:Zm M):a.v%M=a.v:=de a.nn a.lt
theorem jb (a:Zm M):zm a.v=a:=Zm.ext (RV a)
theorem uB (a b:Int):(zm a+zm b:Zm M)=zm (a+b):=Zm.ext (by simp[Qd,AM])
theorem uC (a b:Int):(zm a*zm b:Zm M)=zm (a*b):=Zm.ext (by simp[xr,AM,<- dH])
theorem C1 (a b:Int):(zm a-zm b:Zm M)=zm (a-b):=Zm.ext (by simp[RM,AM])
theorem Hp (a:Int):(-zm a:Zm M)=zm (-a):=Zm.ext (by
 rw[J9,AM,AM];have h:=tV a M
 rw[show -(a%M)=-a+M*(a/M) by omega,wE])
theorem Zj {a b:Int} (h:a%M=b%M):(zm a:Zm M)=zm b:=Zm.ext h
theorem P6:(zm 0:Zm M)=0:=rfl
def R2:Zm M:=zm (pw (Md.n M))
def XW:Zm M:=zm (Md.rinv M)
theorem R8:(R2:Zm M)*XW=1:=by unfold R2 XW;rw[uC];exact Zm.ext (by rw[AM,Gu];exact Md.inv)
def enc (x:Zm M):List Int:=aY (Md.n M) (x*R2).v
def dec (d:List Int):Zm M:=zm (val d)*XW
def Canon (M:Int) [Md M] (d:List Int):Prop:=d.length=Md.n M/\Ws d/\val d<M
theorem rQ (a b c:Zm M):a*b*c=a*(b*c):=Zm.ext (by
 simp only[xr]
 rw[dH,kB,<- dH,dH a.v,kB,<- dH,dz])
theorem xq (a b:Zm M):a*b=b*a:=Zm.ext (by simp only[xr,gM])
theorem zY (a:Zm M):a*1=a:=Zm.ext (by rw[xr,Gu,lF,RV])
theorem Zk:M<pw (Md.n M):=by have:=Md.I2 (M:=M);have:=US (M:=M);omega
theorem rE (x:Zm M):(enc x).length=Md.n M:=rL _ _
theorem e4 (x:Zm M):Ws (enc x):=jx _ _
theorem DM (x:Zm M):val (enc x)=(x*R2).v:=by unfold enc;rw[tt,de (x*R2).nn (by have:=(x*R2).lt;have:=Zk (M:=M);omega)]
theorem cI (x:Zm M):Canon M (enc x):=⟨rE x,e4 x,by rw[DM];exact (x*R2).lt⟩
theorem dV (x:Zm M):dec (enc x)=x:=by unfold dec;rw[DM,jb,rQ,R8,zY]
theorem yC (a:List Int):dec a*R2=(zm (val a):Zm M):=by unfold dec;rw[rQ,xq XW,R8,zY]
theorem Of {a:List Int} (h:Canon M a):enc (dec a:Zm M)=a:=by obtain⟨d,b,f⟩:=h;unfold enc;rw[yC,AM,de (eE b) f,<- d];exact sY b
theorem Og {x y:Zm M} (h:enc x=enc y):x=y:=by rw[<- dV x,<- dV y,h]
theorem FR {x:Zm M} {N:Int} (h:x*R2=zm N):enc x=aY (Md.n M) (N%M):=by unfold enc;rw[h,AM]
theorem Kx (a b c:Zm M):(a+b)*c=a*c+b*c:=by rw[<- jb a,<- jb b,<- jb c];simp only[uB,uC,qO]
theorem Xp (a b c:Zm M):(a-b)*c=a*c-b*c:=by rw[<- jb a,<- jb b,<- jb c];simp only[C1,uC,Int.sub_mul]
theorem ZB {a b:List Int}:enc (dec a+dec b:Zm M)=aY (Md.n M) ((val a+val b)%M) :=
 FR (by rw[Kx,yC,yC,uB])
theorem Oh {a b:List Int}:enc (dec a-dec b:Zm M)=aY (Md.n M) ((val a-val b)%M) :=
 FR (by rw[Xp,yC,yC,C1])
theorem ZC {a b:List Int}:enc (dec a*dec b:Zm M)=aY (Md.n M) (val a*val b*Md.rinv M%M) :=
 FR (by
  rw[rQ,yC,xq (dec a)];show zm (val b)*(zm (val a)*zm (Md.rinv M))=_
  rw[uC,uC,<- dz,gM (val b)])
theorem LH (n:Nat):aY n 0=replicate n 0:=by
 induction n with
 | zero=>rfl
 | succ n a=>simp[aY,a,oV]
theorem KQ:enc (0:Zm M)=replicate (Md.n M) 0:=by unfold enc;rw[show (0:Zm M)*R2=0 from Zm.ext (by rw[xr,uA];simp),uA,LH]
theorem aci {N:Int}:enc (zm N:Zm M)=aY (Md.n M) (N*pw (Md.n M)%M) :=
 FR (by unfold R2;rw[uC])
end
end Cr
theorem ae {p:Prop}(h:p:=by decide):p:=h
namespace Cr
def Mp:Int:=4002409555221667393417789825735904156556882819939007885332058136124031650490837864442687629129015664037894272559787
def Mr:Int:=52435875175126190479447740508185965837690552500527637822603658699938581184513
instance : Md Mp where
 n:=6
 rinv:=3231460744492646417066832100176244795738767926513225105051837195607029917124509527734802654356338138714468589979680
 gt:=ae
 I2:=ae
 inv:=ae
instance : Md Mr where
 n:=4
 rinv:=12549076656233958353659347336803947287922716146853412054870763148006372261952
 gt:=ae
 I2:=ae
 inv:=ae
abbrev Fp:=Zm Mp
abbrev Fr:=Zm Mr
abbrev Hq (a:Int):Fp:=zm a
abbrev jg (a:Int):Fr:=zm a
end Cr
open Go Go.RowKit Cr
namespace Go.Eng
inductive Kd where
 | int (k:IntKind)
 | bool
 | str
 | fp
 | fr
 | pair (a b:Kd)
 | arr (n:Nat) (e:Kd)
 | sl (e:Kd)
 | ptr (e:Kd)
 | fn (f:Nat)
 | cap (c e:Kd)
 | pq
 | mp
abbrev aH:Kd->Type
 | .int _=>Int
 | .bool=>Bool
 | .str=>ByteArray
 | .fp=>Fp
 | .fr=>Fr
 | .pair a b=>aH a × aH b
 | .arr _ e=>List (aH e)
 | .sl e=>List (aH e)
 | .ptr e=>aH e
 | .fn _=>Unit
 | .cap c e=>aH c × aH e
 | .pq=>Bool
 | .mp=>Unit
def width:Kd->Nat
 | .fp=>6
 | .fr=>4
 | .pair a b=>width a+width b
 | .arr n e=>n*width e
 | _=>1
def Kd.eq?:(a b:Kd)->Option (PLift (a=b))
 | .int k,.int l=>if h:k=l then some ⟨h▸rfl⟩ else none
 | .bool,.bool=>some ⟨rfl⟩
 | .str,.str=>some ⟨rfl⟩
 | .fp,.fp=>some ⟨rfl⟩
 | .fr,.fr=>some ⟨rfl⟩
 | .pair a b,.pair g i=>match a.eq? g,b.eq? i with
  | some ⟨h⟩,some ⟨d⟩=>some ⟨h▸d▸rfl⟩
  | _,_=>none
 | .arr n e,.arr m c=>if h:n=m then match e.eq? c with
  | some ⟨d⟩=>some ⟨h▸d▸rfl⟩
  | none=>none
  else none
 | .sl e,.sl c=>match e.eq? c with
  | some ⟨h⟩=>some ⟨h▸rfl⟩
  | none=>none
 | .ptr e,.ptr c=>match e.eq? c with
  | some ⟨h⟩=>some ⟨h▸rfl⟩
  | none=>none
 | .fn f,.fn j=>if h:f=j then some ⟨h▸rfl⟩ else none
 | .cap a b,.cap g i=>match a.eq? g,b.eq? i with
  | some ⟨h⟩,some ⟨d⟩=>some ⟨h▸d▸rfl⟩
  | _,_=>none
 | .pq,.pq=>some ⟨rfl⟩
 | .mp,.mp=>some ⟨rfl⟩
 | _,_=>none
def zeroOf:(e:Kd)->aH e
 | .int _=>(0:Int)
 | .bool=>false
 | .str=>ByteArray.empty
 | .fp=>(0:Fp)
 | .fr=>(0:Fr)
 | .pair a b=>(zeroOf a,zeroOf b)
 | .arr n e=>replicate n (zeroOf e)
 | .sl _=>[]
 | .ptr e=>zeroOf e
 | .fn _=>()
 | .cap c e=>(zeroOf c,zeroOf e)
 | .pq=>false
 | .mp=>()
abbrev Mem:=Nat->Option (List Value)
def Mem.le (M a:Mem):Prop:=∀ b l,M b=some l->a b=some l
def dX {α:Type} (R:α->List Value->Prop):List α->List Value->Prop
 | [],a=>a=[]
 | x::xs,a=>∃ b c,a=b++c/\R x b/\dX R xs c
def mw {d:Type} (R:d->List Value->Prop) (c:Nat) (M:Mem) (b o:Nat) (a:List d):Prop :=
 ∃ l,(l≠[]->M b=some l)/\o+a.length*c<=l.length/\dX R a ((l.drop o).take (a.length*c))
def Rd (M:Mem):(e:Kd)->aH e->List Value->Prop
 | .int k,x,h=>h=[Value.int k x]
 | .bool,x,h=>h=[Value.bool x]
 | .str,x,h=>h=[Value.string x]
 | .fp,x,h=>h=(enc (M:=Mp) x).map (Value.int .u64)
 | .fr,x,h=>h=(enc (M:=Mr) x).map (Value.int .u64)
 | .pair a b,x,h=>∃ m q,h=m++q/\Rd M a x.1 m/\Rd M b x.2 q
 | .arr n e,xs,h=>xs.length=n/\dX (Rd M e) xs h
 | .sl e,xs,h=>(xs=[]/\∃ a j,h=[Value.slice a 0 j]/\(a=none->j=0)) \/
  ∃ b o j,h=[Value.slice (some ⟨b,o,none⟩) xs.length j]/\xs.length<=j/\mw (Rd M e) (width e) M b o xs
 | .ptr e,x,h=>∃ b o,h=[Value.pointer (some ⟨b,o,none⟩)]/\mw (Rd M e) (width e) M b o [x]
 | .fn f,_,h=>h=[Value.func (.func f) ⟨[]⟩ ⟨[]⟩]
 | .cap c e,x,h=>∃ g l b o,h=[Value.func g ⟨[]⟩ ⟨l++[Value.pointer (some ⟨b,o,none⟩)]⟩]/\Rd M c x.1 [Value.func g ⟨[]⟩ ⟨l⟩]/\mw (Rd M e) (width e) M b o [x.2]
 | .pq,x,h=>∃ p,h=[Value.pointer p]/\p.isSome=x
 | .mp,_,h=>∃ b,h=[Value.map (some b)]/\M b=some []
theorem ee {f:Type} {R d:f->List Value->Prop} (h:∀ x a,R x a->d x a):∀ {b:List f} {a:List Value},dX R b a->dX d b a:=by
 intro b;induction b with
 | nil=>intro a j;exact j
 | cons x b k=>intro a ⟨l,m,e,g,i⟩;exact⟨l,m,e,h _ _ g,k i⟩
theorem dd {M F:Mem} (y:Mem.le M F):∀ {e:Kd} {x:aH e} {d:List Value},Rd M e x d->Rd F e x d:=by
 intro e;induction e with
 | int k=>intro x d h;exact h
 | bool=>intro x d h;exact h
 | str=>intro x d h;exact h
 | fp=>intro x d h;exact h
 | fr=>intro x d h;exact h
 | pair a b A C=>intro x d ⟨G,H,e,i,j⟩;exact⟨G,H,e,A i,C j⟩
 | arr n e w=>intro x d ⟨i,j⟩;exact⟨i,ee (fun _ _=>w) j⟩
 | sl e w =>intro x d h;rcases h with h|⟨b,o,cap,i,j,l,r,s,t⟩;exact .inl h;exact .inr ⟨b,o,cap,i,j,l,fun u=>y _ _ (r u),s,ee (fun _ _=>w) t⟩
 | ptr e w=>intro x d ⟨b,o,i,l,r,s,t⟩;exact⟨b,o,i,l,fun u=>y _ _ (r u),s,ee (fun _ _=>w) t⟩
 | fn f=>intro x d h;exact h
 | cap c e D E=>intro x d ⟨g,m,b,o,i,j,l,r,s,t⟩;exact⟨g,m,b,o,i,D j,l,fun u=>y _ _ (r u),s,ee (fun _ _=>E) t⟩
 | pq=>intro x d h;exact h
 | mp=>intro x d ⟨b,i,j⟩;exact⟨b,i,y _ _ j⟩
theorem fS {d:Type} {R:d->List Value->Prop} {c:Nat} (h:∀ x a,R x a->a.length=c):∀ {xs:List d} {a:List Value},dX R xs a->a.length=xs.length*c:=by
 intro xs;induction xs with
 | nil=>intro a j;have e:a=[]:=j;subst e;simp
 | cons x xs k=>intro a ⟨l,m,e,f,g⟩;subst e;simp[h _ _ f,k g,iV];omega
theorem b6 {M:Mem}:∀ {e:Kd} {x:aH e} {d:List Value},Rd M e x d->d.length=width e:=by
 intro e;induction e with
 | int k=>intro x d h;have e:d=_:=h;subst e;rfl
 | bool=>intro x d h;have e:d=_:=h;subst e;rfl
 | str=>intro x d h;have e:d=_:=h;subst e;rfl
 | fp=>intro x d h;have e:d=_:=h;subst e;rw[bZ];exact rE (M:=Mp) x
 | fr=>intro x d h;have e:d=_:=h;subst e;rw[bZ];exact rE (M:=Mr) x
 | pair a b q r=>intro x d ⟨y,z,e,j,l⟩;subst e;simp[q j,r l,width]
 | arr n e m=>intro x d ⟨j,l⟩;rw[fS (fun _ _=>m) l,j];rfl
 | sl e m =>intro x d h;rcases h with ⟨_,a,cap,e,_⟩|⟨b,o,cap,j,_⟩;subst e;rfl;subst j;rfl
 | ptr e m=>intro x d ⟨b,o,j,_⟩;subst j;rfl
 | fn f=>intro x d h;have e:d=_:=h;subst e;rfl
 | cap c e t u=>intro x d ⟨g,s,b,o,j,_⟩;subst j;rfl
 | pq=>intro x d ⟨p,j,_⟩;subst j;rfl
 | mp=>intro x d ⟨b,j,_⟩;subst j;rfl
theorem yq {d:Type} {R:d->List Value->Prop} {p:Value->Prop} (h:∀ x a,R x a->∀ v∈a,p v):∀ {xs:List d} {a:List Value},dX R xs a->∀ v∈a,p v:=by
 intro xs;induction xs with
 | nil=>intro a j;have e:a=[]:=j;subst e;intro v c;cases c
 | cons x xs k =>intro a ⟨l,m,e,f,i⟩ v c;subst e;rcases List.mem_append.1 c with g|g;exact h _ _ f v g;exact k i v g
theorem vp {M:Mem}:∀ {e:Kd} {x:aH e} {i:List Value},Rd M e x i->∀ v∈i,v.oneCell'=true:=by
 intro e;induction e with
 | int k=>intro x i h;have e:i=_:=h;subst e;intro v d;simp at d;subst d;rfl
 | bool=>intro x i h;have e:i=_:=h;subst e;intro v d;simp at d;subst d;rfl
 | str=>intro x i h;have e:i=_:=h;subst e;intro v d;simp at d;subst d;rfl
 | fp=>intro x i h;have e:i=_:=h;subst e;intro v d;obtain⟨y,_,rfl⟩:=mem_map.1 d;rfl
 | fr=>intro x i h;have e:i=_:=h;subst e;intro v d;obtain⟨y,_,rfl⟩:=mem_map.1 d;rfl
 | pair a b q r =>intro x i ⟨z,A,e,j,l⟩ v d;subst e;rcases List.mem_append.1 d with g|g;exact q j v g;exact r l v g
 | arr n e m=>intro x i ⟨j,l⟩;exact yq (fun _ _=>m) l
 | sl e m =>intro x i h;rcases h with ⟨_,a,cap,e,_⟩|⟨b,o,cap,j,_⟩;subst e;intro v d;simp at d;subst d;rfl;subst j;intro v d;simp at d;subst d;rfl
 | ptr e m=>intro x i ⟨b,o,j,_⟩;subst j;intro v d;simp at d;subst d;rfl
 | fn f=>intro x i h;have e:i=_:=h;subst e;intro v d;simp at d;subst d;rfl
 | cap c e t u=>intro x i ⟨g,s,b,o,j,_⟩;subst j;intro v d;simp at d;subst d;rfl
 | pq=>intro x i ⟨p,j,_⟩;subst j;intro v d;simp at d;subst d;rfl
 | mp=>intro x i ⟨b,j,_⟩;subst j;intro v d;simp at d;subst d;rfl
theorem zv {f:Type} {R:f->List Value->Prop}:∀ {xs c:List f} {b a:List Value},dX R xs b->dX R c a->dX R (xs++c) (b++a):=by
 intro xs;induction xs with
 | nil=>intro c b a h d;have e:b=[]:=h;subst e;exact d
 | cons x xs j=>intro c b a ⟨k,l,e,g,i⟩ d;subst e;exact⟨k,l++a,aw,g,j i d⟩
theorem gP {j:Type} {R:j->List Value->Prop} {c:Nat} (h:∀ x a,R x a->a.length=c):∀ (n:Nat) {xs:List j} {a:List Value},dX R xs a ->
  dX R (xs.take n) (a.take (n*c))/\dX R (xs.drop n) (a.drop (n*c)):=by
 intro n;induction n with
 | zero=>intro xs a d;rw[jm];exact⟨rfl,d⟩
 | succ n l =>
  intro xs a d;cases xs with
  | nil=>have e:a=[]:=d;subst e;rw[List.take_nil,List.drop_nil,List.take_nil,List.drop_nil];exact⟨rfl,rfl⟩
  | cons x xs =>obtain⟨m,o,e,f,k⟩:=d;have g:=h _ _ f;subst e;obtain⟨g1,g2⟩:=l k;rw[iV,oN (n*c),<- g,List.take_length_add_append,List.drop_length_add_append];rw[<- g] at g1 g2;exact⟨⟨m,_,rfl,f,g1⟩,g2⟩
theorem yr {f:Type} {R:f->List Value->Prop} {c:Nat} (h:∀ x a,R x a->a.length=c) {b:List f} {a:List Value} (l:dX R b a) {i:Nat} (k:i<b.length) (d:f) :
  R (b.getD i d) ((a.drop (i*c)).take c):=by
 have j:=(gP h i l).2;rw[lW k] at j;obtain⟨o,q,e,g,m⟩:=j;rw[e,<- h _ _ g];simp[bu k];exact g
theorem pC {b:Type} {R:b->List Value->Prop} {x:b} {a:List Value} (h:R x a):dX R [x] a:=⟨a,[],aw,h,rfl⟩
theorem nZ {b:Type} {R:b->List Value->Prop} {x:b} {a:List Value} (h:dX R [x] a):R x a:=by obtain⟨i,g,e,d,f⟩:=h;have c:g=[]:=f;subst c;subst e;simpa using d
theorem NO {k:Type} {R:k->List Value->Prop} {c:Nat} (h:∀ x a,R x a->a.length=c) {xs d:List k} {a e:List Value} (g:dX R xs a) (j:dX R d e) (i:Nat) :
  dX R (xs.take i++(d++xs.drop (i+d.length))) (a.take (i*c)++(e++a.drop (i*c+e.length))):=by
 have m:=fS h j;have l:=(gP h i g).1;have f:=(gP h (i+d.length) g).2;rw[ff,<- m] at f;exact zv l (zv j f)
theorem vb {M:Mem} {k:IntKind}:∀ {xs:List Int} {a:List Value},dX (Rd M (.int k)) xs a↔a=xs.map (Value.int k):=by
 intro xs;induction xs with
 | nil=>intro a;exact kC
 | cons x xs c =>intro a;constructor;rintro⟨g,h,e,f,b⟩;have d:g=[Value.int k x]:=f;rw[c] at b;subst e d b;rfl;rintro rfl;exact⟨[Value.int k x],xs.map (Value.int k),rfl,rfl,c.2 rfl⟩
def im:Kd->List Value
 | .int k=>[.int k 0]
 | .bool=>[.bool false]
 | .str=>[.string ByteArray.empty]
 | .fp=>replicate 6 (.int .u64 0)
 | .fr=>replicate 4 (.int .u64 0)
 | .pair a b=>im a++im b
 | .arr n e=>(replicate n (im e)).flatten
 | .sl _=>[.slice none 0 0]
 | .fn f=>[.func (.func f) ⟨[]⟩ ⟨[]⟩]
 | _=>[.pointer none]
def zk:Kd->Bool
 | .pair a b=>zk a&&zk b
 | .arr _ e=>zk e
 | .ptr _ | .fn _ | .cap _ _ | .mp=>false
 | _=>true
theorem yt {M:Mem}:∀ {e:Kd},zk e=true->Rd M e (zeroOf e) (im e):=by
 intro e;induction e with
 | int k=>intro _;exact rfl
 | bool=>intro _;exact rfl
 | str=>intro _;exact rfl
 | fp=>intro _;show _=(enc (M:=Mp) (0:Fp)).map _;rw[KQ];rfl
 | fr=>intro _;show _=(enc (M:=Mr) (0:Fr)).map _;rw[KQ];rfl
 | pair a b g i=>intro h;simp only[zk,aX] at h;exact⟨_,_,rfl,g h.1,i h.2⟩
 | arr n e d =>
  intro l;have d:=d l;clear l;refine⟨oT,?_⟩;show dX _ (replicate n (zeroOf e)) (replicate n (im e)).flatten;induction n with
  | zero=>exact rfl
  | succ n j=>exact⟨_,_,rfl,d,j⟩
 | sl e d=>intro _;exact .inl ⟨rfl,none,0,rfl,fun _=>rfl⟩
 | ptr e d=>intro h;simp[zk] at h
 | fn f=>intro h;simp[zk] at h
 | cap c e m o=>intro h;simp[zk] at h
 | pq=>intro _;exact⟨none,rfl,rfl⟩
 | mp=>intro h;simp[zk] at h
def Cg:Value->Value->Bool
 | .int k n,.int c m=>decide (k=c)&&decide (n=0)&&decide (m=0)
 | .bool false,.bool false=>true
 | .string a,.string b=>beq a.size 0&&beq b.size 0
 | .slice none 0 0,.slice none 0 0=>true
 | _,_=>false
def nB:List Value->List Value->Bool
 | [],[]=>true
 | a::c,b::d=>Cg a b&&nB c d
 | _,_=>false
theorem JK {a:ByteArray} (h:a.size=0):a=ByteArray.empty:=by
 cases a with
 | mk d =>have:d.size=0:=h;have:=A8 this;subst this;rfl
theorem Ly {a b:Value} (h:Cg a b=true):a=b:=by unfold Cg at h;split at h;simp at h;obtain⟨⟨rfl,rfl⟩,rfl⟩:=h;rfl;rfl;simp only[aX] at h;rw[JK (fa h.1),JK (fa h.2)];rfl;cases h
theorem AV:∀ {a b:List Value},nB a b=true->a=b:=by
 intro a;induction a with
 | nil=>intro b h;cases b with
  | nil=>rfl
  | cons _ _=>simp[nB] at h
 | cons x a c=>intro b h;cases b with
  | nil=>simp[nB] at h
  | cons y b=>simp[nB] at h;rw[Ly h.1,c h.2]
def qh:Kd->Bool
 | .int _ | .fp | .fr=>true
 | .pair a b=>qh a&&qh b
 | .arr _ e=>qh e
 | _=>false
abbrev IV:=IntKind × Int
def iv (p:IV):Value:=.int p.1 p.2
def fl:(e:Kd)->aH e->List IV
 | .int k,x=>[(k,x)]
 | .fp,x=>(enc (M:=Mp) x).map fun a=>(.u64,a)
 | .fr,x=>(enc (M:=Mr) x).map fun a=>(.u64,a)
 | .pair a b,x=>fl a x.1++fl b x.2
 | .arr _ e,c=>(c.map (fl e)).flatten
 | _,_=>[]
def kl:Kd->List IntKind
 | .int k=>[k]
 | .fp=>replicate 6 .u64
 | .fr=>replicate 4 .u64
 | .pair a b=>kl a++kl b
 | .arr n e=>(replicate n (kl e)).flatten
 | _=>[]
theorem C4 {M:Mem}:∀ {e:Kd} {x:aH e} {c:List Value},qh e=true->Rd M e x c->c=(fl e x).map iv/\(fl e x).map Prod.fst=kl e:=by
 intro e;induction e with
 | int z=>intro x c _ h;exact⟨h,rfl⟩
 | fp =>intro x c _ h;have g:=b6 (e:=.fp) h;have h:c=(enc (M:=Mp) x).map (Value.int .u64):=h;rw[h,bZ] at g;refine⟨by rw[h];simp only[fl,lC];rfl,?_⟩;simp only[fl,lC,tM,List.map_const',g,kl,width]
 | fr =>intro x c _ h;have g:=b6 (e:=.fr) h;have h:c=(enc (M:=Mr) x).map (Value.int .u64):=h;rw[h,bZ] at g;refine⟨by rw[h];simp only[fl,lC];rfl,?_⟩;simp only[fl,lC,tM,List.map_const',g,kl,width]
 | pair a b i j =>intro x c d ⟨y,q,e,k,l⟩;simp[qh] at d;rw[e,(i d.1 k).1,(j d.2 l).1];exact⟨by simp[fl],by simp[fl,kl,(i d.1 k).2,(j d.2 l).2]⟩
 | arr n e r =>
  intro f c d ⟨k,l⟩;have d:qh e=true:=d;have m:∀ (f:List (aH e)) (c:List Value),dX (Rd M e) f c->c=((f.map (fl e)).flatten).map iv/\((f.map (fl e)).flatten).map Prod.fst=(replicate f.length (kl e)).flatten:=by
   intro f;induction f with
   | nil=>intro c h;exact⟨h,rfl⟩
   | cons x f o =>intro c ⟨y,q,e,g1,g2⟩;obtain⟨s,t⟩:=r d g1;obtain⟨u,w⟩:=o q g2;refine⟨by rw[e,s,u];simp,?_⟩;rw[eI,tN,di,t,w,bN,oV,tN]
  have:=m f c l;rw[show length (α:=aH e) f=n from k] at this;exact this
 | _=>intro x c d;simp[qh] at d
theorem acx {M:Mem}:∀ {e:Kd} {x y:aH e} {f d:List Value},qh e=true->Rd M e x f->Rd M e y d->fl e x=fl e y->x=y:=by
 intro e;have j:∀ {l m:List Int},l.map (fun a=>(IntKind.u64,a))=m.map (fun a=>(IntKind.u64,a))->l=m:=fun h=>List.map_inj_right (fun _ _ h=>(Prod.mk.inj h).2) |>.1 h;induction e with
 | int R=>intro x y f d c _ _ h;simp[fl] at h;exact h
 | fp=>intro x y f d c _ _ h;exact Og (M:=Mp) (j h)
 | fr=>intro x y f d c _ _ h;exact Og (M:=Mr) (j h)
 | pair a b u w =>intro x y f d c ⟨Q,E,F,o,t⟩ ⟨O,D,G,g1,g2⟩ h;simp[qh] at c;have k:=congrArg length ((C4 c.1 o).2.trans (C4 c.1 g1).2.symm);simp only[bZ] at k;simp only[fl] at h;obtain⟨r,A⟩:=List.append_inj h k;exact gm (u c.1 o g1 r) (w c.2 t g2 A)
 | arr n e I =>
  intro i g f d c ⟨o,t⟩ ⟨g1,g2⟩ h;have c:qh e=true:=c;have s:∀ (i g:List (aH e)) (f d:List Value),dX (Rd M e) i f->dX (Rd M e) g d->i.length=g.length->(i.map (fl e)).flatten=(g.map (fl e)).flatten->i=g:=by
   intro i;induction i with
   | nil=>intro g f d _ _ q _;cases g with
    | nil=>rfl
    | cons _ _=>simp at q
   | cons x i z =>
    intro g f d ⟨Q,E,F,r,A⟩ H q h;cases g with
    | nil=>simp at q
    | cons y g =>obtain⟨O,D,G,C,N⟩:=H;have k:=congrArg length ((C4 c r).2.trans (C4 c C).2.symm);simp only[bZ] at k;simp only[eI,tN] at h;obtain⟨K,L⟩:=List.append_inj h k;rw[I c r C K,z g E D A N (by simpa using q) L]
  exact s i g f d t g2 (by rw[o,g1]) h
 | _=>intro x y f d c;simp[qh] at c
def KX {a:Type} (f:a->a->Bool):List a->List a->Bool
 | [],[]=>true
 | x::b,y::c=>f x y&&KX f b c
 | _,_=>false
def jI:(e:Kd)->aH e->aH e->Bool
 | .int _,x,y=>decide ((x:Int)=y)
 | .bool,x,y=>decide ((x:Bool)=y)
 | .str,x,y=>decide ((x:ByteArray)=y)
 | .fp,x,y=>decide ((x:Fp)=y)
 | .fr,x,y=>decide ((x:Fr)=y)
 | .pair a b,x,y=>jI a x.1 y.1&&jI b x.2 y.2
 | .arr _ e,d,f=>KX (jI e) d f
 | .sl e,d,f=>KX (jI e) d f
 | .ptr e,x,y=>jI e x y
 | .fn _,_,_=>true
 | .cap c e,x,y=>jI c x.1 y.1&&jI e x.2 y.2
 | .pq,x,y=>decide ((x:Bool)=y)
 | .mp,_,_=>true
theorem Ol {c:Type} {f:c->c->Bool} (h:∀ x y,f x y=true↔x=y):∀ (b a:List c),KX f b a=true↔b=a:=by
 intro b;induction b with
 | nil=>intro a;cases a<;>simp[KX]
 | cons x b d=>intro a;cases a with
  | nil=>simp[KX]
  | cons y a=>simp[KX,h,d]
theorem qU:∀ {e:Kd} (x y:aH e),jI e x y=true↔x=y:=by
 intro e;induction e with
 | int k=>intro x y;exact hX
 | bool=>intro x y;exact hX
 | str=>intro x y;exact hX
 | fp=>intro x y;exact hX
 | fr=>intro x y;exact hX
 | pair a b j m=>intro x y;simp only[jI,aX,j,m];exact⟨fun ⟨g,i⟩=>gm g i,fun h=>by rw[h];exact⟨rfl,rfl⟩⟩
 | arr n e d=>intro x y;exact Ol d x y
 | sl e d=>intro x y;exact Ol d x y
 | ptr e d=>intro x y;exact d x y
 | fn f=>intro x y;exact⟨fun _=>rfl,fun _=>rfl⟩
 | cap c e o q=>intro x y;simp only[jI,aX,o,q];exact⟨fun ⟨g,i⟩=>gm g i,fun h=>by rw[h];exact⟨rfl,rfl⟩⟩
 | pq=>intro x y;exact hX
 | mp=>intro x y;exact⟨fun _=>rfl,fun _=>rfl⟩
def Wn (f:TypeId->Option Kd):List Field->Option Kd
 | []=>none
 | [x]=>match f x.type with
  | some (.arr 6 (.int .u64))=>some .fp
  | some (.arr 4 (.int .u64))=>some .fr
  | _=>none
 | x::r=>match f x.type,kdTail f r with
  | some a,some b=>some (.pair a b)
  | _,_=>none
where
 kdTail (f:TypeId->Option Kd):List Field->Option Kd
  | []=>none
  | [x]=>f x.type
  | x::r=>match f x.type,kdTail f r with
   | some a,some b=>some (.pair a b)
   | _,_=>none
def EJ (P:Program):Nat->TypeId->Option Kd
 | 0,_=>none
 | d+1,t=>match P.underlying t with
  | some (.int k)=>some (.int k)
  | some .bool=>some .bool
  | some .string=>some .str
  | some (.array n e)=>match EJ P d e with
   | some a=>some (.arr n a)
   | none=>none
  | some (.slice e)=>match EJ P d e with
   | some a=>some (.sl a)
   | none=>none
  | some (.struct b)=>Wn (EJ P d) b.toList
  | _=>none
inductive Cell where
 | v (x:Value)
 | T
 | F
 | ints (k:IntKind) (n:Nat) (xs:List Int)
 | row (e:Kd) (n:Nat) (xs:List (aH e))
 | ptr (id off:Nat)
 | pe (id base i c:Nat)
 | sl (id base off len c:Nat)
 | ro (e:Kd) (xs:List (aH e))
 | rp (e:Kd) (xs:List (aH e)) (i off:Nat)
 | fv (e:Kd) (x:aH e)
 | clo (f:Nat) (ids:List Nat)
 | rn (e:Kd) (xs:List (aH e))
 | junk
inductive TV where
 | one (c:Cell)
 | agg (cs:List Cell)
inductive SV where
 | is (x:TV)
 | tup (l:List TV)
 | undef
 | junk
structure aC where
 m:Nat->Option Nat
 n:Nat->Nat
 M:Mem
instance : CoeFun aC (fun _ => Nat -> Option Nat) := ⟨aC.m⟩
def Cell.size:Cell->Nat
 | .ints _ n _=>n
 | .row e n _=>n*width e
 | _=>1
def iq (d:aC):List Nat->List Value->Prop
 | [],a=>a=[]
 | i::l,a=>∃ b c,d i=some b/\iq d l c/\a=c++[.pointer (some ⟨b,0,none⟩)]
def Cell.rel (ρ:aC):Cell->List Value->Prop
 | .v x,d=>d=[x]/\x.oneCell'=true
 | .T,d=>d=[.bool true]
 | .F,d=>d=[.bool false]
 | .ints k n g,d=>g.length=n/\d=g.map (Value.int k)
 | .row e n g,d=>g.length=n/\dX (Rd ρ.M e) g d
 | .ptr id off,d=>∃ b,ρ id=some b/\d=[.pointer (some ⟨b,off,none⟩)]
 | .pe id base i c,d=>∃ b,ρ id=some b/\d=[.pointer (some ⟨b,base+i*c,none⟩)]
 | .sl id base off len c,d=>(len=0/\d=[.slice none 0 0]) \/
  ∃ b o h,ρ id=some b/\len<=h/\(o=base+off*c\/h=0)/\o+h*c<=ρ.n id/\d=[.slice (some ⟨b,o,none⟩) len h]
 | .ro e g,d=>Rd ρ.M (.sl e) g d
 | .rp e g i off,d=>∃ b o,mw (Rd ρ.M e) (width e) ρ.M b o g/\i<g.length/\d=[.pointer (some ⟨b,o+(i*width e+off),none⟩)]
 | .fv e x,d=>Rd ρ.M e x d/\d.length=1
 | .clo f l,d=>∃ j,iq ρ l j/\d=[.func (.func f) ⟨[]⟩ ⟨j⟩]
 | .rn e g,d=>Rd ρ.M (.sl e) g d/\∃ a n c,d=[.slice (some a) n c]
 | .junk,d=>∃ x,d=[x]/\x.oneCell'=true
def az (ρ:aC):List Cell->List Value->Prop
 | [],a=>a=[]
 | c::cs,a=>∃ b d,a=b++d/\c.rel ρ b/\az ρ cs d
def cF:List Cell->Nat
 | []=>0
 | c::a=>c.size+cF a
def TV.cells:TV->List Cell
 | .one c=>[c]
 | .agg a=>a
def TV.rel (ρ:aC):TV->Value->Prop
 | .one c,v=>c.rel ρ [v]
 | .agg a,v=>∃ l,v=.agg ⟨l⟩/\az ρ a l
def eP (c:aC):List TV->List Value->Prop
 | [],a=>a=[]
 | t::d,a=>∃ x b,a=x::b/\t.rel c x/\eP c d b
def SV.rel (ρ:aC):SV->Value->Prop
 | .is x,v=>x.rel ρ v
 | .tup l,v=>∃ a,v=.tuple ⟨a⟩/\eP ρ l a
 | .undef,v=>v=Go.undef
 | .junk,_=>True
structure aC.le (ρ ρ':aC):Prop where
 id:∀ id b,ρ id=some b->ρ' id=some b/\ρ'.n id=ρ.n id
 mem:Mem.le ρ.M ρ'.M
theorem Mem.le_refl (M:Mem):Mem.le M M:=fun _ _ h=>h
theorem aC.le_refl (ρ:aC):aC.le ρ ρ:=⟨fun _ _ h=>⟨h,rfl⟩,Mem.le_refl _⟩
theorem aC.le_trans {a b c:aC} (h:aC.le a b) (k:aC.le b c):aC.le a c :=
 ⟨fun _ _ e=>⟨(k.id _ _ (h.id _ _ e).1).1,((k.id _ _ (h.id _ _ e).1).2).trans (h.id _ _ e).2⟩,fun _ _ e=>k.mem _ _ (h.mem _ _ e)⟩
theorem ko {e:Kd} {M a:Mem} (h:Mem.le M a) {b o:Nat} {c:List (aH e)} (j:mw (Rd M e) (width e) M b o c):mw (Rd a e) (width e) a b o c:=by obtain⟨l,d,f,g⟩:=j;exact⟨l,fun i=>h _ _ (d i),f,ee (fun _ _=>dd h) g⟩
theorem KH {d a:aC} (h:aC.le d a):∀ {l:List Nat} {c:List Value},iq d l c->iq a l c:=by
 intro l;induction l with
 | nil=>intro c k;exact k
 | cons i l m=>intro c ⟨b,n,f,g,j⟩;exact⟨b,n,(h.id _ _ f).1,m g,j⟩
theorem Cell.fh {ρ ρ':aC} (h:aC.le ρ ρ') {c:Cell} {t:List Value} (a:c.rel ρ t):c.rel ρ' t:=by
 cases c with
 | ptr id q=>obtain⟨b,d,e⟩:=a;exact⟨b,(h.id _ _ d).1,e⟩
 | pe id g i c=>obtain⟨b,d,e⟩:=a;exact⟨b,(h.id _ _ d).1,e⟩
 | sl id g q len c =>rcases a with a|⟨b,o,s,d,j,m,u,e⟩;exact .inl a;exact .inr ⟨b,o,s,(h.id _ _ d).1,j,m,by rw[(h.id _ _ d).2];exact u,e⟩
 | row e n r=>exact⟨a.1,ee (fun _ _=>dd h.mem) a.2⟩
 | ro e r=>exact dd (e:=.sl e) h.mem a
 | rp e r i q=>obtain⟨b,o,j,m⟩:=a;exact⟨b,o,ko h.mem j,m⟩
 | fv e x=>exact⟨dd h.mem a.1,a.2⟩
 | clo f l=>obtain⟨w,j,m⟩:=a;exact⟨w,KH h j,m⟩
 | rn e r=>exact⟨dd (e:=.sl e) h.mem a.1,a.2⟩
 | v x=>exact a
 | T=>exact a
 | F=>exact a
 | ints k n r=>exact a
 | junk=>exact a
theorem dU {ρ ρ':aC} (h:aC.le ρ ρ') {a:List Cell}:∀ {b:List Value},az ρ a b->az ρ' a b:=by
 induction a with
 | nil=>intro b d;exact d
 | cons c a i=>intro b d;obtain⟨j,k,e,f,g⟩:=d;exact⟨j,k,e,Cell.fh h f,i g⟩
theorem TV.fh {ρ ρ':aC} (h:aC.le ρ ρ') {x:TV} {v:Value} (a:x.rel ρ v):x.rel ρ' v:=by
 cases x with
 | one c=>exact Cell.fh h a
 | agg d=>obtain⟨l,e,b⟩:=a;exact⟨l,e,dU h b⟩
theorem NM {d a:aC} (h:aC.le d a) {l:List TV}:∀ {b:List Value},eP d l b->eP a l b:=by
 induction l with
 | nil=>intro b c;exact c
 | cons t k i=>intro b c;obtain⟨x,j,e,f,g⟩:=c;exact⟨x,j,e,TV.fh h f,i g⟩
theorem SV.fh {ρ ρ':aC} (h:aC.le ρ ρ') {x:SV} {v:Value} (a:x.rel ρ v):x.rel ρ' v:=by
 cases x with
 | is x=>exact TV.fh h a
 | tup l=>obtain⟨c,e,b⟩:=a;exact⟨c,e,NM h b⟩
 | undef=>exact a
 | junk=>trivial
theorem Cell.An {t:aC} {c:Cell} {h:List Value} (a:c.rel t h):h.length=c.size:=by
 cases c with
 | ints k n j=>obtain⟨m,q⟩:=a;subst q;simpa[Cell.size] using m
 | row e n j=>obtain⟨m,q⟩:=a;rw[fS (fun _ _=>b6) q,m];rfl
 | ptr id g=>obtain⟨b,r,e⟩:=a;subst e;rfl
 | pe id d i c=>obtain⟨b,r,e⟩:=a;subst e;rfl
 | sl id d g len c=>rcases a with ⟨_,e⟩|⟨b,o,s,r,_,_,_,e⟩<;>(subst e;rfl)
 | ro e j=>exact b6 (e:=.sl e) a
 | rp e j i g=>obtain⟨b,o,_,_,e⟩:=a;subst e;rfl
 | fv e x=>exact a.2
 | clo f l=>obtain⟨u,_,e⟩:=a;subst e;rfl
 | rn e j=>exact b6 (e:=.sl e) a.1
 | junk=>obtain⟨x,e,_⟩:=a;subst e;rfl
 | v x=>obtain⟨e,_⟩:=a;subst e;rfl
 | T=>have e:h=_:=a;subst e;rfl
 | F=>have e:h=_:=a;subst e;rfl
theorem gp {ρ:aC} {b:List Cell}:∀ {a:List Value},az ρ b a->a.length=cF b:=by
 induction b with
 | nil=>intro a d;have e:a=[]:=d;subst e;rfl
 | cons c b h=>intro a d;obtain⟨i,j,e,f,g⟩:=d;subst e;simp[Cell.An f,h g,cF]
theorem Cell.Is {u:aC} {c:Cell} {m:List Value} (d:c.rel u m):∀ x∈m,x.oneCell'=true:=by
 cases c with
 | ints k n q =>obtain⟨w,t⟩:=d;subst t;intro x a;obtain⟨y,_,rfl⟩:=mem_map.1 a;rfl
 | row e n q=>exact yq (fun _ _=>vp) d.2
 | ptr id j=>obtain⟨b,r,e⟩:=d;subst e;intro x a;simp at a;subst a;rfl
 | pe id g i c=>obtain⟨b,r,e⟩:=d;subst e;intro x a;simp at a;subst a;rfl
 | sl id g j len c=>rcases d with ⟨_,e⟩|⟨b,o,s,r,_,_,_,e⟩<;>(subst e;intro x a;simp at a;subst a;rfl)
 | ro e q=>exact vp (e:=.sl e) d
 | rp e q i j=>obtain⟨b,o,_,_,e⟩:=d;subst e;intro x a;simp at a;subst a;rfl
 | fv e x=>exact vp d.1
 | clo f l=>obtain⟨z,_,e⟩:=d;subst e;intro x a;simp at a;subst a;rfl
 | rn e q=>exact vp (e:=.sl e) d.1
 | junk=>obtain⟨y,e,h⟩:=d;subst e;intro x a;simp at a;subst a;exact h
 | v y=>obtain⟨e,h⟩:=d;subst e;intro x a;simp at a;subst a;exact h
 | T=>have e:m=_:=d;subst e;intro x a;simp at a;subst a;rfl
 | F=>have e:m=_:=d;subst e;intro x a;simp at a;subst a;rfl
theorem BL {k:aC} {b:List Cell}:∀ {a:List Value},az k b a->∀ x∈a,x.oneCell'=true:=by
 induction b with
 | nil=>intro a d x f;have e:a=[]:=d;subst e;cases f
 | cons c b j =>intro a d x f;obtain⟨l,m,e,g,i⟩:=d;subst e;rcases List.mem_append.1 f with h|h;exact Cell.Is g x h;exact j i x h
theorem gn {i:aC} {f j:List Cell}:∀ {d a:List Value},az i f d->az i j a->az i (f++j) (d++a):=by
 induction f with
 | nil=>intro d a g h;have e:d=[]:=g;subst e;exact h
 | cons c f m =>intro d a g h;obtain⟨n,o,e,k,l⟩:=g;subst e;exact⟨n,o++a,aw,k,m l h⟩
theorem TV.xA {d:aC} {x:TV} {v:Value} (a:x.rel d v):∃ l,v.cells=⟨l⟩/\az d x.cells l:=by
 cases x with
 | one c =>have b:=Cell.Is (c:=c) a v aw;refine⟨[v],?_,[v],[],aw,a,rfl⟩;cases v<;>simp_all [Value.cells,Value.oneCell']
 | agg g=>obtain⟨l,e,f⟩:=a;subst e;exact⟨l,rfl,f⟩
def nF:List Value->TypeId->Nat × Nat->Obj
 | [],t,_=>.map #[] t
 | v::l,t,fr=>.cells ⟨v::l⟩ t fr
theorem yf {l:List Value} (h:l≠[]) (t:TypeId) (fr:Nat × Nat):nF l t fr=.cells ⟨l⟩ t fr:=by
 cases l with
 | nil=>exact absurd rfl h
 | cons v l=>rfl
def ca (w:World) (b n:Nat) (l:List Value):Prop :=
 ∃ (a:List Value) (c:TypeId) (fr:Nat × Nat),w.heap[b]?=some (.cells ⟨l++a⟩ c fr)/\(l++a).length=n/\(fr=(0,0)\/n<=fr.1)
abbrev cJ:=Nat->SV
abbrev bE:=Nat->Option (List Cell)
structure cD where
 w:World
 ids:List (Nat × Nat)
 gl:Nat->Option (Sigma aH):=fun _=>none
 M:Mem:=fun _=>none
 num:Nat × Nat->Nat
 top:Nat
def c4 (w:World) (b:Nat):Nat:=match w.heap[b]? with
 | some (.cells c _ _)=>c.size
 | _=>0
def cD.own (W:cD) (b:Nat):Bool:=W.ids.any fun p=>p.2==b
def cD.a6 (W:cD) (b:Nat):Prop:=W.w.heap.size<=b\/W.own b=true
structure kZ (W:cD) (w:World):Prop where
 os:w.os=W.w.os
 tape:w.tape=W.w.tape
 output:w.output=W.w.output
 size:W.w.heap.size<=w.heap.size
 block:∀ k,k<W.w.heap.size->W.own k=false->w.heap[k]?=W.w.heap[k]?
theorem kZ.refl (W:cD):kZ W W.w:=⟨rfl,rfl,rfl,aI _,fun _ _ _=>rfl⟩
theorem kZ.drew {W:cD} {w:World} (h:kZ W w):kZ W { w with drawn:=w.drawn+1 }:=⟨h.os,h.tape,h.output,h.size,h.block⟩
theorem kZ.below {W:cD} {w:World} (h:kZ W w) (e:W.ids=[]):Below W.w.heap.size W.w w :=
 ⟨h.os,h.tape,h.output,h.size,fun k d=>h.block k d (by simp[cD.own,e])⟩
theorem ca.lt {w:World} {b n:Nat} {l:List Value} (h:ca w b n l):b<w.heap.size:=by obtain⟨a,c,fr,h,_⟩:=h;rcases bS b w.heap.size with h'|h';exact h';simp[ef h'] at h
theorem ca.cell {w:World} {b n:Nat} {l:List Value} (h:ca w b n l) {i:Nat} {x:Value} (a:l[i]?=some x):w.cell? ⟨b,i,none⟩=some x:=by
 obtain⟨c,e,fr,h,_⟩:=h;simp only[World.cell?,h];have d:i<l.length:=by rcases bS i l.length with h'|h';exact h';simp[dN h'] at a
 simp[oS d,a]
theorem ca.frozen {w:World} {b n:Nat} {l:List Value} (h:ca w b n l) {i:Nat} (d:i<n):w.frozen? ⟨b,i,none⟩=false:=by obtain⟨a,c,fr,h,_,hf⟩:=h;simp only[World.frozen?,h];rcases hf with rfl|hf;simp;simp;omega
theorem ca.len {w:World} {b n:Nat} {l:List Value} (h:ca w b n l):l.length<=n:=by obtain⟨f,g,fr,_,h,_⟩:=h;simp at h;omega
def xT (n:Nat):List Int:=replicate n 0
structure Out where
 val:SV
 new:List (Nat × List Cell):=[]
 wr:List (Nat × List Cell):=[]
 pre:List Prop:=[]
abbrev Spec:=cD->Nat->List SV->bE->Option Out
def BB:Nat->Nat->Nat
 | 0,n=>n
 | m+1,n=>m+1+n
theorem Hv (m n:Nat):BB m n=m+n:=by cases m<;>simp[BB]
abbrev Qa:=(e:Kd) × Nat × List (aH e)
def k8:Cell->Option Qa
 | .ints k n a=>some ⟨.int k,n,a⟩
 | .row e n a=>some ⟨e,n,a⟩
 | _=>none
def jk:(e:Kd)->Nat->List (aH e)->Cell
 | .int k,n,xs=>.ints k n xs
 | e,n,xs=>.row e n xs
def cellsOf:(e:Kd)->aH e->List Cell
 | .int k,x=>[.v (.int k x)]
 | .bool,x=>[.v (.bool x)]
 | .str,x=>[.v (.string x)]
 | .fp,x=>[.row .fp 1 [x]]
 | .fr,x=>[.row .fr 1 [x]]
 | .pair a b,x=>cellsOf a x.1++cellsOf b x.2
 | .arr n e,xs=>[jk e n xs]
 | .sl e,xs=>[.ro e xs]
 | .ptr e,x=>[.rp e [x] 0 0]
 | .fn f,_=>[.v (.func (.func f) ⟨[]⟩ ⟨[]⟩)]
 | .cap c e,x=>[.fv (.cap c e) x]
 | .pq,x=>[.fv .pq x]
 | .mp,x=>[.fv .mp x]
def zeroCells:Kd->List Cell
 | .int k=>[.v (.int k 0)]
 | .bool=>[.F]
 | .str=>[.v (.string ByteArray.empty)]
 | .fp=>[.row .fp 1 [(0:Fp)]]
 | .fr=>[.row .fr 1 [(0:Fr)]]
 | .pair a b=>zeroCells a++zeroCells b
 | .arr n e=>[jk e n (replicate n (zeroOf e))]
 | .sl _=>[.v (.slice none 0 0)]
 | .fn f=>[.v (.func (.func f) ⟨[]⟩ ⟨[]⟩)]
 | _=>[.v (.pointer none)]
def fO:List Cell->Nat->Option (List Cell × List Cell)
 | cs,0=>some ([],cs)
 | [],_+1=>none
 | c::cs,n+1=>match k8 c with
  | some ⟨e,m,d⟩=>match blt (n+1) (m*width e) with
   | true=>match beq ((n+1)/width e*width e) (n+1) with
    | true=>some ([jk e ((n+1)/width e) (d.take ((n+1)/width e))],jk e (m-(n+1)/width e) (d.drop ((n+1)/width e))::cs)
    | false=>none
   | false=>match fO cs (n+1-m*width e) with
    | some (a,b)=>some (c::a,b)
    | none=>none
  | none=>match fO cs n with
   | some (a,b)=>some (c::a,b)
   | none=>none
def mj (b:List Cell) (a n:Nat):Option (List Cell) :=
 match fO b a with
 | some (_,r)=>match fO r n with
  | some (m,_)=>some m
  | none=>none
 | none=>none
def wh:List Cell->Nat->Option (List Cell × Qa × Nat × List Cell)
 | [],_=>none
 | c::d,b=>match k8 c with
  | some s=>match blt b (width s.1) with
   | true=>some ([],s,b,d)
   | false=>match blt b (s.2.1*width s.1) with
    | true=>some ([],s,b,d)
    | false=>match wh d (b-s.2.1*width s.1) with
     | some (a,e,q,r)=>some (c::a,e,q,r)
     | none=>none
  | none=>match b with
   | 0=>none
   | b+1=>match wh d b with
    | some (a,e,q,r)=>some (c::a,e,q,r)
    | none=>none
def E3 (e:List Cell) (d:Nat) (c:List Cell):Option (List Cell) :=
 match fO e d with
 | some (a,r)=>match fO r (cF c) with
  | some (_,b)=>some (a++(c++b))
  | none=>none
 | none=>none
def om {a b:Kd} (h:a=b) (c:List (aH a)):List (aH b):=h▸c
def FG {a b:Kd} (h:a=b) (x:aH a):aH b:=h▸x
def tx (e:Kd):List Cell->Option (aH e × List Cell)
 | []=>none
 | c::r=>match k8 c with
  | some ⟨d,n,f⟩=>match d.eq? e with
   | some ⟨h⟩=>match n with
    | 0=>none
    | 1=>some (FG h (f.getD 0 (zeroOf d)),r)
    | m+2=>some (FG h (f.getD 0 (zeroOf d)),jk d (m+1) (f.drop 1)::r)
   | none=>none
  | none=>none
def F7 (e:Kd) (d:List Cell):Option (aH e × List Prop × List Cell):=match tx e d with
 | some (x,r)=>some (x,[],r)
 | none=>none
def ml (k:IntKind):List Cell->Nat->Option (List Int × List Cell)
 | cs,0=>some ([],cs)
 | [],_+1=>none
 | .ints d n c::r,m+1=>match decide (d=k) with
  | true=>match beq n (m+1) with
   | true=>some (c,r)
   | false=>match blt (m+1) n with
    | true=>some (c.take (m+1),.ints d (n-(m+1)) (c.drop (m+1))::r)
    | false=>match ml k r (m+1-n) with
     | some (f,e)=>some (c++f,e)
     | none=>none
  | false=>none
 | .v (.int d x)::r,m+1=>match decide (d=k),ml k r m with
  | true,some (f,e)=>some (x::f,e)
  | _,_=>none
 | .row .fp 1 c::r,m+1=>match decide (k=.u64)&&beq (m+1) 6 with
  | true=>some (enc (M:=Mp) (c.getD 0 0),r)
  | false=>none
 | .row .fr 1 c::r,m+1=>match decide (k=.u64)&&beq (m+1) 4 with
  | true=>some (enc (M:=Mr) (c.getD 0 0),r)
  | false=>none
 | _::_,_+1=>none
def Hz:(e:Kd)->Nat->List Cell->Option (List (aH e) × List Cell)
 | .int k,n,c=>ml k c n
 | _,_,_=>none
def Rw (e:Kd) (n:Nat):List Cell->Option (List (aH e) × List Cell)
 | []=>none
 | c::r=>match k8 c with
  | some ⟨g,d,f⟩=>match g.eq? e with
   | some ⟨h⟩=>match beq d n with
    | true=>some (om h f,r)
    | false=>match blt n d with
     | true=>some (om h (f.take n),jk g (d-n) (f.drop n)::r)
     | false=>none
   | none=>none
  | none=>none
def pN {g:Type} (f:List Cell->Option (g × List Prop × List Cell)):Nat->List Cell->Option (List g × List Prop × List Cell)
 | 0,d=>some ([],[],d)
 | n+1,d=>match f d with
  | some (x,p,r)=>match pN f n r with
   | some (j,h,i)=>some (x::j,p++h,i)
   | none=>none
  | none=>none
def uX (e:Kd) (g:List Cell) (d f len c:Nat):Option (List (aH e) × List Prop) :=
 match wh g d with
 | some (_,⟨i,n,j⟩,q,_)=>match i.eq? e,beq q 0&&beq c (width e) with
  | some ⟨h⟩,true=>some (((om h j).drop f).take len,[f+len<=n])
  | _,_=>none
 | none=>none
def uW {h:Type} (f:List Cell->Option (h × List Prop × List Cell)) (w:Nat) (i:List Cell) (d g len c:Nat):Option (List h × List Prop) :=
 match beq c w,fO i (d+g*c) with
 | true,some (_,r)=>match pN f len r with
  | some (k,j,_)=>some (k,j)
  | none=>none
 | _,_=>none
def fx (B:bE):(e:Kd)->List Cell->Option (aH e × List Prop × List Cell)
 | .int k,cs=>match cs with
  | .v (.int w x)::r=>match decide (w=k) with
   | true=>some (x,[],r)
   | false=>none
  | cs=>F7 (.int k) cs
 | .bool,cs=>match cs with
  | .v (.bool x)::r=>some (x,[],r)
  | .T::r=>some (true,[],r)
  | .F::r=>some (false,[],r)
  | cs=>F7 .bool cs
 | .str,cs=>match cs with
  | .v (.string x)::r=>some (x,[],r)
  | cs=>F7 .str cs
 | .fp,cs=>match tx .fp cs with
  | some (x,r)=>some (x,[],r)
  | none=>match ml .u64 cs 6 with
   | some (u,r)=>some (dec (M:=Mp) u,[Canon Mp u],r)
   | none=>none
 | .fr,cs=>match tx .fr cs with
  | some (x,r)=>some (x,[],r)
  | none=>match ml .u64 cs 4 with
   | some (u,r)=>some (dec (M:=Mr) u,[Canon Mr u],r)
   | none=>none
 | .pair a b,cs=>match tx (.pair a b) cs with
  | some (x,r)=>some (x,[],r)
  | none=>match fx B a cs with
   | some (x,p,r)=>match fx B b r with
    | some (y,q,z)=>some ((x,y),p++q,z)
    | none=>none
   | none=>none
 | .arr n e,cs=>match tx (.arr n e) cs with
  | some (x,r)=>some (x,[],r)
  | none=>match Rw e n cs with
   | some (j,r)=>some (j,[],r)
   | none=>match Hz e n cs with
    | some (j,r)=>some (j,[],r)
    | none=>pN (fx B e) n cs
 | .sl e,cs=>match tx (.sl e) cs with
  | some (x,r)=>some (x,[],r)
  | none=>match cs with
   | .ro o j::r=>match o.eq? e with
    | some ⟨h⟩=>some (om h j,[],r)
    | none=>none
   | .v (.slice none 0 0)::r=>some ([],[],r)
   | .sl id m t len c::r=>match B id with
    | some (d::s)=>match uX e (d::s) m t len c with
     | some (j,p)=>some (j,p,r)
     | none=>match uW (fx B e) (width e) (d::s) m t len c with
      | some (j,p)=>some (j,p,r)
      | none=>none
    | _=>none
   | _=>none
 | .ptr e,cs=>match cs with
  | .rp o j i 0::r=>match o.eq? e with
   | some ⟨h⟩=>some (FG (a:=o) (b:=e) h (j.getD i (zeroOf o)),[],r)
   | none=>none
  | .ptr id 0::r=>match B id with
   | some (d::s)=>match fx B e (d::s) with
    | some (x,p,[])=>some (x,p,r)
    | _=>none
   | _=>none
  | _=>none
 | .fn f,cs=>match cs with
  | .v (.func (.func g) ⟨[]⟩ ⟨[]⟩)::r=>match decide (g=f) with
   | true=>some ((),[],r)
   | false=>none
  | .clo g []::r=>match decide (g=f) with
   | true=>some ((),[],r)
   | false=>none
  | _=>none
 | .cap c e,cs=>match cs with
  | .fv o x::r=>match o.eq? (.cap c e) with
   | some ⟨h⟩=>some (FG (a:=o) (b:=.cap c e) h x,[],r)
   | none=>none
  | .clo g (i::l)::r=>match B i with
   | some (d::s)=>match fx B e (d::s) with
    | some (y,q,[])=>match fx B c [.clo g l] with
     | some (x,p,[])=>some ((x,y),p++q,r)
     | _=>none
    | _=>none
   | _=>none
  | _=>none
 | .pq,cs=>match cs with
  | .fv .pq x::r=>some (x,[],r)
  | .ptr _ _::r=>some (true,[],r)
  | .pe _ _ _ _::r=>some (true,[],r)
  | .rp _ _ _ _::r=>some (true,[],r)
  | .v (.pointer none)::r=>some (false,[],r)
  | _=>none
 | .mp,cs=>match cs with
  | .fv .mp x::r=>some (x,[],r)
  | _=>none
def o5:bE:=fun _=>none
def b9 (P:Program) (t:TypeId):Bool :=
 match P.underlying t with
 | some (.struct _)|some (.array _ _)=>true
 | _=>false
def LX:Value->Cell
 | .bool true=>.T
 | .bool false=>.F
 | x=>.v x
def xR (P:Program) (t:TypeId):Option (List Cell) :=
 match P.info? t with
 | some { zero:=some z,.. }=>match EJ P 20 t with
  | some a=>match nB z.cells.toList (im a)&&zk a with
   | true=>some (zeroCells a)
   | false=>none
  | none=>match z.cells.toList.all (·.oneCell') with
   | true=>some (z.cells.toList.map LX)
   | false=>none
 | _=>none
def pK (a:Bool) (b:List Cell):Option TV :=
 match a with
 | true=>some (.agg b)
 | false=>match b with
  | [c]=>match k8 c with
   | some ⟨e,_,f⟩=>match cellsOf e (f.getD 0 (zeroOf e)) with
    | [d]=>some (.one d)
    | _=>none
   | none=>some (.one c)
  | _=>none
def aD (d:BinOp) (k:IntKind) (x y:Int):Int :=
 let a:=BitVec.ofInt k.bits x;let b:=BitVec.ofInt k.bits y;match d with
 | .and=>k.wrap (a &&& b).toNat
 | .or=>k.wrap (a ||| b).toNat
 | .xor=>k.wrap (a ^^^ b).toNat
 | _=>k.wrap (a &&& ~~~b).toNat
def Lv (c:BinOp) (k:IntKind) (a b:Int):Option (Value × List Prop) :=
 match c with
 | .add=>some (.int k (k.wrap (a+b)),[])
 | .sub=>some (.int k (k.wrap (a-b)),[])
 | .mul=>some (.int k (k.wrap (a*b)),[])
 | .quo=>some (.int k (k.wrap (a.tdiv b)),[b≠0])
 | .rem=>some (.int k (a.tmod b),[b≠0])
 | .and=>some (.int k (aD .and k a b),[])
 | .or=>some (.int k (aD .or k a b),[])
 | .xor=>some (.int k (aD .xor k a b),[])
 | .andNot=>some (.int k (aD .andNot k a b),[])
 | .eql=>some (.bool (a==b),[])
 | .neq=>some (.bool (a != b),[])
 | .lss=>some (.bool (decide (a<b)),[])
 | .leq=>some (.bool (decide (a<=b)),[])
 | .gtr=>some (.bool (decide (a>b)),[])
 | .geq=>some (.bool (decide (a>=b)),[])
 | _=>none
def MA (c:BinOp) (k:IntKind) (a b:Int):Option Value :=
 match c with
 | .shl=>some (.int k (k.wrap (a*2^(min b.toNat k.bits))))
 | .shr=>some (.int k (a.fdiv (2^(min b.toNat k.bits))))
 | _=>none
def sL (P:Program) (a:TypeId->Bool):Nat->Nat->List Field->Bool
 | o,n,[]=>beq o n
 | o, n, f :: b => f.name != "_" && a f.type && beq f.offset o && sL P a (o + P.cellsOf f.type) n b
def nA (P:Program):Nat->TypeId->Bool
 | 0,_=>false
 | d+1,t=>match P.underlying t with
  | some (.int _)=>beq (P.cellsOf t) 1
  | some (.array n e)=>match beq (P.cellsOf t) (n*P.cellsOf e) with
   | true=>nA P d e
   | false=>false
  | some (.struct a)=>sL P (nA P d) 0 (P.cellsOf t) a.toList && !P.stoodInHeld t
  | _=>false
def OS (i:Int) (n:Nat):Bool:=match i with
 | .ofNat m=>blt m n
 | _=>false
def ret (x:SV):Option Out:=some { val:=x }
def fz (x:Value):Option Out:=some { val:=.is (.one (.v x)) }
def sK (P:Program) (t:TypeId) (f:Nat):Option Field :=
 match P.underlying t with
 | some (.struct a)=>a[f]?
 | _=>none
def rF (a:Nat->Option (Nat × Nat)):List Cell->List (Nat × SV)->Option (List Cell)
 | cs,[]=>some cs
 | cs,(i,.is x)::r=>match a i with
  | some (c,d)=>match beq (cF x.cells) d with
   | true=>match E3 cs c x.cells with
    | some b=>rF a b r
    | none=>none
   | false=>none
  | none=>none
 | _,_=>none
def vO (P:Program) (t:TypeId):Nat->Option (Nat × Nat) :=
 match P.underlying t with
 | some (.struct a)=>fun i=>match a[i]? with
  | some f=>some (f.offset,P.cellsOf f.type)
  | none=>none
 | some (.array _ e)=>fun i=>some (i*P.cellsOf e,P.cellsOf e)
 | _=>fun _=>none
def xQ:List SV->Option Out
 | [x]=>ret x
 | _=>none
def R6:List SV->Option Out
 | [.is (.one .T),x,_]=>ret x
 | [.is (.one .F),_,y]=>ret y
 | [.is (.one (.v (.bool c))),.is (.one (.v (.bool x))),.is (.one (.v (.bool y)))]=>fz (.bool (bif c then x else y))
 | _=>none
def M8 (P:Program) (id:Nat) (t:TypeId):Option Out :=
 match xR P t with
 | some a=>some { val:=.is (.one (.ptr id 0)),new:=[(id,a)] }
 | none=>none
def XM (id:Nat):List SV->Option Out
 | [.is x]=>some { val:=.is (.one (.ptr id 0)),new:=[(id,x.cells)] }
 | _=>none
def rep {a:Type}:Nat->List a->List a
 | 0,_=>[]
 | n+1,l=>l++rep n l
def yw (P:Program) (e:TypeId) (n:Nat) (a:List Cell):List Cell × List Prop :=
 match EJ P 20 e with
 | some b=>match pN (fx o5 b) n a with
  | some (d,c,[])=>([jk b n d],c)
  | _=>(a,[])
 | none=>(a,[])
def BJ (P:Program) (t:TypeId) (a:List Cell):List Cell × List Prop :=
 match P.underlying t with
 | some (.array n e)=>yw P e n a
 | _=>(a,[])
def M9 (P:Program) (t:TypeId) (b:List Nat) (c:List SV):Option Out :=
 match b9 P t,beq b.length c.length,xR P t with
 | true,true,some d=>match rF (vO P t) d (b.zip c) with
  | some a=>some { val:=.is (.agg (BJ P t a).1),pre:=(BJ P t a).2 }
  | none=>none
 | _,_,_=>none
def yn (P:Program) (id:Nat) (t:TypeId) (len:Nat) (b:List Nat) (c:List SV):Option Out :=
 match P.underlying t,beq b.length c.length with
 | some (.slice e),true=>match xR P e,blt (len*P.cellsOf e) 16777217&&blt 0 (P.cellsOf e)&&beq (cF ((xR P e).getD [])) (P.cellsOf e) with
  | some f,true=>match rF (fun i=>some (i*P.cellsOf e,P.cellsOf e)) (rep len f) (b.zip c) with
   | some a=>match (yw P e len a).1 with
    | []=>none
    | d::g=>some { val:=.is (.one (.sl id 0 0 len (P.cellsOf e))),new:=[(id,d::g)],pre:=(yw P e len a).2 }
   | none=>none
  | _,_=>none
 | _,_=>none
def zA (e:Kd) (n:Nat) (c:List (aH e)) (j q a:Nat) (b:Bool):Option (TV × List Prop) :=
 match ble (q+a) (width e) with
 | true=>match mj (cellsOf e (c.getD j (zeroOf e))) q a with
  | some m=>match pK b m with
   | some x=>some (x,[j<n])
   | none=>none
  | none=>none
 | false=>match beq q 0&&b&&beq (a/width e*width e) a with
  | true=>some (.agg [jk e (a/width e) ((c.drop j).take (a/width e))],[j+a/width e<=n])
  | false=>none
def BQ (e:Kd) (n:Nat) (b:List (aH e)) (j q:Nat) (a:List Cell):Option (List (aH e) × List Prop) :=
 match E3 (cellsOf e (b.getD j (zeroOf e))) q a with
 | some c=>match fx o5 e c with
  | some (y,d,[])=>some (b.set j y,(j<n)::d)
  | _=>none
 | none=>none
def Gg (P:Program) (t:TypeId) (b:List Cell) (a i c:Nat):Option Out :=
 match wh b a with
 | some (_,⟨e,n,d⟩,q,_)=>match beq c (width e) with
  | true=>match zA e n d (BB (q/c) i) (q%c) (P.cellsOf t) (b9 P t) with
   | some (x,p)=>some { val:=.is x,pre:=p }
   | none=>none
  | false=>none
 | none=>none
def vo (b:Nat) (g:List Cell) (d i c:Nat) (f:List Cell):Option Out :=
 match wh g d with
 | some (a,⟨e,n,h⟩,q,r)=>match beq c (width e) with
  | true=>match BQ e n h (BB (q/c) i) (q%c) f with
   | some (j,p)=>some { val:=.undef,wr:=[(b,a++(jk e n j::r))],pre:=p }
   | none=>none
  | false=>none
 | none=>none
def RE (b:List Cell) (a:Nat):Nat:=match wh b a with
 | some (_,s,_,_)=>width s.1
 | none=>0
def R3 (P:Program) (t:TypeId) (k:List SV) (B:bE):Option Out :=
 match k with
 | [.is (.one (.ptr b a))]=>match B b with
  | some (c::g)=>match mj (c::g) a (P.cellsOf t) with
   | some m=>match pK (b9 P t) m with
    | some x=>ret (.is x)
    | none=>none
   | none=>Gg P t (c::g) a 0 (RE (c::g) a)
  | _=>none
 | [.is (.one (.pe b f i c))]=>match B b with
  | some (d::j)=>Gg P t (d::j) f i c
  | _=>none
 | [.is (.one (.rp e h i a))]=>match zA e h.length h (BB (a/width e) i) (a%width e) (P.cellsOf t) (b9 P t) with
  | some (x,p)=>some { val:=.is x,pre:=p }
  | none=>none
 | _=>none
def afO (b:List Cell) (a:Nat):Bool:=match wh b a with
 | some (_,s,_,_)=>blt 1 s.2.1
 | none=>false
def AB (b:Nat) (e:List Cell) (d:Nat) (c:List Cell):Option Out :=
 match E3 e d c with
 | some a=>some { val:=.undef,wr:=[(b,a)] }
 | none=>none
def MJ (b:Nat) (d:List Cell) (a:Nat) (c:List Cell):Option Out :=
 match afO d a with
 | true=>match vo b d a 0 (RE d a) c with
  | some o=>some o
  | none=>AB b d a c
 | false=>match AB b d a c with
  | some o=>some o
  | none=>vo b d a 0 (RE d a) c
def Nf (P:Program) (t:TypeId) (h:List SV) (B:bE):Option Out :=
 match h with
 | [.is (.one (.ptr b e)),.is x]=>match B b,beq (cF x.cells) (P.cellsOf t) with
  | some (c::f),true=>MJ b (c::f) e x.cells
  | _,_=>none
 | [.is (.one (.pe b a i c)),.is x]=>match B b,beq (cF x.cells) (P.cellsOf t) with
  | some (d::g),true=>vo b (d::g) a i c x.cells
  | _,_=>none
 | _=>none
def AK (P:Program) (t:TypeId) (f:Nat) (h:List SV):Option Out :=
 match sK P t f with
 | some g=>match beq (P.cellsOf g.type) 0,h with
  | false,[.is (.one (.ptr b a))]=>ret (.is (.one (.ptr b (a+g.offset))))
  | false,[.is (.one (.pe b d i c))]=>ret (.is (.one (.pe b (d+g.offset) i c)))
  | false,[.is (.one (.rp e j i a))]=>ret (.is (.one (.rp e j i (a+g.offset))))
  | _,_=>none
 | none=>none
def isConst:Operand->Bool
 | .const _=>true
 | _=>false
def W4:(e:Kd)->List (aH e)->Nat->Nat->Nat->Nat->Nat->Option Cell
 | .arr m b,d,i,a,c,n,j=>match beq a 0&&beq (width b) c&&ble n m with
  | true=>some (.rp b (d.getD i []) j 0)
  | false=>none
 | _,_,_,_,_,_,_=>none
def AL (P:Program) (t:TypeId) (f:Bool) (k:List SV):Option Out :=
 match P.underlying t,k with
 | some (.array n e),[.is (.one (.ptr b a)),.is (.one (.v (.int _ i)))] =>
  match f with
  | true=>match OS i n with
   | true=>ret (.is (.one (.ptr b (a+i.toNat*P.cellsOf e))))
   | false=>none
  | false=>some { val:=.is (.one (.pe b a i.toNat (P.cellsOf e))),pre:=[0<=i/\i<(n:Int)] }
 | some (.array n e),[.is (.one (.pe b d j c)),.is (.one (.v (.int _ i)))] =>
  match f,OS i n with
  | true,true=>ret (.is (.one (.pe b (d+i.toNat*P.cellsOf e) j c)))
  | _,_=>none
 | some (.array n e),[.is (.one (.rp g h j a)),.is (.one (.v (.int _ i)))] =>
  match f with
  | true=>match OS i n with
   | true=>ret (.is (.one (.rp g h j (a+i.toNat*P.cellsOf e))))
   | false=>none
  | false=>match W4 g h j a (P.cellsOf e) n i.toNat with
   | some c=>some { val:=.is (.one c),pre:=[0<=i/\i<(n:Int)] }
   | none=>none
 | some (.slice e),[.is (.one (.sl b d a len c)),.is (.one (.v (.int _ i)))] =>
  match beq c (P.cellsOf e) with
  | true=>some { val:=.is (.one (.pe b d (BB a i.toNat) c)),pre:=[0<=i/\i<(len:Int)] }
  | false=>none
 | some (.slice e),[.is (.one (.ro g h)),.is (.one (.v (.int _ i)))] =>
  match beq (width g) (P.cellsOf e) with
  | true=>some { val:=.is (.one (.rp g h i.toNat 0)),pre:=[0<=i/\i<(h.length:Int)] }
  | false=>none
 | _,_=>none
def jB (s:ByteArray):List Int:=s.data.toList.map fun b=>(b.toNat:Int)
def Nb (P:Program) (t:TypeId) (b:Bool) (f:List SV):Option Out :=
 match P.underlying t,f with
 | some (.array n e),[.is (.agg d),.is (.one (.v (.int _ i)))]=>match b with
  | true=>match OS i n,mj d (i.toNat*P.cellsOf e) (P.cellsOf e) with
   | true,some m=>match pK (b9 P e) m with
    | some x=>ret (.is x)
    | none=>none
   | _,_=>none
  | false=>match d with
   | [c]=>match k8 c with
    | some ⟨a,m,g⟩=>match beq (width a) (P.cellsOf e)&&ble n m,pK (b9 P e) (cellsOf a (g.getD i.toNat (zeroOf a))) with
     | true,some x=>some { val:=.is x,pre:=[0<=i/\i<(n:Int)] }
     | _,_=>none
    | none=>none
   | _=>none
 | some .string,[.is (.one (.v (.string x))),.is (.one (.v (.int _ i)))]=>some { val:=.is (.one (.v (.int .u8 ((jB x).getD i.toNat 0)))),pre:=[0<=i/\i<(x.size:Int)] }
 | _,_=>none
def Na (P:Program) (t:TypeId) (f:Nat) (c:List SV):Option Out :=
 match sK P t f,c with
 | some a,[.is (.agg b)]=>match mj b a.offset (P.cellsOf a.type) with
  | some m=>match pK (b9 P a.type) m with
   | some x=>ret (.is x)
   | none=>none
  | none=>none
 | _,_=>none
def Fq (i:Nat):List SV->Option Out
 | [.tup l]=>match l[i]? with
  | some x=>ret (.is x)
  | none=>none
 | _=>none
def H2:BinOp->Bool
 | .shl | .shr=>true
 | _=>false
def Zi (P:Program) (t:TypeId) (d:Bool) (b c:List Cell):Option Out :=
 match nA P 20 t,EJ P 20 t with
 | true,some a=>match fx o5 a b,fx o5 a c,qh a&&b9 P t && !P.eqGuardType P.depth t&&beq (width a) (P.cellsOf t) with
  | some (x,e,[]),some (y,f,[]),true=>some { val:=.is (.one (.v (.bool (bif d then !jI a x y else jI a x y)))),pre:=e++f }
  | _,_,_=>none
 | _,_=>none
def vw:Cell->Option Bool
 | .T=>some true
 | .F=>some false
 | .v (.bool b)=>some b
 | _=>none
def Lw:Cell->Bool
 | .ptr _ _ | .pe _ _ _ _ | .rp _ _ _ _=>true
 | _=>false
def HZ:Cell->Bool
 | .v (.pointer none)=>true
 | _=>false
def XL (P:Program) (e:BinOp) (t:TypeId) (h:List SV):Option Out :=
 match h with
 | [.is (.one (.v (.int k a))),.is (.one (.v (.int k' b)))] =>
  match H2 e with
  | true=>match MA e k a b with
   | some x=>some { val:=.is (.one (.v x)),pre:=[0<=b] }
   | none=>none
  | false=>match decide (k=k'),Lv e k a b with
   | true,some (x,p)=>some { val:=.is (.one (.v x)),pre:=p }
   | _,_=>none
 | [.is (.agg f),.is (.agg g)]=>match e with
  | .eql=>Zi P t false f g
  | .neq=>Zi P t true f g
  | _=>none
 | [.is (.one c),.is (.one d)]=>match P.underlying t with
  | some .bool=>match vw c,vw d,e with
   | some a,some b,.eql=>fz (.bool (a==b))
   | some a,some b,.neq=>fz (.bool (!(a==b)))
   | _,_,_=>none
  | some (.pointer _)=>match HZ d with
   | true=>match Lw c,e with
    | true,.eql=>ret (.is (.one .F))
    | true,.neq=>ret (.is (.one .T))
    | false,.eql=>match c with
     | .fv .pq x=>fz (.bool (!x))
     | .v (.pointer none)=>ret (.is (.one .T))
     | _=>none
    | false,.neq=>match c with
     | .fv .pq x=>fz (.bool x)
     | .v (.pointer none)=>ret (.is (.one .F))
     | _=>none
    | _,_=>none
   | false=>none
  | _=>none
 | _=>none
def xUn (b:UnOp) (d:List SV):Option Out :=
 match b,d with
 | .not,[.is (.one .T)]=>ret (.is (.one .F))
 | .not,[.is (.one .F)]=>ret (.is (.one .T))
 | .not,[.is (.one (.v (.bool a)))]=>fz (.bool (!a))
 | .neg,[.is (.one (.v (.int k a)))]=>fz (.int k (k.wrap (0-a)))
 | .xor,[.is (.one (.v (.int k a)))]=>fz (.int k (aD .xor k (if k.signed then -1 else k.max) a))
 | _,_=>none
def BG (n:Nat) (b a c:Option Operand) (d:List SV):Option (Int × Int × Option Int × List Prop) :=
 match b,a,c,d with
 | none,none,none,[]=>some (0,n,none,[])
 | none,some _,none,[.is (.one (.v (.int _ h)))]=>some (0,h,none,[0<=h/\h<=(n:Int)])
 | some _,none,none,[.is (.one (.v (.int _ l)))]=>some (l,n,none,[0<=l/\l<=(n:Int)])
 | some _,some _,none,[.is (.one (.v (.int _ l))),.is (.one (.v (.int _ h)))]=>some (l,h,none,[0<=l/\l<=h/\h<=(n:Int)])
 | none,some _,some _,[.is (.one (.v (.int _ h))),.is (.one (.v (.int _ m)))]=>some (0,h,some m,[0<=h/\h<=m/\m<=(n:Int)])
 | some _,some _,some _,[.is (.one (.v (.int _ l))),.is (.one (.v (.int _ h))),.is (.one (.v (.int _ m)))]=>some (l,h,some m,[0<=l/\l<=h/\h<=m/\m<=(n:Int)])
 | _,_,_,_=>none
def Nd (P:Program) (t:TypeId) (g f i:Option Operand) (o:List SV) (B:bE):Option Out :=
 match P.underlying t,o with
 | some (.array n e),.is (.one (.ptr b a))::r =>
  match B b,BG n g f i r with
  | some (c::m),some (l,h,_,p)=>match ble (a+n*P.cellsOf e) (cF (c::m)) with
   | true=>some { val:=.is (.one (.sl b a l.toNat (h-l).toNat (P.cellsOf e))),pre:=p }
   | false=>none
  | _,_=>none
 | some (.slice e),.is (.one (.sl b d a len c))::r =>
  match BG len g f i r,beq c (P.cellsOf e) with
  | some (l,h,_,p),true=>some { val:=.is (.one (.sl b d (BB a l.toNat) (h-l).toNat c)),pre:=p }
  | _,_=>none
 | some (.slice e),.is (.one (.ro j k))::r =>
  match BG k.length g f i r,beq (width j) (P.cellsOf e) with
  | some (l,h,_,p),true=>some { val:=.is (.one (.ro j ((k.drop l.toNat).take (h-l).toNat))),pre:=p }
  | _,_=>none
 | _,_=>none
def XN (P:Program) (a:Array TypeId) (b:List SV):Option Out :=
 match (a[0]?).bind P.underlying,b with
 | some (.slice _),[.is (.one (.sl _ _ _ n _))]=>fz (.int .i64 n)
 | some (.slice _),[.is (.one (.ro _ c))]=>fz (.int .i64 c.length)
 | some (.slice _),[.is (.one (.v (.slice none 0 0)))]=>fz (.int .i64 0)
 | some .string,[.is (.one (.v (.string s)))]=>fz (.int .i64 s.size)
 | _,_=>none
def bytesOf (P:Program) (t:TypeId):Nat:=match P.info? t with
 | some i=>i.bytes
 | none=>0
def FP (P:Program) (e:TypeId):Option Kd :=
 match P.info? e,EJ P 20 e with
 | some { zero:=some z,.. },some a=>match nB z.cells.toList (im a)&&zk a&&beq (width a) (P.cellsOf e)&&blt 0 (width a) with
  | true=>some a
  | false=>none
 | _,_=>none
def R4 (P:Program) (id:Nat) (t:TypeId) (b:List SV):Option Out :=
 match P.underlying t,b with
 | some (.slice e),[.is (.one (.v (.int _ l))),.is (.one (.v (.int _ c)))]=>match FP P e with
  | some a=>some { val:=.is (.one (.sl id 0 0 l.toNat (width a))),new:=[(id,[jk a c.toNat (replicate c.toNat (zeroOf a))])],pre:=[0<=l/\l<=c/\(bytesOf P e:Int)*c<=281474976710656/\c<=9223372036854775807] }
  | none=>none
 | _,_=>none
def DH (B:bE) (g:Kd):SV->Option (Nat × List (aH g) × List Prop)
 | .is (.one (.sl id a f m c))=>match B id with
  | some (d::i)=>match uX g (d::i) a f m c with
   | some (b,p)=>some (m,b,p)
   | none=>match uW (fx o5 g) (width g) (d::i) a f m c with
    | some (b,p)=>some (m,b,p)
    | none=>none
  | _=>none
 | .is (.one (.ro e b))=>match e.eq? g with
  | some ⟨h⟩=>some (b.length,om h b,[])
  | none=>none
 | .is (.one (.v (.slice none 0 0)))=>some (0,[],[])
 | _=>none
def IN (P:Program) (id:Nat) (k:Array TypeId) (l:List SV) (B:bE):Option Out :=
 match k.toList,l with
 | [t,j],[.is (.one d),x]=>match beq t j,P.underlying t with
  | true,some (.slice e)=>match FP P e with
   | some a=>match DH B a x,d with
    | some (m,b,p),.sl i 0 0 len c=>match B i,beq c (width a) with
     | some [f],true=>match k8 f with
      | some ⟨g,n,xs⟩=>match g.eq? a with
       | some ⟨h⟩=>some { val:=.is (.one (.sl id 0 0 (len+m) c)),new:=[(id,[jk a (len+m) ((om h xs).take len++b)])],wr:=[(i,[])],pre:=p++[len<=n,(len+m)*bytesOf P e<=140737488355328,len+m<=4611686018427387904] }
       | none=>none
      | none=>none
     | _,_=>none
    | some (m,b,p),.v (.slice none 0 0)=>some { val:=.is (.one (.sl id 0 0 m (width a))),new:=[(id,[jk a m b])],pre:=p++[m*bytesOf P e<=140737488355328,m<=4611686018427387904] }
    | _,_=>none
   | none=>none
  | _,_=>none
 | _,_=>none
def R0 (P:Program) (j:Array TypeId) (k:List SV) (B:bE):Option Out :=
 match j.toList,k with
 | [t,_],[.is (.one (.sl i f off len c)),x]=>match P.underlying t with
  | some (.slice e)=>match B i,beq c (P.cellsOf e)&&(P.info? e).isSome with
   | some (d::h),true=>match wh (d::h) f with
    | some (a,⟨g,n,xs⟩,q,r)=>match DH B g x,beq q 0&&beq c (width g) with
     | some (m,l,p),true=>some { val:=.is (.one (.v (.int .i64 (Nat.min m len)))),wr:=[(i,a++(jk g n (xs.take off++(l.take (Nat.min m len)++xs.drop (off+Nat.min m len)))::r))],pre:=p++[off+len<=n] }
     | _,_=>none
    | none=>none
   | _,_=>none
  | _=>none
 | _,_=>none
def Fo (P:Program) (id:Nat) (s d:TypeId) (h:List SV) (B:bE):Option Out :=
 match P.underlying s,P.underlying d,h with
 | some (.int _),some (.int k),[.is (.one (.v (.int _ a)))]=>fz (.int k (k.wrap a))
 | some .string,some (.slice e),[.is (.one (.v (.string x)))]=>match P.underlying e with
  | some (.int .u8)=>some { val:=.is (.one (.sl id 0 0 x.size 1)),new:=[(id,[.ints .u8 x.size (jB x)])] }
  | _=>none
 | some (.slice _),some (.slice e),[.is (.one (.sl i b f (len+1) c))]=>match beq s d,P.underlying e,B i with
  | true,some (.int .u8),some (k::g)=>some { val:=.is (.one (.sl i b f (len+1) c)),wr:=[(i,k::g)] }
  | _,_,_=>none
 | _,_,_=>none
def XO:List SV->Option Out
 | [.is (.one c)]=>match Lw c with
  | true=>ret (.is (.one c))
  | false=>none
 | _=>none
def XK (P:Program) (t:TypeId) (h:List SV):Option Out :=
 match P.underlying t,h with
 | some (.array n e),[.is (.one (.sl b a d len c))]=>match blt 0 n&&beq c (P.cellsOf e) with
  | true=>some { val:=.is (.one (.pe b a d c)),pre:=[n<=len] }
  | false=>none
 | some (.array n e),[.is (.one (.ro f g))]=>match blt 0 n&&beq (width f) (P.cellsOf e) with
  | true=>some { val:=.is (.one (.rp f g 0 0)),pre:=[n<=g.length] }
  | false=>none
 | _,_=>none
def uz (P:Program) (t:TypeId):Bool:=(P.info? t).isSome&&(P.underlying t).isSome&&(b9 P t||beq (P.cellsOf t) 1)
def lp (P:Program) (t:TypeId):Bool :=
 match P.underlying t with
 | some (.array _ e)=>uz P e
 | some (.slice e)=>uz P e
 | some (.struct a)=>a.all fun f=>uz P f.type
 | some _=>true
 | none=>false
def aiP (P:Program):Op->Bool
 | .load t _=>uz P t
 | .store t _ _=>uz P t
 | .fieldAddr t _ _ | .indexAddr t _ _ | .index t _ _ | .field t _ _ | .build t _ | .buildSlice t _ _ | .slice t _ _ _ _=>lp P t
 | _=>true
def HB:(a:Kd)->aH a->Option (FuncId × List SV)
 | .fn f,_=>some (f,[])
 | .cap c e,x=>match HB c x.1 with
  | some (f,l)=>some (f,l++[.is (.one (.rp e [x.2] 0 0))])
  | none=>none
 | _,_=>none
def HD:List Nat->List SV
 | []=>[]
 | i::l=>HD l++[.is (.one (.ptr i 0))]
def yx:List SV->List Nat->Option (List Nat)
 | [],l=>some l
 | .is (.one (.ptr i 0))::a,l=>yx a (i::l)
 | _,_=>none
def CZ (fn:Fn) (first:Array Operand) (a:List SV):Option Out :=
 match fn,first.size,yx a [] with
 | .func f,0,some []=>fz (.func (.func f) ⟨[]⟩ ⟨[]⟩)
 | .func f,0,some l=>ret (.is (.one (.clo f l)))
 | _,_,_=>none
def Zh (P:Program) (e:FuncId->Option Spec) (g:cD) (id:Nat) (c:Call) (d:List SV) (B:bE):Option Out :=
 match c.callee,d with
 | .value (.func f),_::args=>match e f with
  | some F=>F g id args B
  | none=>none
 | .value _,.is (.one (.v (.func (.func f) ⟨[]⟩ ⟨[]⟩)))::args=>match e f with
  | some F=>F g id args B
  | none=>none
 | .value _,.is (.one (.fv h x))::args=>match HB h x with
  | some (f,l)=>match e f with
   | some F=>F g id (args++l) B
   | none=>none
  | none=>none
 | .value _,.is (.one (.clo f l))::args=>match e f with
  | some F=>F g id (args++HD l) B
  | none=>none
 | .builtin .len,d=>XN P c.argTypes d
 | .builtin .append,d=>IN P id c.argTypes d B
 | .builtin .copy,d=>R0 P c.argTypes d B
 | .builtin .max,[.is (.one (.v (.int k a))),.is (.one (.v (.int _ b)))]=>fz (.int k (if b>a then b else a))
 | .builtin .min,[.is (.one (.v (.int k a))),.is (.one (.v (.int _ b)))]=>fz (.int k (if b<a then b else a))
 | _,_=>none
def norm (W:cD) (s:SV):SV :=
 match s with
 | .is (.one (.v (.pointer (some ⟨g,0,none⟩))))=>match W.gl g with
  | some ⟨e,x⟩=>.is (.one (.rp e [x] 0 0))
  | none=>s
 | s=>s
def Fs (P:Program) (k:FuncId->Option Spec) (l:cD) (id:Nat) (o:Op) (a:List SV) (B:bE):Option Out :=
 match aiP P o with
 | false=>none
 | true=>match o with
 | .move _=>xQ a
 | .assign _=>xQ a
 | .pick _ _ _=>R6 a
 | .alloc t=>M8 P id t
 | .box _ _=>XM id a
 | .build t e=>M9 P t (e.toList.map (·.1)) a
 | .buildSlice t n e=>yn P id t n (e.toList.map (·.1)) a
 | .load t _=>R3 P t a B
 | .store t _ _=>Nf P t a B
 | .nilCheck _=>XO a
 | .fieldAddr t _ f=>AK P t f a
 | .indexAddr t _ i=>AL P t (isConst i) a
 | .index t _ i=>Nb P t (isConst i) a
 | .field t _ f=>Na P t f a
 | .extract _ i=>Fq i a
 | .binOp b t _ _ _=>XL P b t a
 | .unOp b _ _=>xUn b a
 | .convert s d _=>Fo P id s d a B
 | .sliceToArrayPointer t _=>XK P t a
 | .makeSlice t _ _=>R4 P id t a
 | .slice t _ h g j=>Nd P t h g j a B
 | .makeFunc fn first _=>CZ fn first a
 | .call c=>Zh P k l id c a B
 | _=>none
def AH:SV->SV
 | .is (.one (.rn e a))=>.is (.one (.ro e a))
 | s=>s
def Nc (P:Program) (a:BinOp) (t:TypeId) (b:List SV):Option Out :=
 match b with
 | [.is (.one c),.is (.one (.v (.slice none 0 0)))]=>match P.underlying t,a with
  | some (.slice _),.eql=>match c with
   | .rn _ _=>ret (.is (.one .F))
   | .v (.slice none 0 0)=>ret (.is (.one .T))
   | _=>none
  | some (.slice _),.neq=>match c with
   | .rn _ _=>ret (.is (.one .T))
   | .v (.slice none 0 0)=>ret (.is (.one .F))
   | _=>none
  | _,_=>none
 | _=>none
def V6:Option Out->Option Out
 | some { val:=.is (.one (.sl i 0 0 k _)),new:=[(j,[cell])],wr:=wr,pre:=pre } =>
  match beq i j&&wr.all (fun p=>p.2.isEmpty),k8 cell with
  | true,some ⟨e,_,a⟩=>some { val:=.is (.one (.ro e a)),new:=[],wr:=wr,pre:=(a.length=k)::pre }
  | _,_=>none
 | _=>none
def abJ (a:FuncId->Option Spec) (c:Call):Bool:=match c.callee,c.argTypes.toList with
 | .builtin .append,t::_=>(a (1000000+t)).isSome
 | _,_=>false
def isStr (P:Program) (t:TypeId):Bool:=match P.underlying t with
 | some .string=>true
 | _=>false
def Wk (P:Program) (t:TypeId):Bool:=match P.underlying t with
 | some (.int .u8)=>true
 | _=>false
def UC (P:Program) (t:TypeId):Option IntKind :=
 match P.underlying t with
 | some (.struct a)=>match a.toList with
  | [f,g]=>match P.underlying g.type with
   | some (.int k) => match isStr P f.type && f.name != "_" && g.name != "_" && beq f.offset 0 && beq g.offset 1 && beq (P.cellsOf f.type) 1 && beq (P.cellsOf g.type) 1 && !P.stoodInHeld t && !P.eqGuardType P.depth t with
    | true=>some k
    | false=>none
   | _=>none
  | _=>none
 | _=>none
def R1 (P:Program) (t:TypeId) (c:Bool) (a b:List Cell):Option Out :=
 match UC P t with
 | some k=>match fx o5 (.pair .str (.int k)) a,fx o5 (.pair .str (.int k)) b with
  | some (x,d,[]),some (y,e,[])=>some { val:=.is (.one (.v (.bool (bif c then !(jI (.pair .str (.int k)) x y) else jI (.pair .str (.int k)) x y)))),pre:=d++e }
  | _,_=>none
 | none=>none
def IP (P:Program) (t:TypeId):Bool:=match P.info? t with
 | some { zero:=some (.agg _),.. }=>true
 | _=>false
def R5 (P:Program) (o:Op) (a:List SV) (B:bE):Option Out :=
 match o with
 | .makeMap _ none=>match a with
  | []=>ret (.is (.one (.fv .mp ())))
  | _=>none
 | .lookup t _ _ true=>match P.underlying t,a with
  | some (.map k e),[.is (.one (.fv .mp _)),.is (.one (.v (.string _)))]=>match isStr P k&&IP P e,xR P e with
   | true,some b=>some { val:=.tup [.agg b,.one .F] }
   | _,_=>none
  | _,_=>none
 | .slice t _ i g j=>match P.underlying t,a with
  | some .string,.is (.one (.v (.string s)))::r=>match BG s.size i g j r with
   | some (l,h,none,p)=>some { val:=.is (.one (.v (.string (s.extract l.toNat h.toNat)))),pre:=p }
   | _=>none
  | _,_=>none
 | .binOp f t _ _ _=>match a with
  | [.is (.one (.v (.string x))),.is (.one (.v (.string y)))]=>match isStr P t,f with
   | true,.eql=>fz (.bool (decide (x=y)))
   | true,.neq=>fz (.bool (!decide (x=y)))
   | _,_=>none
  | [.is (.agg b),.is (.agg c)]=>match f with
   | .eql=>R1 P t false b c
   | .neq=>R1 P t true b c
   | _=>none
  | _=>none
 | .convert s d _=>match P.underlying s,isStr P d,a with
  | some (.slice e),true,[x]=>match Wk P e,DH B (.int .u8) x with
   | true,some (_,m,p)=>some { val:=.is (.one (.v (.string (strOfNums m)))),pre:=p }
   | _,_=>none
  | _,_,_=>none
 | _=>none
def XQ (P:Program) (d:FuncId->Option Spec) (a:cD) (id:Nat) (o:Op) (b:List SV) (B:bE):Option Out :=
 match o with
 | .move _=>xQ b
 | .assign _=>xQ b
 | .call c=>match abJ d c with
  | true=>V6 (Fs P d a id (.call c) (b.map fun s=>AH (norm a s)) B)
  | false=>Fs P d a id (.call c) (b.map fun s=>AH (norm a s)) B
 | .binOp e t x y f=>match Nc P e t b with
  | some out=>some out
  | none=>Fs P d a id (.binOp e t x y f) (b.map fun s=>AH (norm a s)) B
 | o=>Fs P d a id o (b.map fun s=>AH (norm a s)) B
def xop (P:Program) (c:FuncId->Option Spec) (b:cD) (id:Nat) (o:Op) (a:List SV) (B:bE):Option Out :=
 match R5 P o (a.map fun s=>AH (norm b s)) B with
 | some out=>some out
 | none=>XQ P c b id o a B
abbrev ax:=Act->World->Prop
theorem bP {ρ:aC} {c:Cell} {b:List Value} (h:c.rel ρ b):az ρ [c] b:=⟨b,[],(bw _).symm,h,rfl⟩
theorem cY {ρ:aC} {c:Cell} {d:List Value} (h:az ρ [c] d):c.rel ρ d:=by obtain⟨j,g,e,f,b⟩:=h;have b:g=[]:=b;subst b;subst e;simpa using f
theorem kD {ρ:aC} {c:Cell} {s:Qa} {d:List Value} (h:k8 c=some s) (b:c.rel ρ d):s.2.2.length=s.2.1/\dX (Rd ρ.M s.1) s.2.2 d/\c.size=s.2.1*width s.1:=by cases c<;>simp[k8] at h;subst h;exact⟨b.1,vb.2 b.2,by simp[Cell.size,width]⟩;subst h;exact⟨b.1,b.2,rfl⟩
theorem fL {ρ:aC} {e:Kd} {n:Nat} {xs:List (aH e)} {d:List Value} (c:xs.length=n) (h:dX (Rd ρ.M e) xs d):(jk e n xs).rel ρ d:=by
 cases e with
 | int k=>exact⟨c,vb.1 h⟩
 | _=>exact⟨c,h⟩
theorem QY {e:Kd} {n:Nat} {b:List (aH e)}:(jk e n b).size=n*width e:=by cases e<;>simp[jk,Cell.size,width]
theorem jh {ρ:aC}:∀ {e:Kd} {x:aH e} {d:List Value},Rd ρ.M e x d->az ρ (cellsOf e x) d:=by
 intro e;induction e with
 | int k=>intro x d h;exact bP ⟨h,rfl⟩
 | bool=>intro x d h;exact bP ⟨h,rfl⟩
 | str=>intro x d h;exact bP ⟨h,rfl⟩
 | fp=>intro x d h;exact bP ⟨rfl,pC h⟩
 | fr=>intro x d h;exact bP ⟨rfl,pC h⟩
 | pair a b l m=>intro x d ⟨t,u,e,g,j⟩;subst e;exact gn (l g) (m j)
 | arr n e q=>intro x d ⟨g,j⟩;exact bP (fL g j)
 | sl e q=>intro x d h;exact bP h
 | ptr e q =>intro x d ⟨b,o,g,j⟩;exact bP ⟨b,o,j,aw,by rw[g];simp⟩
 | fn f=>intro x d h;exact bP ⟨h,rfl⟩
 | cap c e r s=>intro x d h;exact bP ⟨h,b6 h⟩
 | pq=>intro x d h;exact bP ⟨h,b6 (e:=.pq) h⟩
 | mp=>intro x d h;exact bP ⟨h,b6 (e:=.mp) h⟩
theorem J4 {ρ:aC}:∀ {e:Kd},zk e=true->az ρ (zeroCells e) (im e):=by
 intro e;induction e with
 | int k=>intro _;exact bP ⟨rfl,rfl⟩
 | bool=>intro _;exact bP rfl
 | str=>intro _;exact bP ⟨rfl,rfl⟩
 | fp=>intro h;exact bP ⟨rfl,pC (yt (e:=.fp) h)⟩
 | fr=>intro h;exact bP ⟨rfl,pC (yt (e:=.fr) h)⟩
 | pair a b d g=>intro h;simp only[zk,aX] at h;exact gn (d h.1) (g h.2)
 | arr n e i=>intro h;exact bP (fL oT (yt (M:=ρ.M) (e:=.arr n e) h).2)
 | sl e i=>intro _;exact bP ⟨rfl,rfl⟩
 | ptr e i=>intro h;simp[zk] at h
 | fn f=>intro h;simp[zk] at h
 | cap c e j l=>intro h;simp[zk] at h
 | pq=>intro _;exact bP ⟨rfl,rfl⟩
 | mp=>intro h;simp[zk] at h
theorem fG {m n:Nat} (h:blt m n=true):m<n:=by simpa[lG] using h
theorem w5 {m n:Nat} (h:blt m n=false):n<=m:=by
 rcases bS m n with h'|h'
 ·have:blt m n=true:=by simpa[lG] using h'
  rw[this] at h;cases h
 exact h'
theorem beq_true {m n:Nat} (h:beq m n=true):m=n:=fa h
theorem se {ρ:aC}:∀ (f:List Cell) (n:Nat) (a b:List Cell) (l:List Value),fO f n=some (a,b)->az ρ f l->az ρ a (l.take n)/\az ρ b (l.drop n)/\n<=l.length:=by
 intro f;induction f with
 | nil =>
  intro n a b l h k;cases n with
  | zero=>simp only[fO,aE,aL] at h;obtain⟨rfl,rfl⟩:=h;exact⟨by simp[az],by simpa using k,a8 _⟩
  | succ n=>simp[fO] at h
 | cons c f D =>
  intro n a b l h k;cases n with
  | zero=>simp only[fO,aE,aL] at h;obtain⟨rfl,rfl⟩:=h;exact⟨by simp[az],by simpa using k,a8 _⟩
  | succ n =>
   obtain⟨C,i,e,j,u⟩:=k;subst e;have d:=Cell.An j;simp only[fO] at h;split at h
   ·rename_i e m H y;obtain⟨g1,g2,t⟩:=kD y j;simp only at g1 g2 t;rw[t] at d;split at h
    ·rename_i g;have g:=fG g;split at h
     ·rename_i z;have z:=beq_true z;simp only[aE,aL] at h;obtain⟨rfl,rfl⟩:=h;obtain⟨o,q⟩:=gP (fun _ _=>b6) ((n+1)/width e) g2;rw[z] at o q;have F:(n+1)/width e<=m:=by
       rcases bS m ((n+1)/width e) with h'|h';have:=fb (width e) (tX h');omega;exact h'
      refine⟨bP (fL (by simp;omega) ?_),⟨C.drop (n+1),i,?_,fL (by simp;omega) q,u⟩,by simp;omega⟩;rw[lV aa];exact o;rw[qn aa]
     simp at h
    rename_i g;have g:=w5 g;split at h;rename_i r s A;simp only[aE,aL] at h;obtain⟨rfl,rfl⟩:=h;obtain⟨o,q,G⟩:=D _ r s i A u;refine⟨⟨C,i.take (n+1-m*width e),?_,j,o⟩,?_,?_⟩;rw[List.take_append,d,bW aa];rw[oF,d,nk aa];simpa using q;simp only[a7,d];omega;simp at h
   ·rename_i y;have E:c.size=1:=by cases c<;>simp[k8] at y<;>rfl
    split at h
    ·rename_i r s A;simp only[aE,aL] at h;obtain⟨rfl,rfl⟩:=h;obtain⟨g1,g2,t⟩:=D n r s i A u;rw[E] at d;match C,d with
     | [x],_=>exact⟨⟨[x],i.take n,aw,j,g1⟩,by simpa using g2,by simp;omega⟩
    simp at h
theorem wq {ρ:aC} {d m:List Cell} {b n:Nat} {l:List Value} (h:mj d b n=some m) (f:az ρ d l) :
  az ρ m ((l.drop b).take n)/\b+n<=l.length:=by
 unfold mj at h;cases e:fO d b with
 | none=>rw[e] at h;simp at h
 | some p =>
  obtain⟨a,r⟩:=p;rw[e] at h;simp only at h;cases c:fO r n with
  | none=>rw[c] at h;simp at h
  | some o =>obtain⟨k,q⟩:=o;rw[c] at h;simp only[aE] at h;subst h;obtain⟨_,g2,s⟩:=se d b a r l e f;obtain⟨g,_,j⟩:=se r n k q _ c g2;refine⟨g,?_⟩;simp at j;omega
theorem E4 {ρ:aC} {g d e:List Cell} {b:Nat} {l u:List Value} (h:E3 g b d=some e) (o:az ρ g l) (k:az ρ d u) :
  az ρ e (l.take b++(u++l.drop (b+u.length)))/\b+u.length<=l.length:=by
 unfold E3 at h;cases j:fO g b with
 | none=>rw[j] at h;simp at h
 | some p =>
  obtain⟨a,r⟩:=p;rw[j] at h;simp only at h;cases c:fO r (cF d) with
  | none=>rw[c] at h;simp at h
  | some s =>obtain⟨q,t⟩:=s;rw[c] at h;simp only[aE] at h;subst h;obtain⟨g1,g2,y⟩:=se g b a r l j o;obtain⟨z,m,n⟩:=se r _ q t _ c g2;have f:=gp k;rw[<- f] at m n;refine⟨gn g1 (gn k ?_),?_⟩;simpa[fF] using m;simp at n;omega
theorem wi {ρ:aC}:∀ {j:List Cell} {b:Nat} {a r:List Cell} {s:Qa} {q:Nat} {l:List Value},wh j b=some (a,s,q,r)->az ρ j l ->
  ∃ d m g,l=d++(m++g)/\d.length+q=b/\az ρ a d/\az ρ r g/\s.2.2.length=s.2.1/\dX (Rd ρ.M s.1) s.2.2 m:=by
 intro j;induction j with
 | nil=>intro b a r s q l h;simp[wh] at h
 | cons c j E =>
  intro b a r s q l h I;obtain⟨i,F,e,k,n⟩:=I;subst e;have f:=Cell.An k;simp only[wh] at h;split at h;rename_i R o;obtain⟨g1,g2,H⟩:=kD o k;split at h;simp only[aE,aL] at h;obtain⟨rfl,rfl,rfl,rfl⟩:=h;exact⟨[],i,F,rfl,aw,rfl,n,g1,g2⟩;split at h;simp only[aE,aL] at h;obtain⟨rfl,rfl,rfl,rfl⟩:=h;exact⟨[],i,F,rfl,aw,rfl,n,g1,g2⟩;rename_i D;have D:=w5 D;split at h;rename_i G C N O t;simp only[aE,aL] at h;obtain⟨rfl,rfl,rfl,rfl⟩:=h;obtain⟨d,m,g,e,L,u,y,z,A⟩:=E t n;refine⟨i++d,m,g,by rw[e];simp,?_,⟨i,d,rfl,k,u⟩,y,z,A⟩;simp only[a7,f,H];omega;simp at h
  ·rename_i o;have K:c.size=1:=by cases c<;>simp[k8] at o<;>rfl
   split at h;simp at h;rename_i Q ;split at h;rename_i G C N O t;simp only[aE,aL] at h;obtain⟨rfl,rfl,rfl,rfl⟩:=h;obtain⟨d,m,g,e,L,u,y,z,A⟩:=E t n;refine⟨i++d,m,g,by rw[e];simp,?_,⟨i,d,rfl,k,u⟩,y,z,A⟩;simp only[a7,f,K];omega;simp at h
theorem qQ {a:Kd} (xs:List (aH a)):om rfl xs=xs:=rfl
theorem w7 {a:Kd} (x:aH a):FG rfl x=x:=rfl
theorem Tb {ρ:aC} {e:Kd} {b r:List Cell} {x:aH e} {l:List Value} (h:tx e b=some (x,r)) (C:az ρ b l):∃ g i,l=g++i/\Rd ρ.M e x g/\az ρ r i:=by
 cases b with
 | nil=>simp[tx] at h
 | cons c b =>
  obtain⟨G,d,o,t,f⟩:=C;subst o;simp only[tx] at h;split at h
  ·rename_i H n k u;obtain⟨g1,g2,s⟩:=kD u t;simp only at g1 g2 s;split at h
   ·rename_i z _;subst z;split at h;simp at h
    ·rename_i A;simp only[aE,aL,w7] at h;obtain⟨rfl,rfl⟩:=h;match k,g1 with
     | [y],_=>exact⟨G,d,rfl,nZ g2,f⟩
    ·rename_i m A;simp only[aE,aL,w7] at h;obtain⟨rfl,rfl⟩:=h;match k,g1 with
     | y::I,g1 =>obtain⟨F,j,q,D,E⟩:=g2;subst q;exact⟨F,j++d,aw,D,⟨j,d,rfl,fL (by simpa using g1) E,f⟩⟩
   simp at h
  simp at h
theorem W3 {ρ:aC} {e:Kd} {n:Nat} {d r:List Cell} {i:List (aH e)} {l:List Value} (h:Rw e n d=some (i,r)) (z:az ρ d l):∃ m o,l=m++o/\i.length=n/\dX (Rd ρ.M e) i m/\az ρ r o:=by
 cases d with
 | nil=>simp[Rw] at h
 | cons c d =>obtain⟨f,g,q,t,k⟩:=z;subst q;simp only[Rw] at h;split at h;rename_i j D E u;obtain⟨g1,g2,s⟩:=kD u t;simp only at g1 g2 s;split at h;rename_i y _;subst y;split at h;rename_i b;have b:=beq_true b;simp only[aE,aL,qQ] at h;obtain⟨rfl,rfl⟩:=h;exact⟨f,g,rfl,aa,g2,k⟩;split at h;rename_i b;have b:=fG b;simp only[aE,aL,qQ] at h;obtain⟨rfl,rfl⟩:=h;obtain⟨A,C⟩:=gP (fun _ _=>b6) n g2;exact⟨f.take (n*width j),f.drop (n*width j)++g,by rw[<- cH,dO],by simp;omega,A,⟨_,g,rfl,fL (by simp;omega) C,k⟩⟩;simp at h;simp at h;simp at h
theorem wu {ρ:aC} {k:IntKind}:∀ {q:List Cell} {n:Nat} {xs:List Int} {r:List Cell} {l:List Value},ml k q n=some (xs,r)->az ρ q l ->
  ∃ o,l=xs.map (Value.int k)++o/\xs.length=n/\az ρ r o:=by
 intro q;induction q with
 | nil =>
  intro n xs r l h u;cases n with
  | zero=>simp only[ml,aE,aL] at h;obtain⟨rfl,rfl⟩:=h;exact⟨l,rfl,rfl,u⟩
  | succ n=>simp[ml] at h
 | cons c q F =>
  intro n xs r l h u;cases n with
  | zero=>simp only[ml,aE,aL] at h;obtain⟨rfl,rfl⟩:=h;exact⟨l,rfl,rfl,u⟩
  | succ m =>
   obtain⟨H,s,e,t,j⟩:=u;subst e;unfold ml at h;split at h;rename_i I;cases I;simp at h
   ·rename_i G O E D i b f;simp only[bx] at b;obtain⟨rfl,rfl⟩:=b;obtain rfl:m=i:=by simpa using f
    obtain⟨N,rfl⟩:=t;split at h;rename_i d;simp at d;subst d;split at h;rename_i g;have g:=beq_true g;simp only[aE,aL] at h;obtain⟨rfl,rfl⟩:=h;exact⟨s,rfl,aa,j⟩;split at h;rename_i g;have g:=fG g;simp only[aE,aL] at h;obtain⟨rfl,rfl⟩:=h;refine⟨(E.drop (m+1)).map (Value.int G)++s,?_,by simp;omega,⟨_,s,rfl,⟨by simp;omega,rfl⟩,j⟩⟩;rw[<- cH,<- di,dO];rename_i g;have g:=w5 g;split at h;rename_i L K z;simp only[aE,aL] at h;obtain⟨rfl,rfl⟩:=h;obtain⟨o,e,A,C⟩:=F z j;exact⟨o,by rw[e];simp,by simp[A];omega,C⟩;simp at h;simp at h
   ·rename_i G y D i b f;simp only[bx] at b;obtain⟨rfl,rfl⟩:=b;obtain rfl:m=i:=by simpa using f
    obtain⟨rfl,_⟩:=t;split at h;rename_i L K d z;simp at d;subst d;simp only[aE,aL] at h;obtain⟨rfl,rfl⟩:=h;obtain⟨o,e,A,C⟩:=F z j;exact⟨o,by rw[e];simp,by simp[A],C⟩;simp at h
   ·rename_i E D i b f;simp only[bx] at b;obtain⟨rfl,rfl⟩:=b;obtain rfl:m=i:=by simpa using f
    split at h;rename_i d;simp only[aX,lZ] at d;obtain⟨rfl,d⟩:=d;have d:=beq_true d;simp only[aE,aL] at h;obtain⟨rfl,rfl⟩:=h;obtain⟨g1,g2⟩:=t;obtain⟨y,rfl⟩:=List.length_eq_one_iff.1 g1;have this:H=(enc (M:=Mp) y).map (Value.int .u64):=nZ (R:=Rd ρ.M _) (x:=y) g2;rw[this,wH];exact⟨s,rfl,by rw[d];exact rE (M:=Mp) y,j⟩;simp at h
   ·rename_i E D i b f;simp only[bx] at b;obtain⟨rfl,rfl⟩:=b;obtain rfl:m=i:=by simpa using f
    split at h;rename_i d;simp only[aX,lZ] at d;obtain⟨rfl,d⟩:=d;have d:=beq_true d;simp only[aE,aL] at h;obtain⟨rfl,rfl⟩:=h;obtain⟨g1,g2⟩:=t;obtain⟨y,rfl⟩:=List.length_eq_one_iff.1 g1;have this:H=(enc (M:=Mr) y).map (Value.int .u64):=nZ (R:=Rd ρ.M _) (x:=y) g2;rw[this,wH];exact⟨s,rfl,by rw[d];exact rE (M:=Mr) y,j⟩;simp at h
   simp at h
theorem Ng {ρ:aC} {e:Kd} {n:Nat} {d r:List Cell} {xs:List (aH e)} {l:List Value} (h:Hz e n d=some (xs,r)) (j:az ρ d l):∃ f b,l=f++b/\xs.length=n/\dX (Rd ρ.M e) xs f/\az ρ r b:=by
 cases e with
 | int k =>obtain⟨b,e,g,i⟩:=wu (xs:=xs) h j;exact⟨_,b,e,g,vb.2 rfl,i⟩
 | _=>simp[Hz] at h
theorem Ma {s:Type} {ρ:aC} {R:s->List Value->Prop} {f:List Cell->Option (s × List Prop × List Cell)}
  (C:∀ d x g r l,f d=some (x,g,r)->(∀ p∈g,p)->az ρ d l->∃ b i,l=b++i/\R x b/\az ρ r i) :
  ∀ (n:Nat) (d:List Cell) (j:List s) (g:List Prop) (r:List Cell) (l:List Value),pN f n d=some (j,g,r)->(∀ p∈g,p)->az ρ d l->∃ b i,l=b++i/\j.length=n/\dX R j b/\az ρ r i:=by
 intro n;induction n with
 | zero =>intro d j g r l h k o;simp only[pN,aE,aL] at h;obtain⟨rfl,rfl,rfl⟩:=h;exact⟨[],l,rfl,rfl,rfl,o⟩
 | succ n D =>intro d j g r l h k o;simp only[pN] at h;split at h;rename_i x p N z;split at h;rename_i Q L O A;simp only[aE,aL] at h;obtain⟨rfl,rfl,rfl⟩:=h;obtain⟨b,i,u,E,F⟩:=C _ _ _ _ _ z (fun q m=>k q (gK _ m)) o;obtain⟨t,K,y,G,H,I⟩:=D _ _ _ _ _ A (fun q m=>k q (hV _ m)) F;exact⟨b++t,K,by rw[u,y];simp,by simp[G],⟨b,t,rfl,E,H⟩,I⟩;simp at h;simp at h
structure Sees (B:bE) (ρ:aC) (M:Mem):Prop where
 mem:Mem.le ρ.M M
 blk:∀ i cs b,B i=some cs->cs≠[]->ρ i=some b->∃ l r,az ρ cs l/\(l++r≠[]->M b=some (l++r))/\(l++r).length=ρ.n i
theorem mh (ρ:aC):Sees o5 ρ ρ.M:=⟨Mem.le_refl _,fun _ _ _ h=>by simp[o5] at h⟩
theorem xF {ρ:aC} {e:Kd} {o:List Cell} {b d len c:Nat} {k:List (aH e)} {s:List Prop} {l:List Value} (h:uX e o b d len c=some (k,s)) (E:∀ p∈s,p) (G:az ρ o l) :
  k.length=len/\c=width e/\b+d*c+len*c<=l.length/\dX (Rd ρ.M e) k ((l.drop (b+d*c)).take (len*c)):=by
 unfold uX at h;split at h
 ·rename_i a f n U q r H;split at h
  ·rename_i _ A C g;subst A;simp only[aX] at g;have F:=beq_true g.1;have z:=beq_true g.2;subst F z;simp only[aE,aL,qQ] at h;obtain⟨rfl,rfl⟩:=h;have D:d+len<=n:=E _ aw;obtain⟨K,m,T,e,N,O,Q,I,j⟩:=wi H G;simp only at I j;have i:=fS (fun _ _=>b6) j;have t:=(gP (fun _ _=>b6) d j).2;have u:=(gP (fun _ _=>b6) len t).1;have y:K.length=b:=aa;have L:d*width f+len*width f<=m.length:=by rw[i,<- ff];exact fb _ aa
   refine⟨by simp;omega,rfl,by rw[e];simp;omega,?_⟩;have:(l.drop (b+d*width f)).take (len*width f)=(m.drop (d*width f)).take (len*width f):=by rw[e,oF,nk aa,dG,y,show b+d*width f-b=d*width f by omega,qn aa,lV (by simp;omega)]
   rw[this];exact u
  simp at h
 simp at h
theorem xE {o:Type} {ρ:aC} {R:o->List Value->Prop} {f:List Cell->Option (o × List Prop × List Cell)} {w:Nat} (E:∀ x t,R x t->t.length=w)
  (u:∀ g x i r l,f g=some (x,i,r)->(∀ p∈i,p)->az ρ g l->∃ k m,l=k++m/\R x k/\az ρ r m)
  {g:List Cell} {b d len c:Nat} {n:List o} {i:List Prop} {l:List Value} (h:uW f w g b d len c=some (n,i)) (z:∀ p∈i,p) (C:az ρ g l) :
  n.length=len/\c=w/\b+d*c+len*c<=l.length/\dX R n ((l.drop (b+d*c)).take (len*c)):=by
 unfold uW at h;split at h;rename_i a r j D;have j:=beq_true j;subst j;split at h;rename_i K H I A;simp only[aE,aL] at h;obtain⟨rfl,rfl⟩:=h;obtain⟨_,g2,F⟩:=se _ _ _ _ _ D C;obtain⟨k,m,e,q,s,G⟩:=Ma u _ _ _ _ _ _ A z g2;have y:=fS E s;rw[q] at y;refine⟨q,rfl,?_,?_⟩;have:=congrArg length e;simp at this;omega;rw[e,lV aa,bW aa];exact s;simp at h;simp at h
theorem It {ρ:aC} {i f g len c:Nat} {j:List Value} (h:(Cell.sl i f g len c).rel ρ j):(len=0/\j=[.slice none 0 0]) \/
  ∃ b o d,ρ i=some b/\len<=d/\(o=f+g*c\/d=0)/\o+d*c<=ρ.n i/\j=[.slice (some ⟨b,o,none⟩) len d]:=h
theorem YU {ρ:aC} {M:Mem} {e:Kd} {i d f len c:Nat} {s:List Value} {k:List (aH e)} {m:List Cell} {B:bE} (z:Sees B ρ M) (u:B i=some m) (q:m≠[]) (h:(Cell.sl i d f len c).rel ρ s)
  (F:∀ l,az ρ m l->k.length=len/\c=width e/\d+f*c+len*c<=l.length/\dX (Rd M e) k ((l.drop (d+f*c)).take (len*c))) (j:k.length=len):Rd M (.sl e) k s:=by
 rcases It h with ⟨t,n⟩|⟨b,o,g,A,C,ho,K,n⟩;subst t;exact .inl ⟨dM j,none,0,n,fun _=>rfl⟩
 ·obtain⟨l,r,E,y,D⟩:=z.blk i m b u q A;obtain⟨G,H,L,I⟩:=F l E;subst G;rcases qF k.length with hz|hz;exact .inl ⟨dM hz,_,g,by rw[n,hz],fun h=>by cases h⟩
  ·have ho:o=d+f*c:=by
    rcases ho with ho|ho;exact ho;omega
   subst ho H;refine .inr ⟨b,_,g,n,C,l++r,y,by simp;omega,?_⟩;rw[qn aa,lV (by simp;omega)];exact I
theorem ij {B:bE} {ρ:aC} {M:Mem} (K:Sees B ρ M):∀ (e:Kd) (D:List Cell) (x:aH e) (F:List Prop) (r:List Cell) (l:List Value),fx B e D=some (x,F,r)->(∀ p∈F,p)->az ρ D l ->
  ∃ H E,l=H++E/\Rd M e x H/\az ρ r E:=by
 intro e;have hd:∀ (e:Kd) (D:List Cell) (x:aH e) (r:List Cell) (l:List Value),tx e D=some (x,r)->az ρ D l->∃ H E,l=H++E/\Rd M e x H/\az ρ r E:=by intro e D x r l h j;obtain⟨H,E,u,t,m⟩:=Tb h j;exact⟨H,E,u,dd K.mem t,m⟩
 have hh:∀ (e:Kd) (D:List Cell) (x:aH e) (F:List Prop) (r:List Cell) (l:List Value),F7 e D=some (x,F,r)->az ρ D l->∃ H E,l=H++E/\Rd M e x H/\az ρ r E:=by intro e D x F r l h j;unfold F7 at h;split at h;rename_i y Y s;simp only[aE,aL] at h;obtain⟨rfl,_,rfl⟩:=h;exact hd e D _ _ l s j;simp at h
 induction e with
 | int k =>intro D x F r l h G j;unfold fx at h;split at h;rename_i k' y Y;split at h;rename_i hk;simp at hk;subst hk;simp only[aE,aL] at h;obtain⟨rfl,_,rfl⟩:=h;obtain⟨A,C,e,⟨t,_⟩,m⟩:=j;exact⟨A,C,e,t,m⟩;simp at h;exact hh (.int k) _ _ F _ _ h j
 | bool =>intro D x F r l h G j;unfold fx at h;split at h;simp only[aE,aL] at h;obtain⟨rfl,_,rfl⟩:=h;obtain⟨A,C,e,⟨t,_⟩,m⟩:=j;exact⟨A,C,e,t,m⟩;simp only[aE,aL] at h;obtain⟨rfl,_,rfl⟩:=h;obtain⟨A,C,e,t,m⟩:=j;exact⟨A,C,e,t,m⟩;simp only[aE,aL] at h;obtain⟨rfl,_,rfl⟩:=h;obtain⟨A,C,e,t,m⟩:=j;exact⟨A,C,e,t,m⟩;exact hh .bool _ _ F _ _ h j
 | str =>intro D x F r l h G j;unfold fx at h;split at h;simp only[aE,aL] at h;obtain⟨rfl,_,rfl⟩:=h;obtain⟨A,C,e,⟨t,_⟩,m⟩:=j;exact⟨A,C,e,t,m⟩;exact hh .str _ _ F _ _ h j
 | fp =>intro D x F r l h G j;unfold fx at h;split at h;rename_i s;simp only[aE,aL] at h;obtain⟨rfl,_,rfl⟩:=h;exact hd _ _ _ _ _ s j;split at h;rename_i ws Y s;simp only[aE,aL] at h;obtain⟨rfl,rfl,rfl⟩:=h;obtain⟨E,e,t,m⟩:=wu s j;have hc:Canon Mp ws:=G _ aw;exact⟨_,E,e,by show _=_;rw[Of hc],m⟩;simp at h
 | fr =>intro D x F r l h G j;unfold fx at h;split at h;rename_i s;simp only[aE,aL] at h;obtain⟨rfl,_,rfl⟩:=h;exact hd _ _ _ _ _ s j;split at h;rename_i ws Y s;simp only[aE,aL] at h;obtain⟨rfl,rfl,rfl⟩:=h;obtain⟨E,e,t,m⟩:=wu s j;have hc:Canon Mr ws:=G _ aw;exact⟨_,E,e,by show _=_;rw[Of hc],m⟩;simp at h
 | pair a b x2 x3 =>intro D x F r l h G j;unfold fx at h;split at h;rename_i s;simp only[aE,aL] at h;obtain⟨rfl,_,rfl⟩:=h;exact hd _ _ _ _ _ s j;split at h;rename_i y p r1 t;split at h;rename_i z q r2 m;simp only[aE,aL] at h;obtain⟨rfl,rfl,rfl⟩:=h;obtain⟨H,E,u,N,O⟩:=x2 _ _ _ _ _ t (fun q s=>G q (gK _ s)) j;obtain⟨l3,l4,e2,I,U⟩:=x3 _ _ _ _ _ m (fun q s=>G q (hV _ s)) O;exact⟨H++l3,l4,by rw[u,e2];simp,⟨H,l3,rfl,N,I⟩,U⟩;simp at h;simp at h
 | arr n e ih =>intro D x F r l h G j;unfold fx at h;split at h;rename_i s;simp only[aE,aL] at h;obtain⟨rfl,_,rfl⟩:=h;exact hd _ _ _ _ _ s j;split at h;rename_i s;simp only[aE,aL] at h;obtain⟨rfl,_,rfl⟩:=h;obtain⟨H,E,u,N,O,I⟩:=W3 s j;exact⟨H,E,u,⟨N,ee (fun _ _=>dd K.mem) O⟩,I⟩;split at h;rename_i s;simp only[aE,aL] at h;obtain⟨rfl,_,rfl⟩:=h;obtain⟨H,E,u,N,O,I⟩:=Ng s j;exact⟨H,E,u,⟨N,ee (fun _ _=>dd K.mem) O⟩,I⟩;obtain⟨H,E,u,N,O,I⟩:=Ma (R:=Rd M e) (fun D x F r l=>ih D x F r l) _ _ _ _ _ _ h G j;exact⟨H,E,u,⟨N,O⟩,I⟩
 | sl e ih =>
  intro D x F r l h G j;unfold fx at h;split at h;rename_i s;simp only[aE,aL] at h;obtain⟨rfl,_,rfl⟩:=h;exact hd _ _ _ _ _ s j
  ·split at h;rename_i Q xs Y _;split at h;rename_i he _;subst he;simp only[aE,aL,qQ] at h;obtain⟨rfl,_,rfl⟩:=h;obtain⟨A,C,u,t,m⟩:=j;exact⟨A,C,u,dd (e:=.sl Q) K.mem t,m⟩;simp at h;simp only[aE,aL] at h;obtain⟨rfl,_,rfl⟩:=h;obtain⟨A,C,u,⟨t,_⟩,m⟩:=j;exact⟨A,C,u,.inl ⟨rfl,none,0,t,fun _=>rfl⟩,m⟩
   ·rename_i id x6 x8 len c Y _;obtain⟨A,C,u,t,m⟩:=j;split at h
    ·rename_i d W Z;split at h
     ·rename_i xs p s;simp only[aE,aL] at h;obtain⟨rfl,rfl,rfl⟩:=h;refine⟨A,C,u,?_,m⟩;have hx:∀ l,az ρ (d::W) l->_:=fun l X=>xF s G X;by_cases T:∃ l,az ρ (d::W) l;obtain⟨V,L⟩:=T;refine YU K Z aw t (fun l X=>?_) (hx V L).1;obtain⟨N,O,I,U⟩:=hx l X;exact⟨N,O,I,ee (fun _ _=>dd K.mem) U⟩
      ·rcases It t with ⟨h0,e0⟩|⟨b,o,cap,hb,X,ho,hn,e0⟩
       ·subst h0;have:xs=[]:=by
         unfold uX at s;split at s;split at s;simp only[aE,aL] at s;rw[<- s.1];simp;simp at s;simp at s
        exact .inl ⟨this,none,0,e0,fun _=>rfl⟩
       obtain⟨V,r0,L,_⟩:=K.blk id (d::W) b Z aw hb;exact (T ⟨V,L⟩).elim
     ·split at h
      ·rename_i xs p s;simp only[aE,aL] at h;obtain⟨rfl,rfl,rfl⟩:=h;refine⟨A,C,u,?_,m⟩;have hx:∀ l,az ρ (d::W) l->_:=fun l X=>xE (R:=Rd M e) (fun _ _=>b6) (fun D x F r l=>ih D x F r l) s G X;by_cases T:∃ l,az ρ (d::W) l;obtain⟨V,L⟩:=T;exact YU K Z aw t (fun l X=>hx l X) (hx V L).1
       ·rcases It t with ⟨h0,e0⟩|⟨b,o,cap,hb,X,ho,hn,e0⟩
        ·subst h0;have:xs=[]:=by
          unfold uW at s;split at s;split at s;rename_i x0;simp only[pN,aE,aL] at s x0;rw[<- s.1,<- x0.1];simp at s;simp at s
         exact .inl ⟨this,none,0,e0,fun _=>rfl⟩
        obtain⟨V,r0,L,_⟩:=K.blk id (d::W) b Z aw hb;exact (T ⟨V,L⟩).elim
      simp at h
    simp at h
   simp at h
 | ptr e ih =>
  intro D x F r l h G j;unfold fx at h;split at h
  ·rename_i Q xs i Y ;split at h
   ·rename_i he _;subst he;simp only[aE,aL,w7] at h;obtain⟨rfl,_,rfl⟩:=h;obtain⟨A,C,u,⟨b,o,t,m,h3⟩,h4⟩:=j;refine⟨A,C,u,⟨b,o+i*width Q,by rw[h3];rfl,?_⟩,h4⟩;obtain⟨l',N,O,I⟩:=t;have x7:i*width Q+width Q<=xs.length*width Q:=by
     have:=fb (width Q) (show i+1<=xs.length from m);rw[ff,m6] at this;exact this
    refine⟨l',fun hn=>K.mem _ _ (N hn),by simp only[bN,eH];omega,pC (dd K.mem ?_)⟩;have:=yr (fun _ _=>b6) I m (zeroOf Q);rw[qL,fF,lB,show min (width Q) (xs.length*width Q-i*width Q)=width Q by omega] at this;simpa using this
   simp at h
  rename_i id Y ;split at h;rename_i d W Z;split at h;rename_i y p s;simp only[aE,aL] at h;obtain⟨rfl,rfl,rfl⟩:=h;obtain⟨A,C,u,⟨b,hb,t⟩,m⟩:=j;obtain⟨V,r0,N,O,_⟩:=K.blk id (d::W) b Z aw hb;obtain⟨H,E,e2,I,U⟩:=ih _ _ _ _ _ s G N;have U:E=[]:=U;subst U;rw[bw] at e2;subst e2;refine⟨A,C,u,⟨b,0,t,V++r0,O,by simp[b6 I],pC ?_⟩,m⟩;rw[gL,Bi,m6,<- b6 I,List.take_left];exact I;simp at h;simp at h;simp at h
 | fn f =>intro D x F r l h G j;unfold fx at h;split at h;split at h;rename_i hg;simp at hg;subst hg;simp only[aE,aL] at h;obtain⟨_,_,rfl⟩:=h;obtain⟨A,C,u,⟨t,_⟩,m⟩:=j;exact⟨A,C,u,t,m⟩;simp at h;split at h;rename_i hg;simp at hg;subst hg;simp only[aE,aL] at h;obtain⟨_,_,rfl⟩:=h;obtain⟨A,C,u,⟨us,h0,t⟩,m⟩:=j;have h0:us=[]:=h0;subst h0;exact⟨A,C,u,t,m⟩;simp at h;simp at h
 | cap c e x4 x5 =>intro D x F r l h G j;unfold fx at h;split at h;rename_i Q y Y;split at h;rename_i he _;subst he;simp only[aE,aL,w7] at h;obtain⟨rfl,_,rfl⟩:=h;obtain⟨A,C,u,t,m⟩:=j;exact⟨A,C,u,dd K.mem t.1,m⟩;simp at h;rename_i g i l' Y;split at h;rename_i d W Z;split at h;rename_i y q s;split at h;rename_i x' p hx;simp only[aE,aL] at h;obtain⟨rfl,rfl,rfl⟩:=h;obtain⟨A,C,u,⟨us,⟨b,vs,hb,x1,eu⟩,t⟩,m⟩:=j;obtain⟨V,r0,N,O,_⟩:=K.blk i (d::W) b Z aw hb;obtain⟨H,E,e2,I,U⟩:=x5 _ _ _ _ _ s (fun q s=>G q (hV _ s)) N;have U:E=[]:=U;subst U;rw[bw] at e2;subst e2;obtain⟨l3,l4,e3,k5,k6⟩:=x4 _ _ _ _ _ hx (fun q s=>G q (gK _ s)) (bP (c:=.clo g l') ⟨vs,x1,rfl⟩);have k6:l4=[]:=k6;subst k6;rw[bw] at e3;subst e3 eu;refine⟨A,C,u,⟨.func g,vs,b,0,t,k5,V++r0,O,by simp[b6 I],pC ?_⟩,m⟩;rw[gL,Bi,m6,<- b6 I,List.take_left];exact I;simp at h;simp at h;simp at h;simp at h
 | pq =>intro D x F r l h G j;unfold fx at h;split at h;simp only[aE,aL] at h;obtain⟨rfl,_,rfl⟩:=h;obtain⟨A,C,u,t,m⟩:=j;exact⟨A,C,u,t.1,m⟩;simp only[aE,aL] at h;obtain⟨rfl,_,rfl⟩:=h;obtain⟨A,C,u,⟨b,_,t⟩,m⟩:=j;exact⟨A,C,u,⟨_,t,rfl⟩,m⟩;simp only[aE,aL] at h;obtain⟨rfl,_,rfl⟩:=h;obtain⟨A,C,u,⟨b,_,t⟩,m⟩:=j;exact⟨A,C,u,⟨_,t,rfl⟩,m⟩;simp only[aE,aL] at h;obtain⟨rfl,_,rfl⟩:=h;obtain⟨A,C,u,⟨b,o,_,_,t⟩,m⟩:=j;exact⟨A,C,u,⟨_,t,rfl⟩,m⟩;simp only[aE,aL] at h;obtain⟨rfl,_,rfl⟩:=h;obtain⟨A,C,u,⟨t,_⟩,m⟩:=j;exact⟨A,C,u,⟨none,t,rfl⟩,m⟩;simp at h
 | mp =>intro D x F r l h G j;unfold fx at h;split at h;simp only[aE,aL] at h;obtain⟨_,_,rfl⟩:=h;obtain⟨A,C,u,t,m⟩:=j;exact⟨A,C,u,dd (e:=.mp) (x:=x) K.mem t.1,m⟩;simp at h
theorem n9 {ρ:aC} {f:Bool} {m:List Cell} {x:TV} {l:List Value} (h:pK f m=some x) (q:az ρ m l) (u:f=false->l.length=1) :
  (f=true->x.rel ρ (.agg ⟨l⟩))/\(f=false->∃ v,l=[v]/\x.rel ρ v):=by
 cases f with
 | true=>simp[pK] at h;subst h;exact⟨fun _=>⟨l,rfl,q⟩,(fun h=>nomatch h)⟩
 | false =>
  refine⟨(fun h=>nomatch h),fun _=>?_⟩;have t:=u rfl;match l,t with
  | [v],_ =>
   refine⟨v,rfl,?_⟩;simp only[pK] at h;split at h
   ·rename_i c;have o:=cY q;split at h
    ·rename_i e n j g;obtain⟨g1,g2,s⟩:=kD g o;simp only at g1 g2 s;split at h
     ·rename_i r d;simp at h;subst h;have b:=fS (fun _ _=>b6) g2;have k:j.length=1:=by
       rcases bS j.length 2 with h'|h';rcases qF j.length with h0|h0;rw[h0] at b;simp at b;omega
       ·exfalso;have:1=j.length*width e:=by simpa using b
        rcases qF (width e) with h0|h0;rw[h0] at this;omega;have:=tQ h' h0;omega
      match j,k with
      | [y],_ =>have:=jh (nZ g2);have d:cellsOf e y=[r]:=d;rw[d] at this;exact cY this
     simp at h
    simp at h;subst h;exact o
   simp at h
theorem DQ {P:Program} {w:World} {b N c n:Nat} {l:List Value} (h:ca w b N l) (i:c+n<=l.length) :
  (loadCells ⟨b,c,none⟩ n).run P w=.ok ⟨(l.drop c).take n⟩ w:=by
 have e:((l.drop c).take n).length=n:=by simp;omega
 have:=run_loadCells_list (P:=P) (w:=w) ⟨b,c,none⟩ ((l.drop c).take n) (fun j v f=>by
  have d:(⟨b,c,none⟩:Addr).add j=⟨b,c+j,none⟩:=by unfold Addr.add;split;rename_i g;subst g;rfl;rfl
  rw[d];refine h.cell ?_;rw[fE] at f;split at f;simpa using f
  ·cases f)
 rw[e] at this;simpa using this
theorem ln (b off j:Nat):(⟨b,off,none⟩:Addr).add j=⟨b,off+j,none⟩:=by unfold Addr.add;split;rename_i c;subst c;rfl;rfl
theorem jw {P:Program} {w:World} {t:TypeId} {d:TypeDesc} (h:P.underlying t=some d):(isAgg t).run P w=.ok (b9 P t) w:=by unfold isAgg underlying b9;simp only[Sem.run_bind,run_program,Result.andThen_ok,h,Sem.run_pure];cases d<;>rfl
theorem pA {P:Program} {w:World} {t:TypeId} {i:TypeInfo} (h:P.info? t=some i):(typeInfo t).run P w=.ok i w:=by unfold typeInfo;simp only[Sem.run_bind,run_program,Result.andThen_ok,h,Sem.run_pure]
theorem cK {P:Program} {w:World} {t:TypeId} {i:TypeInfo} (h:P.info? t=some i):(Go.sizeOf t).run P w=.ok (P.cellsOf t) w:=by unfold Go.sizeOf;simp only[Sem.run_bind,pA h,Result.andThen_ok,Sem.run_pure];simp[Program.cellsOf,h]
theorem lU {P:Program} {t:TypeId} {d:TypeDesc} (h:P.underlying t=some d):∃ i,P.info? t=some i:=by
 unfold Program.underlying at h;cases b:P.info? t with
 | none=>simp[b] at h
 | some i=>exact⟨i,rfl⟩
theorem bp {P:Program} {w:World} {t:TypeId} {d:TypeDesc} (h:P.underlying t=some d):(underlying t).run P w=.ok d w:=by unfold underlying;simp only[Sem.run_bind,run_program,Result.andThen_ok,h,Sem.run_pure]
theorem pr {P:Program} {b N off:Nat}:∀ (c:List Value) (i:Nat) (w:World) (l:List Value),ca w b N l->off+i+c.length<=l.length->(∀ v∈c,v.oneCell'=true) ->
  ∃ d,(storeCells ⟨b,off,none⟩ c i).run P w=.ok () d/\ca d b N (l.take (off+i)++(c++l.drop (off+i+c.length)))/\d.heap.size=w.heap.size /\
   (∀ n,n≠b->d.heap[n]?=w.heap[n]?)/\d.os=w.os/\d.tape=w.tape/\d.output=w.output:=by
 intro c;induction c with
 | nil =>intro i w l h s _;exact⟨w,by simp[storeCells],by simpa using h,rfl,fun _ _=>rfl,rfl,rfl,rfl⟩
 | cons x c O =>
  intro i w l h s f;have m:off+i<l.length:=by simp at s;omega
  have g:=h.cell (i:=off+i) (x:=l[off+i]) (by simp[m]);have r:=h.frozen (i:=off+i) (fe m h.len);have q:ca (w.setCell ⟨b,off+i,none⟩ x) b N (l.set (off+i) x):=by obtain⟨k,z,fr,K,H,I⟩:=h;refine⟨k,z,fr,?_,by simpa using H,I⟩;simp only[World.setCell,qE,eB,K,c6];simp[List.set_append_left _ _ m]
  obtain⟨d,A,t,C,D,E,F,G⟩:=O (i+1) (w.setCell ⟨b,off+i,none⟩ x) (l.set (off+i) x) q (by simp at s ⊢;omega) (fun v L=>f v (by simp[L]));refine⟨d,?_,?_,?_,?_,?_,?_,?_⟩;unfold storeCells;rw[ln];simp only[Sem.run_bind];rw[run_store P w _ x .plain (f x aw)];simp only[g,r];simpa using A
  ·have u:(l.set (off+i) x).take (off+(i+1))=l.take (off+i)++[x]:=by
    rw[show off+(i+1)=(off+i)+1 from by omega,cw (by simpa using m)];simp[List.take_set_of_le]
   have y:(l.set (off+i) x).drop (off+(i+1)+c.length)=l.drop (off+i+(x::c).length):=by rw[List.drop_set_of_lt aa];congr 1;simp;omega
   rw[u,y] at t;simpa using t
  rw[C];simp[World.setCell];intro o j;rw[D o j];simp only[World.setCell,qE];rw[ai (fun e=>j e.symm)];exact E;exact F;exact G
def bq (ρ:aC):List SV->List Value->Prop
 | [],d=>d=[]
 | v::e,d=>∃ x xs,d=x::xs/\v.rel ρ x/\bq ρ e xs
structure Eff (id:Nat) (B:bE) (out:Out) (ρ ρ':aC) (w w':World):Prop where
 le:aC.le ρ ρ'
 dom:∀ i b,ρ' i=some b->ρ i=some b\/(id<=i/\i<id+8/\(∃ p∈out.new,p.1=i)/\(w.heap.size<=b\/∃ q∈out.wr,ρ q.1=some b))
 bound:∀ i b,ρ' i=some b->b<w'.heap.size
 os:w'.os=w.os
 tape:w'.tape=w.tape
 output:w'.output=w.output
 size:w.heap.size<=w'.heap.size
 same:∀ b,b<w.heap.size->(∀ p∈out.wr,ρ p.1≠some b)->w'.heap[b]?=w.heap[b]?
 new:∀ p∈out.new,id<=p.1/\p.1<id+8/\∀ b,ρ' p.1=some b->p.2≠[] ->
  (w.heap.size<=b\/∃ q∈out.wr,ρ q.1=some b/\q.2=[])/\∃ l,ca w' b (ρ'.n p.1) l/\az ρ' p.2 l
 newinj:∀ p∈out.new,∀ q∈out.new,∀ b,ρ' p.1=some b->ρ' q.1=some b->p.1=q.1
 wruniq:∀ p∈out.wr,∀ q∈out.wr,p.1=q.1->p=q
 wr:∀ p∈out.wr,(∃ cs,B p.1=some cs/\cs≠[])/\∀ b,ρ p.1=some b->p.2≠[]->∃ l,ca w' b (ρ.n p.1) l/\az ρ' p.2 l
 mem:∀ b l,ρ'.M b=some l->ρ.M b=some l\/((∀ p∈out.new,ρ' p.1≠some b)/\(w.heap.size<=b\/∃ q∈out.wr,ρ q.1=some b/\q.2=[])/\∃ el fr,w'.heap[b]?=some (nF l el fr))
structure Ctx (w0:cD) (id:Nat) (ρ:aC) (B:bE) (w:World):Prop where
 below:kZ w0 w
 blks:∀ i cs,B i=some cs->cs≠[]->∀ b,ρ i=some b->∃ l,ca w b (ρ.n i) l/\az ρ cs l
 bound:∀ i b,ρ i=some b->b<w.heap.size
 free:∀ i,id<=i->i<id+8->ρ i=none
 mem:∀ b l,ρ.M b=some l->∃ el fr,w.heap[b]?=some (nF l el fr)
 glob:∀ g e x,w0.gl g=some ⟨e,x⟩->mw (Rd ρ.M e) (width e) ρ.M g 0 [x]
 inj:∀ i i' cs cs' b,B i=some cs->cs≠[]->B i'=some cs'->cs'≠[]->ρ i=some b->ρ i'=some b->i=i'
 apart:∀ b l,ρ.M b=some l->∀ i cs,B i=some cs->cs≠[]->ρ i≠some b
def nL (P:Program) (f:FuncId) (b:Array Value) (w:World) (R:Value->World->Prop):Prop :=
 ((callFunc f b).run P w=.ok (.enter f b) w/\Calls P f b w fun e c=>∃ v,e=.returned v/\R v c) \/
 (∃ v c,(callFunc f b).run P w=.ok (.value v) c/\R v c)
def nN (P:Program) (f:FuncId) (F:Spec):Prop :=
 ∀ (w0:cD) (id:Nat) (args:List SV) (B:bE) (out:Out),F w0 id args B=some out->(∀ p∈out.pre,p) ->
  ∀ (ρ:aC) (c:List Value) (w:World),bq ρ args c->Ctx w0 id ρ B w ->
   nL P f ⟨c⟩ w fun v d=>∃ b,out.val.rel b v/\Eff id B out ρ b w d
def aJ (P:Program) (sp:FuncId->Option Spec):Prop:=∀ f F,sp f=some F->nN P f F
def ct (P:Program) (id:Nat) (B:bE) (o:Oper) (out:Out) (ρ:aC) (a:Act) (w:World):Prop :=
 ∀ (next:ax) (Q:Exit->ax),(∀ v e d,out.val.rel d v->Eff id B out ρ d w e->next (a.put o.dst v) e)->o.wp P a w next Q
section
variable {P:Program} {w0:cD} {id:Nat} {ρ:aC} {B:bE} {w:World}
theorem Ctx.eff (b:Ctx w0 id ρ B w) (v:SV) (p:List Prop):Eff id B { val:=v,pre:=p } ρ ρ w w :=
 ⟨aC.le_refl _,fun _ _ h=>.inl h,b.bound,rfl,rfl,rfl,aI _,fun _ _ _=>rfl,fun _ h=>(nomatch h),fun _ h=>(nomatch h),fun _ h=>(nomatch h),fun _ h=>(nomatch h),fun _ _ h=>.inl h⟩
theorem aW (b:Ctx w0 id ρ B w) {o:Oper} {a:Act} {v:Value} {x:SV} {p:List Prop} (h:(execOp a.eval o).run P w=.ok (.value v) w) (e:x.rel ρ v) :
  ct P id B o { val:=x,pre:=p } ρ a w:=by
 intro next Q d;unfold Oper.wp;rw[h];exact d v w ρ e (b.eff x p)
def aC.push (ρ:aC) (id b n:Nat):aC:=⟨fun i=>if i=id then some b else ρ i,fun i=>if i=id then n else ρ.n i,ρ.M⟩
theorem aC.iF {id b n:Nat}:(ρ.push id b n) id=some b:=by simp[aC.push]
theorem aC.ur {id b n:Nat}:(ρ.push id b n).n id=n:=by simp[aC.push]
theorem aC.Dw {id b n i:Nat} (h:i≠id):(ρ.push id b n) i=ρ i:=by simp[aC.push,h]
theorem aC.Pd {id b n:Nat} (h:ρ id=none):aC.le ρ (ρ.push id b n):=by refine⟨?_,Mem.le_refl _⟩;intro i c d;by_cases e:i=id;subst e;rw[h] at d;cases d;simp[aC.push,e,d]
theorem Sq (j:Ctx w0 id ρ B w) {g:List Cell} {l:List Value} (t:TypeId) (m:az ρ g l) (x:SV) (p:List Prop) :
  Eff id B { val:=x,new:=[(id,g)],pre:=p } ρ (ρ.push id w.heap.size l.length) w (w.alloc (.cells ⟨l⟩ t)):=by
 have d:aC.le ρ (ρ.push id w.heap.size l.length):=aC.Pd (j.free id (aI _) aa);refine⟨d,?_,?_,rfl,rfl,rfl,aw,?_,?_,?_,fun _ h=>(nomatch h),fun _ h=>(nomatch h),fun _ _ h=>.inl h⟩;intro i b h;by_cases e:i=id;subst e;rw[aC.iF] at h;simp at h;exact .inr ⟨aI _,aa,⟨(i,g),aw,rfl⟩,.inl aa⟩;rw[aC.Dw e] at h;exact .inl h;intro i b h;by_cases e:i=id;subst e;rw[aC.iF] at h;simp at h;simp;omega;rw[aC.Dw e] at h;have:=j.bound i b h;simp;omega;intro b c _;exact Below.heap_alloc w _ b c;intro p f;simp at f;subst f;refine⟨aI _,by show id<id+8;omega,fun b c _=>?_⟩;rw[aC.iF] at c;simp at c;subst c;refine⟨.inl (aI _),l,⟨[],t,(0,0),?_,?_,.inl rfl⟩,dU d m⟩;show (w.heap.push _)[w.heap.size]?=_;simp;rw[aC.ur];simp;intro p f q k _ _ _;simp at f k;rw[f,k]
theorem tA (d:Ctx w0 id ρ B w) {o:Oper} {a:Act} {c:List Cell} {l:List Value} {t:TypeId} {v:Value} {x:SV} {p:List Prop}
  (h:(execOp a.eval o).run P w=.ok (.value v) (w.alloc (.cells ⟨l⟩ t))) (f:az ρ c l)
  (g:∀ b:aC,b id=some w.heap.size->b.n id=l.length->x.rel b v):ct P id B o { val:=x,new:=[(id,c)],pre:=p } ρ a w:=by
 intro next Q e;unfold Oper.wp;rw[h];exact e v _ _ (g _ aC.iF aC.ur) (Sq d t f x p)
theorem Ec (G:Ctx w0 id ρ B w) {o:Oper} {a:Act} {i b:Nat} {r f:List Cell} {u:List Value} {d:World} {p:List Prop} (y:ρ i=some b) (E:B i=some r) (s:r≠[])
  (h:(execOp a.eval o).run P w=.ok .skip d) (F:ca d b (ρ.n i) u) (K:az ρ f u) (L:d.heap.size=w.heap.size)
  (k:∀ m,m≠b->d.heap[m]?=w.heap[m]?) (A:d.os=w.os) (C:d.tape=w.tape) (D:d.output=w.output) :
  ct P id B o { val:=.undef,wr:=[(i,f)],pre:=p } ρ a w:=by
 intro next Q I;unfold Oper.wp;rw[h];refine I undef d ρ rfl ⟨aC.le_refl _,fun _ _ h=>.inl h,fun j c H=>by rw[L];exact G.bound j c H,A,C,D,aa,?_,fun _ h=>(nomatch h),fun _ h=>(nomatch h),fun p z q l _=>by simp at z l;rw[z,l],?_,fun _ _ h=>.inl h⟩;intro c _ t;refine k c (fun e=>?_);subst e;exact t (i,f) aw y;intro q l;simp at l;subst l;refine⟨⟨r,E,s⟩,fun m g _=>?_⟩;rw[y] at g;simp at g;subst g;exact⟨u,F,K⟩
theorem bY {v:SV} {b:List Value} (h:bq ρ [v] b):∃ x,b=[x]/\v.rel ρ x:=by obtain⟨x,g,e,d,f⟩:=h;have:g=[]:=f;subst this;exact⟨x,e,d⟩
theorem cC {v u:SV} {c:List Value} (h:bq ρ [v,u] c):∃ x y,c=[x,y]/\v.rel ρ x/\u.rel ρ y:=by obtain⟨x,xs,e,f,g⟩:=h;obtain⟨y,d,j⟩:=bY g;subst d;exact⟨x,y,e,f,j⟩
theorem qm {v u t:SV} {b:List Value} (h:bq ρ [v,u,t] b):∃ x y z,b=[x,y,z]/\v.rel ρ x/\u.rel ρ y/\t.rel ρ z:=by obtain⟨x,i,e,d,f⟩:=h;obtain⟨y,z,c,g⟩:=cC f;subst c;exact⟨x,y,z,e,d,g⟩
theorem cc {x:Value} {y:Value} (h:(SV.is (.one (.v x))).rel ρ y):y=x:=by have:=h.1;simpa using this
theorem oa {i c:Nat} {y:Value} (h:(SV.is (.one (.ptr i c))).rel ρ y):∃ b,ρ i=some b/\y=.pointer (some ⟨b,c,none⟩):=by obtain⟨b,d,e⟩:=h;exact⟨b,d,by simpa using e⟩
theorem zc {i d j c:Nat} {y:Value} (h:(SV.is (.one (.pe i d j c))).rel ρ y):∃ b,ρ i=some b/\y=.pointer (some ⟨b,d+j*c,none⟩):=by obtain⟨b,f,e⟩:=h;exact⟨b,f,by simpa using e⟩
theorem CI {e:Kd} {d:List (aH e)} {i c:Nat} {y:Value} (h:(SV.is (.one (.rp e d i c))).rel ρ y):∃ b o,mw (Rd ρ.M e) (width e) ρ.M b o d/\i<d.length/\y=.pointer (some ⟨b,o+(i*width e+c),none⟩):=by obtain⟨b,o,f,g,j⟩:=h;exact⟨b,o,f,g,by simpa using j⟩
theorem nW {i f off len c:Nat} {y:Value} (h:(SV.is (.one (.sl i f off len c))).rel ρ y):(len=0/\y=.slice none 0 0) \/
  ∃ b o d,ρ i=some b/\len<=d/\(o=f+off*c\/d=0)/\o+d*c<=ρ.n i/\y=.slice (some ⟨b,o,none⟩) len d:=by
 rcases h with ⟨h,e⟩|⟨b,o,d,g,j,m,k,e⟩;exact .inl ⟨h,by simpa using e⟩;exact .inr ⟨b,o,d,g,j,m,k,by simpa using e⟩
theorem CH {e:Kd} {d:List (aH e)} {y:Value} (h:(SV.is (.one (.ro e d))).rel ρ y):(d=[]/\∃ a c,y=.slice a 0 c/\(a=none->c=0)) \/
  ∃ b o c,y=.slice (some ⟨b,o,none⟩) d.length c/\d.length<=c/\mw (Rd ρ.M e) (width e) ρ.M b o d:=by
 rcases h with ⟨h,a,c,e,f⟩|⟨b,o,c,e,f⟩;exact .inl ⟨h,a,c,by simpa using e,f⟩;exact .inr ⟨b,o,c,by simpa using e,f⟩
theorem Gm {i c b:Nat} (h:ρ i=some b):(SV.is (.one (.ptr i c))).rel ρ (.pointer (some ⟨b,c,none⟩)):=⟨b,h,rfl⟩
theorem Gl {i d j c o b:Nat} (h:ρ i=some b) (e:o=d+j*c):(SV.is (.one (.pe i d j c))).rel ρ (.pointer (some ⟨b,o,none⟩)):=⟨b,h,by rw[e]⟩
theorem Dc {e:Kd} {d:List (aH e)} {i c b o f:Nat} (h:mw (Rd ρ.M e) (width e) ρ.M b o d) (g:i<d.length) (j:f=o+(i*width e+c)):(SV.is (.one (.rp e d i c))).rel ρ (.pointer (some ⟨b,f,none⟩)):=⟨b,o,h,g,by rw[j]⟩
theorem kP {x:Value} (h:x.oneCell'=true):(SV.is (.one (.v x))).rel ρ x:=⟨rfl,h⟩
theorem bQ {a:Act} {o:Oper} {s:Sem Value} {v:Value} {d:World} (e:execOp a.eval o=(do pure (.value (<- s)))) (h:s.run P w=.ok v d) :
  (execOp a.eval o).run P w=.ok (.value v) d:=by
 rw[e];simp[h]
theorem YQ {a:Act} {o:Oper} {s:Sem Unit} {b:World} (c:execOp a.eval o=(do s;pure .skip)) (h:s.run P w=.ok () b) :
  (execOp a.eval o).run P w=.ok .skip b:=by
 rw[c];simp[h]
theorem Ctx.ro (f:Ctx w0 id ρ B w) {b:Nat} {l:List Value} (h:ρ.M b=some l):∃ d fr,w.heap[b]?=some (nF l d fr):=f.mem b l h
theorem Iy (e:Ctx w0 id ρ B w) {b i:Nat} {l:List Value} {x:Value} (h:l≠[]->ρ.M b=some l) (c:l[i]?=some x):w.cell? ⟨b,i,none⟩=some x:=by
 have d:l≠[]:=by rintro rfl;simp at c
 obtain⟨f,fr,h⟩:=e.ro (h d);rw[yf d] at h;simp only[World.cell?,h];simp[c]
theorem E9 (f:Ctx w0 id ρ B w) {b c n:Nat} {l:List Value} (h:l≠[]->ρ.M b=some l) (g:c+n<=l.length) :
  (loadCells ⟨b,c,none⟩ n).run P w=.ok ⟨(l.drop c).take n⟩ w:=by
 have d:((l.drop c).take n).length=n:=by simp;omega
 have:=run_loadCells_list (P:=P) (w:=w) ⟨b,c,none⟩ ((l.drop c).take n) (fun j v e=>by
  rw[ln];refine Iy f h ?_;rw[fE] at e;split at e;simpa using e
  ·cases e)
 rw[d] at this;simpa using this
end
section
variable {P:Program} {w0:cD} {id:Nat} {ρ:aC} {B:bE} {w:World} {a:Act} {dst:Option Tmp} {ty:TypeId} {pos:String} {af:Array Edge} {gd:Option (Nat × Bool)} {out:Out}
theorem Ua (c:Ctx w0 id ρ B w) {x:Operand} {b:List SV} (h:xQ b=some out) (d:bq ρ b [a.eval x]):ct P id B ⟨dst,.move x,ty,pos,af,gd⟩ out ρ a w:=by
 match b,h with
 | [y],h =>obtain⟨z,e,f⟩:=bY d;simp at e;subst e;simp[xQ,ret] at h;subst h;exact aW c rfl f
theorem Mv (c:Ctx w0 id ρ B w) {x:Operand} {b:List SV} (h:xQ b=some out) (d:bq ρ b [a.eval x]):ct P id B ⟨dst,.assign x,ty,pos,af,gd⟩ out ρ a w:=by
 match b,h with
 | [y],h =>obtain⟨z,e,f⟩:=bY d;simp at e;subst e;simp[xQ,ret] at h;subst h;exact aW c rfl f
theorem aeT (g:Ctx w0 id ρ B w) {c x y:Operand} {k:List SV} (h:R6 k=some out) (i:bq ρ k [a.eval c,a.eval x,a.eval y]):ct P id B ⟨dst,.pick c x y,ty,pos,af,gd⟩ out ρ a w:=by unfold R6 at h;split at h;obtain⟨p,q,r,e,b,d,f⟩:=qm i;simp only[bx,bR] at e;obtain⟨rfl,rfl,rfl⟩:=e;simp[ret] at h;subst h;have b:[a.eval c]=[Value.bool true]:=b;simp at b;exact aW g (v:=a.eval x) (by simp[execOp,b,asBool]) d;obtain⟨p,q,r,e,b,d,f⟩:=qm i;simp only[bx,bR] at e;obtain⟨rfl,rfl,rfl⟩:=e;simp[ret] at h;subst h;have b:[a.eval c]=[Value.bool false]:=b;simp at b;exact aW g (v:=a.eval y) (by simp[execOp,b,asBool]) f;rename_i j l m;obtain⟨p,q,r,e,b,d,f⟩:=qm i;simp only[bx,bR] at e;obtain⟨rfl,rfl,rfl⟩:=e;simp[fz] at h;subst h;have b:=cc b;have d:=cc d;have f:=cc f;refine aW g (v:=.bool (bif j then l else m)) ?_ (kP rfl);simp only[execOp,b,d,f,asBool];cases j<;>simp;simp at h
theorem Q4 (x:Value) (h:x.oneCell'=true):(LX x).rel ρ [x]:=by
 cases x with
 | bool b=>cases b<;>rfl
 | _=>first|exact⟨rfl,h⟩|simp[Value.oneCell'] at h
theorem H5:∀ (b:List Value),(∀ x∈b,x.oneCell'=true)->az ρ (b.map LX) b:=by
 intro b;induction b with
 | nil=>intro _;exact rfl
 | cons x b d=>intro h;exact⟨[x],b,rfl,Q4 x (h x aw),d (fun y c=>h y (by simp[c]))⟩
theorem xS {t:TypeId} {e:List Cell} (h:xR P t=some e):∃ i z,P.info? t=some i/\i.zero=some z/\az ρ e z.cells.toList:=by unfold xR at h;split at h;rename_i i d k u f r m q z o ms g;refine⟨_,z,g,rfl,?_⟩;split at h;rename_i x j;split at h;rename_i c;simp only[aX] at c;simp at h;subst h;rw[AV c.1];exact J4 c.2;simp at h;split at h;rename_i b;simp at h;subst h;exact H5 _ (List.all_eq_true.1 b);simp at h;simp at h
theorem abg (c:Ctx w0 id ρ B w) {t:TypeId} (h:M8 P id t=some out):ct P id B ⟨dst,.alloc t,ty,pos,af,gd⟩ out ρ a w:=by unfold M8 at h;split at h;rename_i j b;simp at h;subst h;obtain⟨i,z,d,f,e⟩:=xS (ρ:=ρ) b;refine tA c (l:=z.cells.toList) (t:=t) (v:=.pointer (some ⟨w.heap.size,0,none⟩)) (bQ rfl ?_) e (fun g h _=>Gm h);unfold Instr.alloc zeroValue;simp only[Sem.run_bind,pA d,Result.andThen_ok,f,Sem.run_pure];simp only[newVar,newRow,Sem.run_bind,run_newObj,Result.andThen_ok,Sem.run_pure];rfl;simp at h
theorem af4 (c:Ctx w0 id ρ B w) {t:TypeId} {x:Operand} {b:List SV} (h:XM id b=some out) (g:bq ρ b [a.eval x]):ct P id B ⟨dst,.box t x,ty,pos,af,gd⟩ out ρ a w:=by unfold XM at h;split at h;rename_i y;obtain⟨z,e,i⟩:=bY g;simp at e;subst e;simp at h;subst h;obtain⟨l,d,f⟩:=TV.xA (x:=y) i;refine tA c (l:=l) (t:=t) (v:=.pointer (some ⟨w.heap.size,0,none⟩)) (bQ rfl ?_) f (fun j h _=>Gm h);unfold Instr.box;simp only[newVar,newRow,Sem.run_bind,run_newObj,Result.andThen_ok,Sem.run_pure,d];rfl;simp at h
theorem yk {t:TypeId} {b N c:Nat} {l:List Value} {d:TypeDesc} (g:P.underlying t=some d) (j:ca w b N l) (h:c+P.cellsOf t<=l.length) :
  (b9 P t=true->(loadVar t ⟨b,c,none⟩).run P w=.ok (.agg ⟨(l.drop c).take (P.cellsOf t)⟩) w) /\
  (b9 P t=false->∀ x,(l.drop c).take 1=[x]->(loadVar t ⟨b,c,none⟩).run P w=.ok x w):=by
 obtain⟨i,k⟩:=lU g;constructor;intro f;unfold loadVar;simp only[Sem.run_bind,jw g,Result.andThen_ok,f,eB,cK k,DQ j h,Sem.run_pure]
 ·intro f x m;unfold loadVar;simp only[Sem.run_bind,jw g,Result.andThen_ok,f,lY,dQ];have e:w.cell? ⟨b,c,none⟩=some x:=by
   refine j.cell ?_;have:=congrArg (fun l:List Value=>l[0]?) m;simpa[fE] using this
  simp[run_load,e]
theorem Iz (k:Ctx w0 id ρ B w) {t:TypeId} {b c:Nat} {l:List Value} {d:TypeDesc} (g:P.underlying t=some d) (j:l≠[]->ρ.M b=some l) (h:c+P.cellsOf t<=l.length) :
  (b9 P t=true->(loadVar t ⟨b,c,none⟩).run P w=.ok (.agg ⟨(l.drop c).take (P.cellsOf t)⟩) w) /\
  (b9 P t=false->∀ x,(l.drop c).take 1=[x]->(loadVar t ⟨b,c,none⟩).run P w=.ok x w):=by
 obtain⟨i,m⟩:=lU g;constructor;intro f;unfold loadVar;simp only[Sem.run_bind,jw g,Result.andThen_ok,f,eB,cK m,E9 k j h,Sem.run_pure]
 ·intro f x n;unfold loadVar;simp only[Sem.run_bind,jw g,Result.andThen_ok,f,lY,dQ];have e:w.cell? ⟨b,c,none⟩=some x:=by
   refine Iy k j ?_;have:=congrArg (fun l:List Value=>l[0]?) n;simpa[fE] using this
  simp[run_load,e]
theorem W8 {d f m:List Value} {b c n:Nat} (e:d.length=b) (g:c+n<=m.length):((d++(m++f)).drop (b+c)).take n=(m.drop c).take n:=by rw[oF,nk aa,dG,e,show b+c-b=c by omega,qn aa,lV (by simp;omega)]
theorem BP {e:Kd} {n:Nat} {u:List (aH e)} {j q b:Nat} {l:Bool} {x:TV} {G:List Prop} {m:List Value} (h:zA e n u j q b l=some (x,G)) (D:∀ p∈G,p) (N:u.length=n) (t:dX (Rd ρ.M e) u m) (L:l=false->b=1) :
  j*width e+q+b<=m.length/\(l=true->x.rel ρ (.agg ⟨(m.drop (j*width e+q)).take b⟩))/\(l=false->∃ v,(m.drop (j*width e+q)).take b=[v]/\x.rel ρ v):=by
 have k:=fS (fun _ _=>b6) t;unfold zA at h;split at h
 ·rename_i f;have f:=gJ f;split at h
  ·rename_i R K;split at h
   ·rename_i y O;simp only[aE,aL] at h;obtain⟨rfl,rfl⟩:=h;have C:j<n:=D _ aw;have A:=yr (fun _ _=>b6) t (i:=j) aa (zeroOf e);have I:=b6 A;have s:j*width e+width e<=m.length:=by
     rw[k,<- iV];exact fb _ aa
    obtain⟨F,Q⟩:=wq K (jh A);have d:(((m.drop (j*width e)).take (width e)).drop q).take b=(m.drop (j*width e+q)).take b:=by rw[qL,lB,fF,iU aa]
    rw[d] at F;have g:((m.drop (j*width e+q)).take b).length=b:=by simp;omega
    obtain⟨g1,g2⟩:=n9 O F (fun h=>by rw[g,L h]);exact⟨aa,g1,g2⟩
   simp at h
  simp at h
 ·split at h
  ·rename_i E;simp only[aX] at E;obtain⟨⟨c,r⟩,o⟩:=E;have c:=beq_true c;have o:=beq_true o;subst c r;simp only[aE,aL] at h;obtain⟨rfl,rfl⟩:=h;have C:j+b/width e<=n:=D _ aw;have H:=(gP (fun _ _=>b6) j t).2;have z:=(gP (fun _ _=>b6) (b/width e) H).1;rw[o] at z;have s:j*width e+b<=m.length:=by
    have:=fb (width e) C;rw[ff,o] at this;rw[k,N];exact this
   refine⟨aa,fun _=>⟨_,rfl,bP (fL (by simp;omega) z)⟩,fun h=>nomatch h⟩
  simp at h
theorem HG {c q i b:Nat} (d:c=b):BB (q/c) i*b+q%c=q+i*c:=by subst d;rw[Hv,ff];have:=Nat.div_add_mod q c;rw[lD c] at this;omega
theorem uI (i:Ctx w0 id ρ B w) {t:TypeId} {x:Operand} {b c:Nat} {l:List Value} {y:TV} {p:List Prop} (h:a.eval x=.pointer (some ⟨b,c,none⟩))
  (j:(b9 P t=true->(loadVar t ⟨b,c,none⟩).run P w=.ok (.agg ⟨(l.drop c).take (P.cellsOf t)⟩) w)/\(b9 P t=false->∀ x,(l.drop c).take 1=[x]->(loadVar t ⟨b,c,none⟩).run P w=.ok x w))
  (m:b9 P t=false->P.cellsOf t=1)
  (k:(b9 P t=true->y.rel ρ (.agg ⟨(l.drop c).take (P.cellsOf t)⟩))/\(b9 P t=false->∃ v,(l.drop c).take (P.cellsOf t)=[v]/\y.rel ρ v)) :
  ct P id B ⟨dst,.load t x,ty,pos,af,gd⟩ { val:=.is y,pre:=p } ρ a w:=by
 have e:Instr.loadAt t (a.eval x)=(do loadVar t (<- Instr.sureAddr (a.eval x))):=rfl;cases d:b9 P t with
 | true=>exact aW i (bQ rfl (by rw[e,h];simp[Instr.sureAddr,j.1 d])) (k.1 d)
 | false =>obtain⟨v,f,g⟩:=k.2 d;rw[m d] at f;exact aW i (bQ rfl (by rw[e,h];simp[Instr.sureAddr,j.2 d v f])) g
theorem Cl (D:Ctx w0 id ρ B w) {t:TypeId} {x:Operand} {u:List Cell} {i b f j c:Nat} {d:TypeDesc} (N:P.underlying t=some d) (F:b9 P t=false->P.cellsOf t=1) (h:Gg P t u f j c=some out) (O:∀ p∈out.pre,p)
  (L:ρ i=some b) (I:B i=some u) (z:u≠[]) (K:a.eval x=.pointer (some ⟨b,f+j*c,none⟩)):ct P id B ⟨dst,.load t x,ty,pos,af,gd⟩ out ρ a w:=by
 unfold Gg at h;split at h
 ·rename_i W e n Z q r s;split at h
  ·rename_i g;have g:=beq_true g;split at h
   ·rename_i y p R;simp at h;subst h;obtain⟨l,k,Q⟩:=D.blks _ _ I z b L;obtain⟨U,m,V,A,T,X,Y,G,H⟩:=wi s Q;simp only at G H;obtain⟨g1,g2,C⟩:=BP R O G H F;rw[HG g] at g1 g2 C;have E:l.length=U.length+(m.length+V.length):=by rw[A];simp
    have o:(l.drop (f+j*c)).take (P.cellsOf t)=(m.drop (q+j*c)).take (P.cellsOf t):=by rw[A,<- T,tU];exact W8 rfl aa
    exact uI D K (yk N k aa) F (by rw[o];exact⟨g2,C⟩)
   simp at h
  simp at h
 simp at h
theorem aeR (r:Ctx w0 id ρ B w) {t:TypeId} {x:Operand} {T:List SV} (u:(P.underlying t).isSome=true) (q:b9 P t=false->P.cellsOf t=1) (h:R3 P t T B=some out) (I:∀ p∈out.pre,p) (L:bq ρ T [a.eval x]):ct P id B ⟨dst,.load t x,ty,pos,af,gd⟩ out ρ a w:=by
 obtain⟨d,u⟩:=Option.isSome_iff_exists.1 u;unfold R3 at h;split at h;rename_i i g;obtain⟨z,e,f⟩:=bY L;simp at e;subst e;obtain⟨b,H,e⟩:=oa f;split at h;rename_i c U k;obtain⟨l,A,Y⟩:=r.blks _ _ k aw b H;split at h;rename_i m W;obtain⟨K,D⟩:=wq W Y;split at h;rename_i y N;simp[ret] at h;subst h;obtain⟨Z,k2⟩:=n9 N K (fun h=>by rw[q h];simp;rw[q h] at D;omega);exact uI r e (yk u A D) q ⟨Z,k2⟩;simp at h;exact Cl r u q h I H k aw (by rw[e,jm,gh]);simp at h;rename_i i Q j c;obtain⟨z,e,f⟩:=bY L;simp at e;subst e;obtain⟨b,H,e⟩:=zc f;split at h;rename_i c U k;exact Cl r u q h I H k aw e;simp at h
 ·rename_i n O i g;obtain⟨z,e,f⟩:=bY L;simp at e;subst e;obtain⟨b,o,⟨l,V,X,G⟩,hi,e⟩:=CI f;split at h
  ·rename_i y p N;simp at h;subst h;obtain⟨g1,g2,R⟩:=BP N I rfl G q;rw[HG rfl] at g1 g2 R;have E:((l.drop o).take (O.length*width n)).length=O.length*width n:=by simp;omega
   rw[E] at g1;have F:o+(i*width n+g)=o+(g+i*width n):=aa;have C:(l.drop (o+(g+i*width n))).take (P.cellsOf t)=(((l.drop o).take (O.length*width n)).drop (g+i*width n)).take (P.cellsOf t):=by rw[qL,lB,fF,iU aa]
   rw[F] at e;exact uI r e (Iz r u V aa) q (by rw[C];exact⟨g2,R⟩)
  simp at h
 simp at h
theorem CQ {t:TypeId} {b N off:Nat} {l u:List Value} {v:Value} {i:TypeInfo} (m:P.info? t=some i) (c:v.cells=⟨u⟩) (g:u.length=P.cellsOf t) (k:ca w b N l) (n:off+u.length<=l.length) (e:∀ x∈u,x.oneCell'=true) :
  ∃ d,(storeVar t ⟨b,off,none⟩ v).run P w=.ok () d/\ca d b N (l.take off++(u++l.drop (off+u.length)))/\d.heap.size=w.heap.size /\
   (∀ f,f≠b->d.heap[f]?=w.heap[f]?)/\d.os=w.os/\d.tape=w.tape/\d.output=w.output:=by
 obtain⟨d,h,j⟩:=pr (P:=P) (b:=b) (off:=off) u 0 w l k aa e;refine⟨d,?_,by simpa using j⟩;unfold storeVar;simp only[Sem.run_bind,cK m,Result.andThen_ok,c];rw[ai (by simpa using g)];simpa using h
theorem JY {e:Kd} {n:Nat} {c t:List (aH e)} {j q:Nat} {g:List Cell} {C:List Prop} {m u:List Value} (h:BQ e n c j q g=some (t,C)) (A:∀ p∈C,p) (G:c.length=n) (s:dX (Rd ρ.M e) c m) (F:az ρ g u) :
  j*width e+q+u.length<=m.length/\t.length=n/\dX (Rd ρ.M e) t (m.take (j*width e+q)++(u++m.drop (j*width e+q+u.length))):=by
 have r:=fS (fun _ _=>b6) s;unfold BQ at h;split at h
 ·rename_i N l;split at h
  ·rename_i y R H;simp only[aE,aL] at h;obtain⟨rfl,rfl⟩:=h;have O:j<n:=A _ aw;have z:=yr (fun _ _=>b6) s (i:=j) aa (zeroOf e);have o:=b6 z;have E:j*width e+width e<=m.length:=by
    rw[r,<- iV];exact fb _ aa
   obtain⟨I,K⟩:=E4 l (jh z) F;obtain⟨Q,L,k,g1,g2⟩:=ij (mh ρ) _ _ _ _ _ _ H (fun p h=>A p (by simp[h])) I;have g2:L=[]:=g2;subst g2;rw[bw] at k;subst k;rw[o] at K;refine⟨aa,by simp[G],?_⟩;have b:=NO (fun _ _=>b6) s (pC g1) j;have f:c.take j++([y]++c.drop (j+[y].length))=c.set j y:=by rw[List.set_eq_take_append_cons_drop,ak aa];rfl
   rw[f] at b;have d:=b6 g1;rw[d] at b;refine (congrArg (dX (Rd ρ.M e) (c.set j y)) ?_).mp b;rw[lB,qL,fF,iU aa,<- tU];have k:m.take (j*width e+q)=m.take (j*width e)++(m.drop (j*width e)).take q:=by rw[<- List.take_add]
   have D:m.drop (j*width e+q+u.length)=(m.drop (j*width e+q+u.length)).take (width e-(q+u.length))++m.drop (j*width e+width e):=by have:=(dO (width e-(q+u.length)) (m.drop (j*width e+q+u.length))).symm;rw[fF,show j*width e+q+u.length+(width e-(q+u.length))=j*width e+width e by omega] at this;exact this
   rw[k];conv=>rhs;rw[D]
   simp only[cH]
  simp at h
 simp at h
theorem AX (O:Ctx w0 id ρ B w) {t:TypeId} {x y:Operand} {E:List Cell} {i b d j c:Nat} {z:TV} (hd:(P.info? t).isSome=true) (h:vo i E d j c z.cells=some out) (hp:∀ p∈out.pre,p) (G:cF z.cells=P.cellsOf t) (hz:z.rel ρ (a.eval y))
  (N:ρ i=some b) (L:B i=some E) (A:E≠[]) (ha:a.eval x=.pointer (some ⟨b,d+j*c,none⟩)):ct P id B ⟨dst,.store t x y,ty,pos,af,gd⟩ out ρ a w:=by
 obtain⟨x0,s⟩:=Option.isSome_iff_exists.1 hd;have k:Instr.storeAt t (a.eval x) (a.eval y)=(do storeVar t (<- Instr.sureAddr (a.eval x)) (a.eval y)):=rfl;unfold vo at h;split at h
 ·rename_i a0 e n xs q r C;split at h
  ·rename_i f;have f:=beq_true f;split at h
   ·rename_i ys p hy;simp at h;subst h;obtain⟨l,o,hr⟩:=O.blks _ _ L A b N;obtain⟨D,m,I,F,k1,k2,k3,R,T⟩:=wi C hr;simp only at R T;obtain⟨u,hu,g⟩:=TV.xA (x:=z) hz;have H:=gp g;obtain⟨g1,g2,K⟩:=JY hy hp R T g;rw[HG f] at g1 K;have Q:l.length=D.length+(m.length+I.length):=by rw[F];simp
    obtain⟨w',W,f2,X,Y,Z,f6,f7⟩:=CQ s hu (by rw[H,G]) o (off:=d+j*c) aa (BL g);refine Ec O N L A (YQ rfl (by rw[k,ha];simp[Instr.sureAddr,W])) f2 ?_ X Y Z f6 f7;have U:l.take (d+j*c)=D++m.take (q+j*c):=by rw[F,List.take_append,bW aa,show d+j*c-D.length=q+j*c by omega,lV aa]
    have V:l.drop (d+j*c+u.length)=m.drop (q+j*c+u.length)++I:=by rw[F,oF,nk aa,dG,show d+j*c+u.length-D.length=q+j*c+u.length by omega,qn aa]
    rw[U,V,cH];refine gn k2 ⟨_,I,?_,fL g2 K,k3⟩;simp only[cH]
   simp at h
  simp at h
 simp at h
theorem abn (H:Ctx w0 id ρ B w) {t:TypeId} {x y:Operand} {T:List SV} (I:(P.info? t).isSome=true) (h:Nf P t T B=some out) (E:∀ p∈out.pre,p) (R:bq ρ T [a.eval x,a.eval y]):ct P id B ⟨dst,.store t x y,ty,pos,af,gd⟩ out ρ a w:=by
 obtain⟨x0,D⟩:=Option.isSome_iff_exists.1 I;have q:Instr.storeAt t (a.eval x) (a.eval y)=(do storeVar t (<- Instr.sureAddr (a.eval x)) (a.eval y)):=rfl;unfold Nf at h;split at h
 ·rename_i i n z;obtain⟨z1,z2,e,m,g⟩:=cC R;simp only[bx,bR] at e;obtain⟨rfl,rfl⟩:=e;obtain⟨b,r,e⟩:=oa m;split at h
  ·rename_i c G f d;have d:=beq_true d;have put:∀ {o:Out},AB i (c::G) n z.cells=some o->ct P id B ⟨dst,.store t x y,ty,pos,af,gd⟩ o ρ a w:=by
    intro o h;unfold AB at h;split at h;rename_i U C;simp at h;subst h;obtain⟨l,A,hr⟩:=H.blks _ _ f aw b r;obtain⟨u,hu,k⟩:=TV.xA (x:=z) g;obtain⟨N,K⟩:=E4 C hr k;have O:=gp k;obtain⟨w',g1,g2,V,W,X,Y,Z⟩:=CQ D hu (by rw[O,d]) A K (BL k);exact Ec H r f aw (YQ rfl (by rw[q,e];simp[Instr.sureAddr,g1])) g2 N V W X Y Z;simp at h
   have F:∀ {o:Out},vo i (c::G) n 0 (RE (c::G) n) z.cells=some o->(∀ p∈o.pre,p)->ct P id B ⟨dst,.store t x y,ty,pos,af,gd⟩ o ρ a w:=by intro o h E;exact AX H I h E d g r f aw (by rw[e,jm,gh])
   unfold MJ at h;split at h;split at h;rename_i o L;simp at h;subst h;exact F L E;exact put h;split at h;rename_i o L;simp at h;subst h;exact put L;exact F h E
  simp at h
 rename_i i Q j c z;obtain⟨z1,z2,e,m,g⟩:=cC R;simp only[bx,bR] at e;obtain⟨rfl,rfl⟩:=e;obtain⟨b,r,e⟩:=zc m;split at h;rename_i c G f d;exact AX H I h E (beq_true d) g r f aw e;simp at h;simp at h
theorem vF {t:TypeId} {f:Nat} {d:Field} (h:sK P t f=some d):∃ b,P.underlying t=some (.struct b)/\b[f]?=some d:=by unfold sK at h;split at h;rename_i b c;exact⟨b,c,h⟩;simp at h
theorem yj {t:TypeId} {f:Nat} {c:Field} {b g:Nat} (h:sK P t f=some c) (m:(P.info? c.type).isSome=true) (k:beq (P.cellsOf c.type) 0=false) :
  (Instr.fieldAt t (.pointer (some ⟨b,g,none⟩)) f).run P w=.ok (.pointer (some ⟨b,g+c.offset,none⟩)) w:=by
 obtain⟨o,i,l⟩:=vF h;obtain⟨n,d⟩:=Option.isSome_iff_exists.1 m;have j:P.cellsOf c.type≠0:=by intro e;rw[e] at k;cases k
 unfold Instr.fieldAt fieldPlace;simp only[Sem.run_bind,bp i,Result.andThen_ok,l,Instr.sureAddr,Sem.run_pure,cK d,ai j,ln,Sem.run_ite]
theorem NH (q:Ctx w0 id ρ B w) {t:TypeId} {x:Operand} {f:Nat} {D:List SV} (r:∀ m,sK P t f=some m->(P.info? m.type).isSome=true) (h:AK P t f D=some out) (y:bq ρ D [a.eval x]):ct P id B ⟨dst,.fieldAddr t x f,ty,pos,af,gd⟩ out ρ a w:=by unfold AK at h;split at h;rename_i m d;split at h;rename_i i A l;obtain⟨z,e,g⟩:=bY y;simp at e;subst e;obtain⟨b,n,e⟩:=oa g;simp[ret] at h;subst h;exact aW q (bQ rfl (by rw[e];exact yj d (r _ d) l)) (Gm n);rename_i i C j c l;obtain⟨z,e,g⟩:=bY y;simp at e;subst e;obtain⟨b,n,e⟩:=zc g;simp[ret] at h;subst h;exact aW q (bQ rfl (by rw[e];exact yj d (r _ d) l)) (Gl n aa);rename_i E F i A l;obtain⟨z,e,g⟩:=bY y;simp at e;subst e;obtain⟨b,o,k,u,e⟩:=CI g;simp[ret] at h;subst h;exact aW q (bQ rfl (by rw[e];exact yj d (r _ d) l)) (Dc k u aa);simp at h;simp at h
theorem af6 (j:Ctx w0 id ρ B w) {x:Operand} {i:List SV} (h:XO i=some out) (l:bq ρ i [a.eval x]):ct P id B ⟨dst,.nilCheck x,ty,pos,af,gd⟩ out ρ a w:=by
 unfold XO at h;split at h
 ·rename_i c;split at h
  ·rename_i k;simp[ret] at h;subst h;obtain⟨z,e,d⟩:=bY l;simp at e;subst e;have f:∃ g,a.eval x=.pointer (some g):=by
    cases c<;>simp[Lw] at k;obtain⟨b,_,e⟩:=oa d;exact⟨_,e⟩;obtain⟨b,_,e⟩:=zc d;exact⟨_,e⟩;obtain⟨b,o,_,_,e⟩:=CI d;exact⟨_,e⟩
   obtain⟨g,e⟩:=f;refine aW j (v:=a.eval x) ?_ d;simp[execOp,e]
  simp at h
 simp at h
theorem af2 (C:Ctx w0 id ρ B w) {t:TypeId} {x:Operand} {F:List SV} (h:XK P t F=some out) (D:∀ p∈out.pre,p) (E:bq ρ F [a.eval x]):ct P id B ⟨dst,.sliceToArrayPointer t x,ty,pos,af,gd⟩ out ρ a w:=by
 unfold XK at h;split at h
 ·rename_i n e b f A len c y;split at h
  ·rename_i i;simp only[aX] at i;have H:=fG i.1;simp at h;subst h;have k:n<=len:=D _ aw;obtain⟨z,g,d⟩:=bY E;simp at g;subst g;rcases nW d with ⟨j,_⟩|⟨m,o,q,u,I,ho,L,r⟩;omega
   ·have ho:o=f+A*c:=by
     rcases ho with ho|ho;exact ho;omega
    refine aW C (v:=.pointer (some ⟨m,o,none⟩)) (bQ rfl ?_) (Gl u ho);rw[r];unfold Instr.arrayAt;simp only[Sem.run_bind,bp y,Result.andThen_ok,ai (show ¬ len<n by omega),Sem.run_pure]
  simp at h
 rename_i n e K G y;split at h;rename_i i;simp only[aX] at i;have H:=fG i.1;simp at h;subst h;have k:n<=G.length:=D _ aw;obtain⟨z,g,d⟩:=bY E;simp at g;subst g;rcases CH d with ⟨j,_⟩|⟨m,o,q,r,I,l⟩;subst j;simp at k;omega;refine aW C (v:=.pointer (some ⟨m,o,none⟩)) (bQ rfl ?_) (Dc l aa aa);rw[r];unfold Instr.arrayAt;simp only[Sem.run_bind,bp y,Result.andThen_ok,ai (show ¬ G.length<n by omega),Sem.run_pure];simp at h;simp at h
end
section
variable {P:Program} (w:World)
def valOf (P:Program) (t:TypeId) (b:List IV):Value :=
 match b9 P t with
 | true=>.agg ⟨b.map iv⟩
 | false=>iv (b.getD 0 (.u8,0))
theorem At {t:TypeId} {d:TypeDesc} (h:P.underlying t=some d) (e:b9 P t=false->P.cellsOf t=1) (c:List IV) (b:Nat) (k:b+P.cellsOf t<=c.length) :
  (part t ⟨c.map iv⟩ b).run P w=.ok (valOf P t ((c.drop b).take (P.cellsOf t))) w:=by
 obtain⟨i,j⟩:=lU h;unfold part valOf;simp only[Sem.run_bind,jw h,Result.andThen_ok];cases f:b9 P t with
 | true =>simp only[eB,Sem.run_bind,cK j,Result.andThen_ok,Sem.run_pure];congr 2;simp
 | false =>have e:=e f;simp only[lY,dQ];have g:b<c.length:=aa;simp[g,e]
theorem I1 {d:Type} [DecidableEq d] {b c:List d} {n:Nat}:∀ (o:Nat),(decide ((b.drop o).take n=(c.drop o).take n)&&decide (b.drop (o+n)=c.drop (o+n)))=decide (b.drop o=c.drop o):=by intro o;rw[nr];simp only[aX,lZ];constructor;rintro⟨e,f⟩;rw[<- dO n (b.drop o),<- dO n (c.drop o),e];simp only[fF];rw[f];intro h;rw[h];refine⟨rfl,?_⟩;rw[<- fF,<- fF,h]
def tu (b c:List IV):Prop:=b.map Prod.fst=c.map Prod.fst
theorem tu.part {b c:List IV} (h:tu b c) (o n:Nat):tu ((b.drop o).take n) ((c.drop o).take n):=by have:=congrArg (fun l=>(l.drop o).take n) h;simpa[tu,List.map_take,List.map_drop] using this
theorem Cf:∀ (d:Nat) (t:TypeId),nA P d t=true->(∃ g,P.underlying t=some g)/\(b9 P t=false->P.cellsOf t=1):=by
 intro d t h;cases d with
 | zero=>simp[nA] at h
 | succ d =>unfold nA at h;split at h;rename_i k i;exact⟨⟨_,i⟩,fun _=>beq_true h⟩;rename_i n e f;exact⟨⟨_,f⟩,fun b=>by simp[b9,f] at b⟩;rename_i j b;exact⟨⟨_,b⟩,fun c=>by simp[b9,b] at c⟩;simp at h
theorem Mu {k:TypeId->Bool} {D:Nat}
  (m:∀ t,k t=true->(∃ x,P.underlying t=some x)/\(b9 P t=false->P.cellsOf t=1))
  (F:∀ t,k t=true->∀ (b c:List IV) (w:World),tu b c->b.length=P.cellsOf t->c.length=P.cellsOf t->(Op.equalIn D t (valOf P t b) (valOf P t c)).run P w=.ok (decide (b=c)) w) :
  ∀ (d:List Field) (o n:Nat) (b c:List IV),sL P k o n d=true->tu b c->b.length=n->c.length=n ->
   (Op.eqFields D ⟨b.map iv⟩ ⟨c.map iv⟩ d).run P w=.ok (decide (b.drop o=c.drop o)) w:=by
 intro d;induction d with
 | nil =>intro o n b c h _ q r;have:=beq_true h;subst this;simp[Op.eqFields,nk (wY q),nk (wY r)]
 | cons f d s =>
  intro o n b c h A q r;simp only[sL,aX,bne_iff_ne,ne_eq] at h;obtain⟨⟨⟨C,y⟩,l⟩,z⟩:=h;have l:=beq_true l;have j:∀ (d:List Field) (o n:Nat),sL P k o n d=true->o<=n:=by
   intro d;induction d with
   | nil=>intro o n h;have:=beq_true h;omega
   | cons g G u =>intro o n h;simp only[sL,aX] at h;have:=u _ _ h.2;omega
  have j:=j _ _ _ z;obtain⟨⟨x,i⟩,e⟩:=m _ y;unfold Op.eqFields;rw[ak (by simpa using C)];simp only[Sem.run_bind,l,At w i e b o aa,Result.andThen_ok,At w i e c o aa];rw[F _ y _ _ w (A.part _ _) (by simp;omega) (by simp;omega)];simp only[Result.andThen_ok];rw[<- I1 (n:=P.cellsOf f.type) o];cases E:decide ((b.drop o).take (P.cellsOf f.type)=(c.drop o).take (P.cellsOf f.type)) with
  | false=>simp
  | true =>simp only[oM,lY,dQ,h8];exact s _ _ b c z A q r
theorem NG {e:TypeId} {D:Nat} {o:TypeDesc} (f:P.underlying e=some o) (d:b9 P e=false->P.cellsOf e=1)
  (u:∀ (b c:List IV) (w:World),tu b c->b.length=P.cellsOf e->c.length=P.cellsOf e->(Op.equalIn D e (valOf P e b) (valOf P e c)).run P w=.ok (decide (b=c)) w)
  (b c:List IV) (s:tu b c):∀ (m i n:Nat),i+m=n->b.length=n*P.cellsOf e->c.length=n*P.cellsOf e ->
   (do
    let r <- forIn (List.range' i m) (none,()) (fun (i:Nat) (_:Option Bool × Unit)=>do
     let r <- Op.equalIn D e (<- part e ⟨b.map iv⟩ (i*P.cellsOf e)) (<- part e ⟨c.map iv⟩ (i*P.cellsOf e))
     if (!r)=true then pure (ForInStep.done (some false,())) else pure (ForInStep.yield (none,())))
    match r.1 with
     | some r=>pure r
     | none=>(pure true:Sem Bool)).run P w=.ok (decide (b.drop (i*P.cellsOf e)=c.drop (i*P.cellsOf e))) w:=by
 intro m;induction m with
 | zero =>intro i n h j k;have:i=n:=aa;subst this;simp[nk (wY j),nk (wY k)]
 | succ m l =>
  intro i n h j k;have t:i*P.cellsOf e+P.cellsOf e<=n*P.cellsOf e:=by have:(i+1)*P.cellsOf e<=n*P.cellsOf e:=fb _ aa;rw[iV] at this;exact this
  have g:=l (i+1) n aa j k;simp only[tO,List.forIn_cons,Sem.run_bind,At w f d b _ (by omega:i*P.cellsOf e+P.cellsOf e<=b.length),Result.andThen_ok,At w f d c _ (by omega:i*P.cellsOf e+P.cellsOf e<=c.length)] at g ⊢;rw[u _ _ w (s.part _ _) (by simp;omega) (by simp;omega)];simp only[Result.andThen_ok];rw[<- I1 (n:=P.cellsOf e) (i*P.cellsOf e)];rw[show (i+1)*P.cellsOf e=i*P.cellsOf e+P.cellsOf e from iV _ _] at g;cases q:decide ((b.drop (i*P.cellsOf e)).take (P.cellsOf e)=(c.drop (i*P.cellsOf e)).take (P.cellsOf e)) with
  | false=>simp
  | true =>simp only[oM,lY,dQ,h8,Sem.run_pure,Result.andThen_ok];exact g
theorem E8:∀ (d:Nat) (t:TypeId),nA P d t=true->∀ (D:Nat),d<=D->∀ (b c:List IV) (w:World),tu b c->b.length=P.cellsOf t->c.length=P.cellsOf t ->
  (Op.equalIn D t (valOf P t b) (valOf P t c)).run P w=.ok (decide (b=c)) w:=by
 intro d;induction d with
 | zero=>intro t h;simp[nA] at h
 | succ d E =>
  intro t h D N b c w r u z;obtain⟨D,rfl⟩:∃ F,D=F+1:=⟨D-1,aa⟩;unfold nA at h;split at h
  ·rename_i H j;have m:=beq_true h;have f:b9 P t=false:=by simp[b9,j]
   rw[m] at u z;match b,c,u,z with
   | [(k,x)],[(I,y)],_,_ =>
    have e:k=I:=by simpa[tu] using r
    subst e;simp only[valOf,f];refine (run_equalIn_int w D t k H _ _ j).trans ?_;congr 1;rw[nr];simp
  ·rename_i n e C;split at h
   ·rename_i m;have m:=beq_true m;obtain⟨⟨L,g⟩,l⟩:=Cf d e h;obtain⟨O,q⟩:=lU g;have f:b9 P t=true:=by simp[b9,C]
    simp only[valOf,f];have:=NG (D:=D) w g l (fun b c w=>E e h D aa b c w) b c r n 0 n aa aa aa;simp only[jm,gL] at this;unfold Op.equalIn;simp only[Sem.run_bind,bp C,Result.andThen_ok,cK q,Std.Legacy.Range.forIn_eq_forIn_range',Std.Legacy.Range.size] at this ⊢;simp at this ⊢;refine Eq.trans (congrArg (Result.andThen _) (funext fun a=>funext fun Q=>?_)) this;obtain⟨G,K⟩:=a;cases G<;>rfl
   simp at h
  ·rename_i A o;simp only[aX,oE] at h;have f:b9 P t=true:=by simp[b9,o]
   have i:P.fieldsOf t=A:=by simp[Program.fieldsOf,o]
   simp only[valOf,f];rw[run_equalIn_struct w D t _ _ (by rw[i];exact o) h.2,i];have:=Mu (D:=D) w (fun t s=>Cf d t s) (fun t s b c w=>E t s D aa b c w) A.toList 0 _ b c h.1 r u z;simpa using this
  simp at h
end
section
variable {P:Program} {w0:cD} {id:Nat} {ρ:aC} {B:bE} {w:World} {a:Act} {dst:Option Tmp} {ty:TypeId} {pos:String} {af:Array Edge} {gd:Option (Nat × Bool)} {out:Out}
theorem run_indexAt_array {t e:TypeId} {n b c:Nat} {k:IntKind} {i:Int} (h:P.underlying t=some (.array n e)) (f:(P.info? e).isSome=true) (g:0<=i/\i<(n:Int)) :
  (Instr.indexAt t (.pointer (some ⟨b,c,none⟩)) (.int k i)).run P w=.ok (.pointer (some ⟨b,c+i.toNat*P.cellsOf e,none⟩)) w:=by
 obtain⟨j,d⟩:=Option.isSome_iff_exists.1 f;unfold Instr.indexAt;simp only[Sem.run_bind,asIntOf,Sem.run_pure,Result.andThen_ok,bp h,Instr.sureAddr,Sem.run_ite,ak g,cK d,ln]
theorem run_indexAt_slice {t e:TypeId} {len d b c:Nat} {k:IntKind} {i:Int} (h:P.underlying t=some (.slice e)) (g:(P.info? e).isSome=true) (j:0<=i/\i<(len:Int)) :
  (Instr.indexAt t (.slice (some ⟨b,c,none⟩) len d) (.int k i)).run P w=.ok (.pointer (some ⟨b,c+i.toNat*P.cellsOf e,none⟩)) w:=by
 obtain⟨l,f⟩:=Option.isSome_iff_exists.1 g;unfold Instr.indexAt;simp only[Sem.run_bind,asIntOf,Sem.run_pure,Result.andThen_ok,bp h,Sem.run_ite,ak j,cK f,ln]
theorem mo {t:TypeId} (h:uz P t=true):(P.info? t).isSome=true/\(P.underlying t).isSome=true/\(b9 P t=false->P.cellsOf t=1):=by simp only[uz,aX,oH] at h;obtain⟨⟨c,d⟩,h3⟩:=h;refine⟨c,d,fun b=>?_⟩;rcases h3 with h3|h3;rw[h3] at b;cases b;exact beq_true h3
theorem fH {t e:TypeId} {n:Nat} (h:lp P t=true) (ht:P.underlying t=some (.array n e)\/P.underlying t=some (.slice e)) :
  (P.info? e).isSome=true/\(P.underlying e).isSome=true/\(b9 P e=false->P.cellsOf e=1):=by
 refine mo ?_;rcases ht with ht|ht<;>simpa[lp,ht] using h
theorem AQ {t:TypeId} {f:Nat} {b:Field} (h:lp P t=true) (d:sK P t f=some b) :
  (P.info? b.type).isSome=true/\(P.underlying b.type).isSome=true/\(b9 P b.type=false->P.cellsOf b.type=1):=by
 obtain⟨g,c,e⟩:=vF d;simp only[lp,c,nq] at h;exact mo (h b (Array.mem_of_getElem? e))
theorem zW {i:Int} {n:Nat} (h:OS i n=true):0<=i/\i<(n:Int):=by
 unfold OS at h;split at h
 ·rename_i m;have:m<n:=by simpa[lG] using h
  exact⟨Int.natCast_nonneg _,by simp;exact this⟩
 cases h
theorem NI (K:Ctx w0 id ρ B w) {t:TypeId} {x y:Operand} {l:Bool} {vs:List SV} (F:lp P t=true) (h:AL P t l vs=some out) (V:∀ p∈out.pre,p) (U:bq ρ vs [a.eval x,a.eval y]):ct P id B ⟨dst,.indexAddr t x y,ty,pos,af,gd⟩ out ρ a w:=by
 unfold AL at h;split at h;rename_i n e b Q k i g;obtain⟨Y,Z,r,d,f⟩:=cC U;simp only[bx,bR] at r;obtain⟨rfl,rfl⟩:=r;obtain⟨b',E,C⟩:=oa d;have D:=cc f;obtain⟨G,W,X⟩:=fH F (.inl g);split at h;split at h;rename_i z;simp[ret] at h;subst h;exact aW K (bQ rfl (by rw[C,D];exact run_indexAt_array g G (zW z))) (Gm E);simp at h;simp at h;subst h;exact aW K (bQ rfl (by rw[C,D];exact run_indexAt_array g G (V _ aw))) (Gl E rfl);rename_i n e b I j c k i g;obtain⟨Y,Z,r,d,f⟩:=cC U;simp only[bx,bR] at r;obtain⟨rfl,rfl⟩:=r;obtain⟨b',E,C⟩:=zc d;have D:=cc f;obtain⟨G,W,X⟩:=fH F (.inl g);split at h;rename_i z;simp[ret] at h;subst h;exact aW K (bQ rfl (by rw[C,D];exact run_indexAt_array g G (zW z))) (Gl E aa);simp at h
 ·rename_i n e e' xs j Q k i g;obtain⟨Y,Z,r,d,f⟩:=cC U;simp only[bx,bR] at r;obtain⟨rfl,rfl⟩:=r;obtain⟨b,o,u,z,C⟩:=CI d;have D:=cc f;obtain⟨G,W,X⟩:=fH F (.inl g);split at h;split at h;rename_i T;simp[ret] at h;subst h;exact aW K (bQ rfl (by rw[C,D];exact run_indexAt_array g G (zW T))) (Dc u z aa);simp at h
  ·split at h
   ·rename_i c A;simp at h;subst h;have hi:0<=i/\i<(n:Int):=V _ aw;cases e' with
    | arr m R =>
     simp only[W4] at A;split at A
     ·rename_i E;simp only[aX] at E;have h1:=beq_true E.1.1;have h2:=beq_true E.1.2;have h3:=gJ E.2;simp only[aE] at A;subst A;subst h1;obtain⟨L,hM,hL,hR⟩:=u;have hg:=yr (fun _ _=>b6) hR z ([]:List (aH R));obtain⟨N,O⟩:=hg;have x1:j*width (.arr m R)+width (.arr m R)<=xs.length*width (.arr m R):=by
       rw[<- iV];exact fb _ aa
      refine aW K (bQ rfl (by rw[C,D];exact run_indexAt_array g G hi)) ⟨b,o+j*width (.arr m R),⟨L,hM,?_,?_⟩,by rw[N];omega,?_⟩;rw[N];simp only[width] at hL x1 ⊢;omega;rw[N];rw[qL,lB,fF] at O;rw[iU aa] at O;exact O;rw[h2];simp only[gh,tU]
     simp at A
    | _=>simp[W4] at A
   simp at h
 ·rename_i e b I Q len c k i g;obtain⟨Y,Z,r,d,f⟩:=cC U;simp only[bx,bR] at r;obtain⟨rfl,rfl⟩:=r;have D:=cc f;obtain⟨G,W,X⟩:=fH (n:=0) F (.inr g);split at h
  ·rename_i q;have q:=beq_true q;simp at h;subst h;have H:0<=i/\i<(len:Int):=V _ aw;rcases nW d with ⟨h0,_⟩|⟨b',o,x0,E,hl,ho,_,C⟩;omega;have ho:o=I+Q*c:=by
    rcases ho with ho|ho;exact ho;omega
   subst ho;exact aW K (bQ rfl (by rw[C,D];exact run_indexAt_slice g G H)) (Gl E (by rw[Hv,ff,q];omega))
  simp at h
 rename_i e e' xs k i g;obtain⟨Y,Z,r,d,f⟩:=cC U;simp only[bx,bR] at r;obtain⟨rfl,rfl⟩:=r;have D:=cc f;obtain⟨G,W,X⟩:=fH (n:=0) F (.inr g);split at h;rename_i q;have q:=beq_true q;simp at h;subst h;have H:0<=i/\i<(xs.length:Int):=V _ aw;rcases CH d with ⟨h0,_⟩|⟨b',o,x0,C,hl,u⟩;subst h0;simp at H;omega;exact aW K (bQ rfl (by rw[C,D];exact run_indexAt_slice g G H)) (Dc u aa (by rw[q];omega));simp at h;simp at h
theorem JH {t:TypeId} {h:TypeDesc} (d:P.underlying t=some h) (o:b9 P t=false->P.cellsOf t=1) {l:List Value} {c:Nat} {x:TV}
  (k:b9 P t=true->x.rel ρ (.agg ⟨(l.drop c).take (P.cellsOf t)⟩)) (m:b9 P t=false->∃ v,(l.drop c).take (P.cellsOf t)=[v]/\x.rel ρ v):∃ v,(part t ⟨l⟩ c).run P w=.ok v w/\x.rel ρ v:=by
 obtain⟨n,e⟩:=lU d;cases b:b9 P t with
 | true =>refine⟨_,?_,k b⟩;unfold part;simp only[Sem.run_bind,jw d,Result.andThen_ok,b,eB,cK e,Sem.run_pure];congr 2;simp
 | false =>
  obtain⟨v,f,g⟩:=m b;refine⟨v,?_,g⟩;unfold part;simp only[Sem.run_bind,jw d,Result.andThen_ok,b,lY,dQ];rw[o b] at f;have:=congrArg (fun l:List Value=>l[0]?) f;have j:l[c]?=some v:=by simpa[fE] using this
  simp[j]
theorem abk (L:Ctx w0 id ρ B w) {t:TypeId} {x y:Operand} {U:Bool} {Z:List SV} (N:lp P t=true) (h:Nb P t U Z=some out) (W:∀ p∈out.pre,p) (F:bq ρ Z [a.eval x,a.eval y]):ct P id B ⟨dst,.index t x y,ty,pos,af,gd⟩ out ρ a w:=by
 unfold Nb at h;split at h
 ·rename_i n e cs Y i E;obtain⟨z1,z2,k,g,j⟩:=cC F;simp only[bx,bR] at k;obtain⟨rfl,rfl⟩:=k;have I:=cc j;obtain⟨l,H,X⟩:=g;obtain⟨q1,q2,G⟩:=fH N (.inl E);obtain⟨ds,q⟩:=Option.isSome_iff_exists.1 q2;obtain⟨ie,O⟩:=Option.isSome_iff_exists.1 q1;have D:0<=i/\i<(n:Int)->∀ (v:Value),(part e ⟨l⟩ (i.toNat*P.cellsOf e)).run P w=.ok v w ->
    (Instr.index t (a.eval x) (a.eval y)).run P w=.ok v w:=by
   intro r v F;rw[H,I];unfold Instr.index;simp only[Sem.run_bind,asIntOf,Sem.run_pure,Result.andThen_ok,bp E,Sem.run_ite,ak r,cK O];exact F
  split at h;split at h;rename_i m b hm;split at h;rename_i z R;simp[ret] at h;subst h;obtain⟨T,C⟩:=wq hm X;obtain⟨g1,g2⟩:=n9 R T (fun h=>by rw[G h] at C ⊢;simp;omega);obtain⟨v,d,f⟩:=JH (w:=w) q G g1 g2;exact aW L (bQ rfl (D (zW b) v d)) f;simp at h;simp at h
  ·split at h
   ·rename_i c;split at h
    ·rename_i e' m xs A;split at h
     ·rename_i z o R;simp only[aX] at o;have K:=beq_true o.1;have x0:=gJ o.2;simp at h;subst h;have r:0<=i/\i<(n:Int):=W _ aw;obtain⟨T,C,k3⟩:=kD A (cY X);simp only at T C k3;have u:=fS (fun _ _=>b6) C;have V:=yr (fun _ _=>b6) C (i:=i.toNat) aa (zeroOf e');rw[K] at V u;have Q:i.toNat*P.cellsOf e+P.cellsOf e<=l.length:=by
       rw[u,<- iV];exact fb _ aa
      obtain⟨g1,g2⟩:=n9 R (jh V) (fun h=>by rw[G h] at Q ⊢;simp;omega);obtain⟨v,d,f⟩:=JH (w:=w) q G g1 g2;exact aW L (bQ rfl (D r v d)) f
     simp at h
    simp at h
   simp at h
 ·rename_i sx Y i E;obtain⟨z1,z2,k,g,j⟩:=cC F;simp only[bx,bR] at k;obtain⟨rfl,rfl⟩:=k;have H:=cc g;have I:=cc j;simp only[aE] at h;subst h;have r:0<=i/\i<(sx.size:Int):=W _ aw;have b:i.toNat<sx.size:=aa;have o:(jB sx).getD i.toNat 0=((sx[i.toNat]'b).toNat:Int):=by
   have hl:i.toNat<sx.data.toList.length:=by simpa using b
   simp only[jB,a2,dy,bu hl,c6,cx];rfl
  refine aW L (bQ rfl ?_) (kP rfl);rw[H,I,run_index_string w t sx Y i E,dif_pos r,o]
 simp at h
theorem abj (D:Ctx w0 id ρ B w) {t:TypeId} {x:Operand} {f:Nat} {F:List SV} (n:lp P t=true) (h:Na P t f F=some out) (K:bq ρ F [a.eval x]):ct P id B ⟨dst,.field t x f,ty,pos,af,gd⟩ out ρ a w:=by
 unfold Na at h;split at h
 ·rename_i k U d;obtain⟨z,e,u⟩:=bY K;simp at e;subst e;obtain⟨l,C,I⟩:=u;obtain⟨R,T,A⟩:=AQ n d;obtain⟨V,c⟩:=Option.isSome_iff_exists.1 T;obtain⟨N,i⟩:=Option.isSome_iff_exists.1 R;obtain⟨W,g,E⟩:=vF d;split at h
  ·rename_i m H;obtain⟨q,o⟩:=wq H I;split at h
   ·rename_i y L;simp[ret] at h;subst h;obtain⟨O,Q⟩:=n9 L q (fun h=>by rw[A h];simp;rw[A h] at o;omega);cases b:b9 P k.type with
    | true =>refine aW D (v:=.agg ⟨(l.drop k.offset).take (P.cellsOf k.type)⟩) (bQ rfl ?_) (O b);rw[C];unfold Instr.field part;simp only[Sem.run_bind,bp g,Result.andThen_ok,E,asAgg,Sem.run_pure,jw c,b,eB,cK i];congr 2;simp
    | false =>
     obtain⟨v,j,r⟩:=Q b;refine aW D (v:=v) (bQ rfl ?_) r;rw[C];unfold Instr.field part;simp only[Sem.run_bind,bp g,Result.andThen_ok,E,asAgg,Sem.run_pure,jw c,b,lY,dQ];rw[A b] at j;have:=congrArg (fun l:List Value=>l[0]?) j;have G:l[k.offset]?=some v:=by simpa[fE] using this
     simp[G]
   simp at h
  simp at h
 simp at h
theorem RS:∀ {l:List TV} {b:List Value} {i:Nat} {x:TV},eP ρ l b->l[i]?=some x->∃ v,b[i]?=some v/\x.rel ρ v:=by
 intro l;induction l with
 | nil=>intro b i x _ h;simp at h
 | cons t g f =>
  intro b i x e h;obtain⟨y,j,rfl,c,d⟩:=e;cases i with
  | zero=>simp at h;subst h;exact⟨y,rfl,c⟩
  | succ i=>simp at h;simpa using f d h
theorem T8 (j:Ctx w0 id ρ B w) {x:Operand} {i:Nat} {f:List SV} (h:Fq i f=some out) (m:bq ρ f [a.eval x]):ct P id B ⟨dst,.extract x i,ty,pos,af,gd⟩ out ρ a w:=by unfold Fq at h;split at h;rename_i l;obtain⟨z,e,d⟩:=bY m;simp at e;subst e;obtain⟨o,g,k⟩:=d;split at h;rename_i y n;simp[ret] at h;subst h;obtain⟨v,b,c⟩:=RS k n;refine aW j (v:=v) (bQ rfl ?_) c;rw[g];simp[Instr.extract,b];simp at h;simp at h
theorem Ry {b:BinOp} {t:TypeId} {k:IntKind} {i j:Int} {v:Value} {p:List Prop} (e:H2 b=false) (h:Lv b k i j=some (v,p)) (d:∀ q∈p,q) :
  (binOp b t (.int k i) (.int k j)).run P w=.ok v w/\v.oneCell'=true:=by
 cases b<;>simp[H2] at e<;>simp[Lv] at h<;>obtain⟨rfl,rfl⟩:=h<;>refine⟨?_,rfl⟩ <;>
  first
   | (simp[binOp,Op.intArith];done)
   | (simp[binOp,Op.intBits,aD];done)
   | (simp[binOp,Op.intCmp];done)
   | (have c:=d _ (List.mem_singleton.2 rfl);simp[binOp,Op.intDiv,c];done)
theorem Rz {b:BinOp} {t:TypeId} {k k':IntKind} {i j:Int} {v:Value} (h:MA b k i j=some v) (d:0<=j) :
  (binOp b t (.int k i) (.int k' j)).run P w=.ok v w/\v.oneCell'=true:=by
 have c:¬ j<0:=aa;cases b<;>simp[MA] at h<;>subst h<;>refine⟨?_,rfl⟩<;>simp[binOp,Op.shift,c]
theorem xB {b:BinOp} {t:TypeId} {x y:Operand} {k k':IntKind} {i j:Int}:(eqGuard b t x y (.int k i) (.int k' j)).run P w=.ok () w:=by cases b<;>simp[eqGuard]
theorem wg {b:BinOp} {t:TypeId} {x y:Operand} {i j:Bool}:(eqGuard b t x y (.bool i) (.bool j)).run P w=.ok () w:=by cases b<;>simp[eqGuard]
theorem gD {c:Cell} {b:Bool} {v:Value} (h:vw c=some b) (d:(SV.is (.one c)).rel ρ v):v=.bool b:=by
 cases c with
 | T=>simp[vw] at h;subst h;have:[v]=_:=d;simpa using this
 | F=>simp[vw] at h;subst h;have:[v]=_:=d;simpa using this
 | v x =>cases x<;>simp[vw] at h;subst h;exact cc d
 | _=>simp[vw] at h
theorem JU {t:TypeId} {k:Bool} {A C:List Cell} {u v:Value} (h:Zi P t k A C=some out) (E:∀ p∈out.pre,p) (K:(SV.is (.agg A)).rel ρ u) (L:(SV.is (.agg C)).rel ρ v) (x y:Operand) :
  ∃ r p,out={ val:=.is (.one (.v (.bool r))),pre:=p }/\(do eqGuard (bif k then .neq else .eql) t x y u v;binOp (bif k then .neq else .eql) t u v).run P w=.ok (.bool r) w:=by
 unfold Zi at h;split at h
 ·rename_i e I Q;split at h
  ·rename_i l ps m qs N O i;simp at h;subst h;refine⟨_,_,rfl,?_⟩;simp only[aX,oE] at i;obtain⟨⟨⟨c,q⟩,i⟩,j⟩:=i;have j:=beq_true j;obtain⟨Y,F,U⟩:=K;obtain⟨Z,G,V⟩:=L;obtain⟨u1,W,D,f2,n⟩:=ij (mh ρ) _ _ _ _ _ _ N (fun p d=>E p (gK _ d)) U;obtain⟨v1,X,g1,g2,o⟩:=ij (mh ρ) _ _ _ _ _ _ O (fun p d=>E p (hV _ d)) V;have n:W=[]:=n;have o:X=[]:=o;subst n o;rw[bw] at D g1;subst D g1;obtain⟨f,s⟩:=C4 c f2;obtain⟨g,z⟩:=C4 c g2;have R:(fl e l).length=P.cellsOf t:=by rw[<- j,<- b6 f2,f];simp
   have T:(fl e m).length=P.cellsOf t:=by rw[<- j,<- b6 g2,g];simp
   have b:=E8 (P:=P) 20 t I 10000 aa (fl e l) (fl e m) w (s.trans z.symm) R T;have H:decide (fl e l=fl e m)=jI e l m:=by rw[nr,hX,qU];exact⟨acx c f2 g2,fun h=>by rw[h]⟩
   rw[H] at b;simp only[valOf,q] at b;rw[F,G,f,g];cases k with
   | true=>simp only[cond_true,Sem.run_bind,run_eqGuard_agg w _ t x y _ _ i,Result.andThen_ok,run_neq_struct,b]
   | false=>simp only[cond_false,Sem.run_bind,run_eqGuard_agg w _ t x y _ _ i,Result.andThen_ok,run_eql_struct,b]
  simp at h
 simp at h
theorem iZ {b:BinOp} {t:TypeId} {x y:Operand} {p q:Option Addr}:(eqGuard b t x y (.pointer p) (.pointer q)).run P w=.ok () w:=by cases b<;>simp[eqGuard]
theorem kV {t pt:TypeId} (c:P.underlying t=some (.pointer pt)) {b:Option Addr}:(Op.equal t (.pointer b) (.pointer none)).run P w=.ok b.isNone w:=by unfold Op.equal Op.maxDepth;rw[show (10000:Nat)=9999+1 from rfl,Op.equalIn];cases b<;>simp only[Sem.run_bind,bp c,Result.andThen_ok,Sem.run_pure]<;>rfl
theorem Nu {c:Cell} {v:Value} (h:HZ c=true) (b:(SV.is (.one c)).rel ρ v):v=.pointer none:=by unfold HZ at h;split at h;exact cc b;cases h
theorem Lx {c:Cell} {v:Value} (h:Lw c=true) (d:(SV.is (.one c)).rel ρ v):∃ f,v=.pointer (some f):=by cases c<;>simp[Lw] at h;obtain⟨b,_,e⟩:=oa d;exact⟨_,e⟩;obtain⟨b,_,e⟩:=zc d;exact⟨_,e⟩;obtain⟨b,o,_,_,e⟩:=CI d;exact⟨_,e⟩
theorem af3 (l:Ctx w0 id ρ B w) {H:BinOp} {t R:TypeId} {x y:Operand} {I:List SV} (h:XL P H t I=some out) (C:∀ p∈out.pre,p) (E:bq ρ I [a.eval x,a.eval y]):ct P id B ⟨dst,.binOp H t x y R,ty,pos,af,gd⟩ out ρ a w:=by unfold XL at h;split at h;rename_i k i k' j;obtain⟨K,L,n,b,f⟩:=cC E;simp only[bx,bR] at n;obtain⟨rfl,rfl⟩:=n;have e:=cc b;have g:=cc f;split at h;split at h;rename_i v F;simp at h;subst h;obtain⟨g1,g2⟩:=Rz (P:=P) (w:=w) (t:=t) (k':=k') F (C _ aw);exact aW l (bQ rfl (by rw[e,g];simp only[Sem.run_bind,xB,Result.andThen_ok];exact g1)) (kP g2);simp at h;rename_i Q;split at h;rename_i v p A z;simp at A;subst A;simp at h;subst h;obtain⟨g1,g2⟩:=Ry (P:=P) (w:=w) (t:=t) Q z C;exact aW l (bQ rfl (by rw[e,g];simp only[Sem.run_bind,xB,Result.andThen_ok];exact g1)) (kP g2);simp at h;rename_i T U;obtain⟨K,L,n,b,f⟩:=cC E;simp only[bx,bR] at n;obtain⟨rfl,rfl⟩:=n;split at h;obtain⟨r,p,rfl,D⟩:=JU (w:=w) h C b f x y;exact aW l (bQ rfl D) (kP rfl);obtain⟨r,p,rfl,D⟩:=JU (w:=w) h C b f x y;exact aW l (bQ rfl D) (kP rfl);simp at h;rename_i c d _;obtain⟨K,L,n,b,f⟩:=cC E;simp only[bx,bR] at n;obtain⟨rfl,rfl⟩:=n;split at h;rename_i m;split at h;rename_i p q o u;have e:=gD o b;have g:=gD u f;simp[fz] at h;subst h;exact aW l (bQ rfl (by rw[e,g];simp only[Sem.run_bind,wg,Result.andThen_ok,binOp,run_equal_bool w t p q m,Sem.run_pure])) (kP rfl);rename_i p q o u;have e:=gD o b;have g:=gD u f;simp[fz] at h;subst h;exact aW l (bQ rfl (by rw[e,g];simp only[Sem.run_bind,wg,Result.andThen_ok,binOp,run_equal_bool w t p q m,Sem.run_pure])) (kP rfl);simp at h;rename_i pt m;split at h;rename_i O;have g:=Nu O f;split at h;rename_i z;obtain⟨N,e⟩:=Lx z b;simp[ret] at h;subst h;refine aW l (v:=.bool false) (bQ rfl ?_) rfl;rw[e,g];simp only[Sem.run_bind,iZ,Result.andThen_ok,binOp,kV m,Sem.run_pure,wK];rename_i z;obtain⟨N,e⟩:=Lx z b;simp[ret] at h;subst h;refine aW l (v:=.bool true) (bQ rfl ?_) rfl;rw[e,g];simp only[Sem.run_bind,iZ,Result.andThen_ok,binOp,kV m,Sem.run_pure,wK,oJ];split at h;obtain⟨⟨p,e,G⟩,_⟩:=b;simp only[bx,bR] at e;simp[fz] at h;subst h;refine aW l (bQ rfl ?_) (kP rfl);rw[e,g];simp only[Sem.run_bind,iZ,Result.andThen_ok,binOp,kV m,Sem.run_pure];rw[<- G];cases p<;>rfl;have e:=cc b;simp[ret] at h;subst h;refine aW l (v:=.bool true) (bQ rfl ?_) rfl;rw[e,g];simp only[Sem.run_bind,iZ,Result.andThen_ok,binOp,kV m,Sem.run_pure,wL];simp at h;split at h;obtain⟨⟨p,e,G⟩,_⟩:=b;simp only[bx,bR] at e;simp[fz] at h;subst h;refine aW l (bQ rfl ?_) (kP rfl);rw[e,g];simp only[Sem.run_bind,iZ,Result.andThen_ok,binOp,kV m,Sem.run_pure];rw[<- G];cases p<;>rfl;have e:=cc b;simp[ret] at h;subst h;refine aW l (v:=.bool false) (bQ rfl ?_) rfl;rw[e,g];simp only[Sem.run_bind,iZ,Result.andThen_ok,binOp,kV m,Sem.run_pure,wL,oM];simp at h;simp at h;simp at h;simp at h;simp at h
theorem ajk (f:Ctx w0 id ρ B w) {i:UnOp} {t:TypeId} {x:Operand} {j:List SV} (h:xUn i j=some out) (g:bq ρ j [a.eval x]):ct P id B ⟨dst,.unOp i t x,ty,pos,af,gd⟩ out ρ a w:=by unfold xUn at h;split at h;obtain⟨z,e,b⟩:=bY g;simp at e;subst e;have d:=gD (c:=.T) rfl b;simp[ret] at h;subst h;exact aW f (v:=.bool false) (bQ rfl (by rw[d];simp[Op.unary])) (show [Value.bool false]=_ from rfl);obtain⟨z,e,b⟩:=bY g;simp at e;subst e;have d:=gD (c:=.F) rfl b;simp[ret] at h;subst h;exact aW f (v:=.bool true) (bQ rfl (by rw[d];simp[Op.unary])) (show [Value.bool true]=_ from rfl);obtain⟨z,e,b⟩:=bY g;simp at e;subst e;have d:=cc b;simp[fz] at h;subst h;exact aW f (bQ rfl (by rw[d];simp[Op.unary])) (kP rfl);obtain⟨z,e,b⟩:=bY g;simp at e;subst e;have d:=cc b;simp[fz] at h;subst h;exact aW f (bQ rfl (by rw[d];simp[Op.unary,Op.intArith])) (kP rfl);obtain⟨z,e,b⟩:=bY g;simp at e;subst e;have d:=cc b;simp[fz] at h;subst h;exact aW f (bQ rfl (by rw[d];rfl)) (kP rfl);simp at h
end
theorem SZ (b:Nat):∀ (u:List Value) (s:Nat) (l:List Value),b+s+u.length<=l.length ->
  (u.zipIdx s).foldl (fun (c:Array Value) (p:Value × Nat)=>c.setIfInBounds (b+p.2) p.1) ⟨l⟩=⟨l.take (b+s)++(u++l.drop (b+s+u.length))⟩:=by
 intro u;induction u with
 | nil=>intro s l _;simp
 | cons x u g =>
  intro s l h;simp only[List.zipIdx_cons,List.foldl_cons];have f:b+s<l.length:=by simp at h;omega
  rw[show (⟨l⟩:Array Value).setIfInBounds (b+s) x=⟨l.set (b+s) x⟩ from by simp];rw[g (s+1) _ (by simp at h ⊢;omega)];have d:(l.set (b+s) x).take (b+(s+1))=l.take (b+s)++[x]:=by rw[show b+(s+1)=(b+s)+1 from by omega,cw (by simpa using f)];simp[List.take_set_of_le]
  have e:(l.set (b+s) x).drop (b+(s+1)+u.length)=l.drop (b+s+(x::u).length):=by rw[List.drop_set_of_lt aa];congr 1;simp;omega
  rw[d,e];simp
def EX (ρ:aC):List (Nat × SV)->List (Nat × Value)->Prop
 | [],b=>b=[]
 | p::d,b=>∃ x c,b=(p.1,x)::c/\p.2.rel ρ x/\EX ρ d c
theorem Cx {ρ:aC}:∀ (c:List Nat) (b:List SV) (d:List Value),c.length=b.length->bq ρ b d->EX ρ (c.zip b) (c.zip d):=by
 intro c;induction c with
 | nil=>intro b d h e;cases b<;>simp at h;rfl
 | cons i c k =>
  intro b d h e;cases b with
  | nil=>simp at h
  | cons v b =>obtain⟨x,f,rfl,g,j⟩:=e;exact⟨x,c.zip f,rfl,g,k b f (by simpa using h) j⟩
theorem KY {ρ:aC} {c:Nat->Option (Nat × Nat)}:∀ (j:List (Nat × SV)) (k:List (Nat × Value)) (d b:List Cell) (l:List Value),
  EX ρ j k->rF c d j=some b->az ρ d l->∃ m,Instr.fill c ⟨l⟩ k=some ⟨m⟩/\az ρ b m:=by
 intro j;induction j with
 | nil =>intro k d b l q h y;have:k=[]:=q;subst this;simp[rF] at h;subst h;exact⟨l,rfl,y⟩
 | cons p j H =>
  intro k d b l q h y;obtain⟨x,K,rfl,C,D⟩:=q;obtain⟨i,v⟩:=p;cases v with
  | is L =>
   simp only[rF] at h;split at h
   ·rename_i e I r;split at h
    ·rename_i A;split at h
     ·rename_i o f;obtain⟨u,F,g⟩:=TV.xA C;obtain⟨z,E⟩:=E4 f y g;obtain⟨m,g1,g2⟩:=H K o b _ D h z;refine⟨m,?_,g2⟩;unfold Instr.fill;have G:u.length=I:=by rw[gp g];exact beq_true A
      simp only[r,F];rw[ai (by simp;omega)];have:=SZ e u 0 l aa;simp only[gh] at this;rw[show (Array.zipIdx ⟨u⟩:Array (Value × Nat))=⟨u.zipIdx⟩ from by simp];rw[show (⟨u.zipIdx⟩:Array (Value × Nat)).foldl (fun (d:Array Value) (p:Value × Nat)=>d.setIfInBounds (e+p.2) p.1) ⟨l⟩=u.zipIdx.foldl (fun (d:Array Value) (p:Value × Nat)=>d.setIfInBounds (e+p.2) p.1) ⟨l⟩ from by simp];rw[this];exact g1
     simp at h
    simp at h
   simp at h
  | _=>simp[rF] at h
section
variable {P:Program} {w0:cD} {id:Nat} {ρ:aC} {B:bE} {w:World} {a:Act} {dst:Option Tmp} {ty:TypeId} {pos:String} {af:Array Edge} {gd:Option (Nat × Bool)} {out:Out}
theorem run_places:∀ (b:List Field),(∀ f∈b,(P.info? f.type).isSome=true) ->
  (b.mapM fun (f:Field)=>(do pure (f.offset,<- Go.sizeOf f.type):Sem (Nat × Nat))).run P w=.ok (b.map fun (f:Field)=>(f.offset,P.cellsOf f.type)) w:=by
 intro b;induction b with
 | nil=>intro _;simp
 | cons f b e =>intro h;obtain⟨i,d⟩:=Option.isSome_iff_exists.1 (h f aw);simp only[List.mapM_cons,Sem.run_bind,cK d,Result.andThen_ok,Sem.run_pure,e (fun g c=>h g (by simp[c]))];simp
theorem AW (b:List (Nat × Operand)):(b.map fun p=>(p.1,a.eval p.2))=(b.map (·.1)).zip (b.map fun p=>a.eval p.2):=by
 induction b with
 | nil=>rfl
 | cons p b c=>simp;exact c
theorem FF {e:TypeId} {n:Nat} {b:List Cell} {l:List Value} (c:∀ p∈(yw P e n b).2,p) (d:az ρ b l):az ρ (yw P e n b).1 l:=by unfold yw at c ⊢;split;rename_i k f;simp only[f] at c;split;rename_i u j i;simp only[i] at c;obtain⟨s,q,h,m,o,g⟩:=Ma (R:=Rd ρ.M k) (fun b x j r l=>ij (mh ρ) k b x j r l) _ _ _ _ _ _ i c d;have g:q=[]:=g;subst g;rw[bw] at h;subst h;exact bP (fL m o);exact d;exact d
theorem Qg {t:TypeId} {b:List Cell} {l:List Value} (c:∀ p∈(BJ P t b).2,p) (d:az ρ b l):az ρ (BJ P t b).1 l:=by unfold BJ at c ⊢;split;rename_i n e f;simp only[f] at c;exact FF c d;exact d
theorem abh (E:Ctx w0 id ρ B w) {t:TypeId} {d:Array (Nat × Operand)} {A:List SV} (j:lp P t=true) (h:M9 P t (d.toList.map (·.1)) A=some out) (H:∀ p∈out.pre,p) (K:bq ρ A (d.toList.map fun p=>a.eval p.2)):ct P id B ⟨dst,.build t d,ty,pos,af,gd⟩ out ρ a w:=by
 unfold M9 at h;split at h
 ·rename_i O g c L;split at h
  ·rename_i D F;simp at h;subst h;have c:=beq_true c;obtain⟨i,z,G,y,I⟩:=xS (ρ:=ρ) L;have m:=Cx _ A _ c K;rw[<- AW] at m;obtain⟨C,g1,g2⟩:=KY _ _ _ _ _ m F I;refine aW E (v:=.agg ⟨C⟩) (bQ (s:=Instr.build t (d.map fun p=>(p.1,a.eval p.2))) rfl ?_) ⟨C,rfl,Qg H g2⟩;unfold Instr.build zeroValue;simp only[Sem.run_bind,pA G,Result.andThen_ok,y,Sem.run_pure];unfold b9 at g;split at g
   ·rename_i o k;simp only[bp k,Result.andThen_ok];have l:∀ f∈o.toList,(P.info? f.type).isSome=true:=by
     intro f r;simp only[lp,k,nq] at j;exact (mo (j f (Array.mem_toList_iff.1 r))).1
    rw[Array.mapM_eq_mapM_toList];simp only[Sem.run_bind,Sem.run_map,run_places _ l,Result.andThen_ok];have b:(fun (x:Nat)=>(o.toList.map fun f=>(f.offset,P.cellsOf f.type)).toArray[x]?)=vO P t:=by funext x;simp only[vO,k];simp;cases o[x]? <;> rfl
    simp only[b];rw[show ((d.map fun p=>(p.1,a.eval p.2)).toList)=d.toList.map fun p=>(p.1,a.eval p.2) from by simp];rw[show z.cells=⟨z.cells.toList⟩ from rfl,g1];simp
   ·rename_i n e q;obtain⟨N,R,T⟩:=fH j (.inl q);obtain⟨Q,u⟩:=Option.isSome_iff_exists.1 N;simp only[bp q,Result.andThen_ok,Sem.run_bind,cK u];have b:(fun (i:Nat)=>some (i*P.cellsOf e,P.cellsOf e))=vO P t:=by
     funext x;simp only[vO,q]
    simp only[b];rw[show ((d.map fun p=>(p.1,a.eval p.2)).toList)=d.toList.map fun p=>(p.1,a.eval p.2) from by simp];rw[show z.cells=⟨z.cells.toList⟩ from rfl,g1];simp
   simp at g
  simp at h
 simp at h
theorem BM {b:List Cell} {l:List Value} (h:az ρ b l):∀ n,az ρ (rep n b) (rep n l):=by
 intro n;induction n with
 | zero=>rfl
 | succ n c=>exact gn h c
theorem JG (l:List Value) (g:l≠[]):∀ n,(Array.range (n*l.length)).map (fun i=>(⟨l⟩:Array Value)[i%(⟨l⟩:Array Value).size]!)=⟨rep n l⟩:=by
 intro n;have d:0<l.length:=by cases l<;>simp_all
 apply jn;simp only[Array.toList_map,Array.toList_range];induction n with
 | zero=>simp[rep]
 | succ n c =>
  rw[iV,List.range_add,di,c];have:∀ n,rep n l++l=rep (n+1) l:=by
   intro n;induction n with
   | zero=>simp[rep]
   | succ n c=>rw[rep,cH,c];simp[rep]
  rw[<- this n];congr 1;apply mW;simp
  ·intro i b f;simp at b;simp only[wS,Bq];have e:(n*l.length+i)%l.length=i:=by
    rw[oN,Nat.add_mul_mod_self_right,hY b]
   simp only[Bu,e];simp[b]
theorem GM {c:Type} (l:List c):∀ n,(rep n l).length=n*l.length:=by
 intro n;induction n with
 | zero=>simp[rep]
 | succ n b=>simp[rep,b,iV,oN]
theorem Ed:∀ (f:List Cell) (n:Nat) (a b:List Cell),fO f n=some (a,b)->cF a=n/\n+cF b=cF f:=by
 intro f;induction f with
 | nil =>
  intro n a b h;cases n with
  | zero=>simp only[fO,aE,aL] at h;obtain⟨rfl,rfl⟩:=h;simp[cF]
  | succ n=>simp[fO] at h
 | cons c f l =>
  intro n a b h;cases n with
  | zero=>simp only[fO,aE,aL] at h;obtain⟨rfl,rfl⟩:=h;simp[cF]
  | succ n =>
   simp only[fO] at h;split at h
   ·rename_i e m x d;have i:c.size=m*width e:=by
     cases c<;>simp[k8] at d;obtain⟨rfl,d⟩:=d;obtain⟨rfl,_⟩:=(by simpa using d);simp[Cell.size,width];obtain⟨rfl,d⟩:=d;obtain⟨rfl,_⟩:=(by simpa using d);rfl
    split at h;rename_i g;have g:=fG g;split at h;rename_i k;have k:=beq_true k;simp only[aE,aL] at h;obtain⟨rfl,rfl⟩:=h;simp only[cF,QY,i,Nat.sub_mul];generalize (n+1)/width e*width e=q at *;omega;simp at h;rename_i g;have g:=w5 g;split at h;rename_i o r j;simp only[aE,aL] at h;obtain⟨rfl,rfl⟩:=h;obtain⟨t,u⟩:=l _ _ _ j;simp only[cF,i];omega;simp at h
   ·rename_i d;have s:c.size=1:=by cases c<;>simp[k8] at d<;>rfl
    split at h;rename_i o r j;simp only[aE,aL] at h;obtain⟨rfl,rfl⟩:=h;obtain⟨t,u⟩:=l _ _ _ j;simp only[cF,s];omega;simp at h
theorem Et (a b:List Cell):cF (a++b)=cF a+cF b:=by
 induction a with
 | nil=>simp[cF]
 | cons c e d=>simp[cF,d,tU]
theorem TW {f d c:List Cell} {e:Nat} (h:E3 f e d=some c):cF c=cF f:=by
 unfold E3 at h;cases g:fO f e with
 | none=>rw[g] at h;simp at h
 | some p =>
  obtain⟨a,r⟩:=p;rw[g] at h;simp only at h;cases b:fO r (cF d) with
  | none=>rw[b] at h;simp at h
  | some i =>obtain⟨l,m⟩:=i;rw[b] at h;simp only[aE] at h;subst h;have j:=Ed _ _ _ _ g;have k:=Ed _ _ _ _ b;simp only[Et];omega
theorem QB {c:Nat->Option (Nat × Nat)}:∀ {e:List (Nat × SV)} {d b:List Cell},rF c d e=some b->cF b=cF d:=by
 intro e;induction e with
 | nil=>intro d b h;simp[rF] at h;rw[h]
 | cons p e g =>
  intro d b h;obtain⟨i,x⟩:=p;cases x with
  | is x =>simp only[rF] at h;split at h;split at h;split at h;rename_i f;rw[g h,TW f];simp at h;simp at h;simp at h
  | _=>simp[rF] at h
theorem Mw (T:Ctx w0 id ρ B w) {t:TypeId} {len:Nat} {k:Array (Nat × Operand)} {E:List SV} (y:lp P t=true) (h:yn P id t len (k.toList.map (·.1)) E=some out) (V:∀ p∈out.pre,p) (W:bq ρ E (k.toList.map fun p=>a.eval p.2)):ct P id B ⟨dst,.buildSlice t len k,ty,pos,af,gd⟩ out ρ a w:=by
 unfold yn at h;split at h
 ·rename_i e I b;split at h
  ·rename_i Y K u;simp only[aX] at u;have Q:len*P.cellsOf e<16777217:=by simpa[lG] using u.1.1
   have R:0<P.cellsOf e:=by simpa[lG] using u.1.2
   split at h
   ·rename_i N G;split at h;simp at h;rename_i d Z o;simp at h;subst h;have b:=beq_true b;obtain⟨i,z,H,D,C⟩:=xS (ρ:=ρ) K;have q:=Cx _ E _ b W;rw[<- AW] at q;obtain⟨L,g1,g2⟩:=KY _ _ _ _ _ q G (BM C len);obtain⟨q1,q2,q3⟩:=fH (n:=0) y (.inr I);have f:z.cells.toList.length=P.cellsOf e:=by
     rw[gp C];have:=beq_true u.2;simpa[K] using this
    have A:len*P.cellsOf e=L.length:=by rw[gp g2,QB G,<- gp (BM C len),GM,f]
    have F:execOp a.eval ⟨dst,.buildSlice t len k,ty,pos,af,gd⟩=(do pure (.value (<- Instr.buildSlice t len (k.map fun (i,x)=>(i,a.eval x))))):=rfl;have m:(fun (i,x)=>(i,a.eval x):Nat × Operand->Nat × Value)=fun p=>(p.1,a.eval p.2):=rfl;rw[m] at F;refine tA T (l:=L) (t:=e) (v:=.slice (some ⟨w.heap.size,0,none⟩) len len) (bQ F ?_) (by rw[<- o];exact FF V g2) (fun X h U=>.inr ⟨_,0,len,h,aI _,.inl aw,by rw[U];simp[A],rfl⟩);unfold Instr.buildSlice zeroValue;simp only[Sem.run_bind,bp I,Result.andThen_ok,cK H,Sem.run_ite];rw[ai aa];have c:((Array.range (len*P.cellsOf e)).map fun i=>z.cells[i%z.cells.size]!)=⟨rep len z.cells.toList⟩:=by have:=JG z.cells.toList (by intro O;rw[O] at f;simp at f;omega) len;rw[f] at this;exact this
    have r:(k.map fun p=>(p.1,a.eval p.2)).toList=k.toList.map fun p=>(p.1,a.eval p.2):=aw;by_cases g:len*P.cellsOf e=0
    ·have j:len=0:=by
      rcases Nat.mul_eq_zero.1 g with h|h;exact h;omega
     subst j;simp only[g,eB,Sem.run_pure,Result.andThen_ok];rw[r];simp only[rep] at g1;rw[show (Array.map (fun i=>(#[]:Array Value)[i%(#[]:Array Value).size]!) (Array.range 0))=⟨[]⟩ from by simp,g1];simp only[newRow,Sem.run_bind,run_newObj,Result.andThen_ok,Sem.run_pure];rfl
    simp only[g,dQ,pA H,Result.andThen_ok,D,Sem.run_pure];rw[c,r,g1];simp only[newRow,Sem.run_bind,run_newObj,Result.andThen_ok,Sem.run_pure];rfl
   simp at h
  simp at h
 simp at h
def iN (c:Option Int) (b:Nat):Nat:=match c with
 | some m=>m.toNat
 | none=>b
theorem sG {n b:Nat} (I:n<=b) {G E H:Option Operand} {r:List SV} {l h:Int} {m:Option Int} {p:List Prop} (d:BG n G E H r=some (l,h,m,p)) (C:∀ q∈p,q)
  (j:bq ρ r ((G.map a.eval).toList++((E.map a.eval).toList++(H.map a.eval).toList))) (F:Bool) :
  0<=l/\l<=h/\h<=(n:Int)/\h<=(iN m b:Int)/\iN m b<=b/\(Instr.sliceBounds F n b (G.map a.eval) (E.map a.eval) (H.map a.eval)).run P w=.ok (l.toNat,h.toNat,iN m b) w:=by
 unfold BG at d;split at d;simp at d;obtain⟨rfl,rfl,rfl,rfl⟩:=d;refine⟨aa,aa,aa,by simp[iN];omega,by simp[iN],?_⟩;simp[Instr.sliceBounds,iN];rename_i x k y;simp at d;obtain⟨rfl,rfl,rfl,rfl⟩:=d;simp only[ly,wM,dG,bw,c6,tL] at j;obtain⟨z,e,t⟩:=bY j;simp at e;subst e;have o:=cc t;have u:0<=y/\y<=(n:Int):=C _ aw;refine⟨aa,aa,aa,by simp[iN];omega,by simp[iN],?_⟩;simp only[Instr.sliceBounds,ly,c6,o,Instr.sliceBound,asIntOf,Sem.run_bind,Sem.run_pure,Result.andThen_ok,Sem.run_ite,ak (show 0<=y/\y<=(b:Int) from ⟨u.1,aa⟩)];rfl;rename_i x k y;simp at d;obtain⟨rfl,rfl,rfl,rfl⟩:=d;simp only[ly,wM,bw,c6,tL] at j;obtain⟨z,e,t⟩:=bY j;simp at e;subst e;have o:=cc t;have u:0<=y/\y<=(n:Int):=C _ aw;refine⟨aa,aa,aa,by simp[iN];omega,by simp[iN],?_⟩;simp only[Instr.sliceBounds,ly,c6,o,Instr.sliceBound,asIntOf,Sem.run_bind,Sem.run_pure,Result.andThen_ok,Sem.run_ite,ak u];rfl;rename_i x L k y K c;simp at d;obtain⟨rfl,rfl,rfl,rfl⟩:=d;simp only[ly,wM,bw,c6,tL,iT,dG] at j;obtain⟨z,N,e,t,g⟩:=cC j;simp only[bx,bR] at e;obtain⟨rfl,rfl⟩:=e;have o:=cc t;have f:=cc g;have u:0<=y/\y<=c/\c<=(n:Int):=C _ aw;refine⟨aa,aa,aa,by simp[iN];omega,by simp[iN],?_⟩;simp only[Instr.sliceBounds,ly,c6,o,f,Instr.sliceBound,asIntOf,Sem.run_bind,Sem.run_pure,Result.andThen_ok,Sem.run_ite,ak (show 0<=c/\c<=(b:Int) from ⟨aa,aa⟩),ak (show 0<=y/\y<=(c.toNat:Int) from ⟨aa,aa⟩)];rfl;rename_i x L k y K c;simp at d;obtain⟨rfl,rfl,rfl,rfl⟩:=d;simp only[ly,wM,dG,c6,tL,iT] at j;obtain⟨z,N,e,t,g⟩:=cC j;simp only[bx,bR] at e;obtain⟨rfl,rfl⟩:=e;have o:=cc t;have f:=cc g;have u:0<=y/\y<=c/\c<=(n:Int):=C _ aw;refine⟨aa,aa,aa,by simp[iN];omega,by simp[iN];omega,?_⟩;simp only[Instr.sliceBounds,ly,c6,o,f,Instr.sliceBound,asIntOf,Sem.run_bind,Sem.run_pure,Result.andThen_ok,Sem.run_ite,ak (show 0<=c/\c<=(b:Int) from ⟨aa,aa⟩),ak (show 0<=y/\y<=(c.toNat:Int) from ⟨aa,aa⟩)];rfl;rename_i x L Q k y K c O i;simp at d;obtain⟨rfl,rfl,rfl,rfl⟩:=d;simp only[c6,tL,iT,dG] at j;obtain⟨z,N,R,e,t,g,D⟩:=qm j;simp only[bx,bR] at e;obtain⟨rfl,rfl,rfl⟩:=e;have o:=cc t;have f:=cc g;have A:=cc D;have u:0<=y/\y<=c/\c<=i/\i<=(n:Int):=C _ aw;refine⟨aa,aa,aa,by simp[iN];omega,by simp[iN];omega,?_⟩;simp only[Instr.sliceBounds,c6,o,f,A,Instr.sliceBound,asIntOf,Sem.run_bind,Sem.run_pure,Result.andThen_ok,Sem.run_ite,ak (show 0<=i/\i<=(b:Int) from ⟨aa,aa⟩),ak (show 0<=c/\c<=(i.toNat:Int) from ⟨aa,aa⟩),ak (show 0<=y/\y<=(c.toNat:Int) from ⟨aa,aa⟩)];rfl;simp at d
theorem R9 {e:Kd} {M:Mem} {b o l n:Nat} {d:List (aH e)} (h:mw (Rd M e) (width e) M b o d) (k:l+n<=d.length):mw (Rd M e) (width e) M b (o+l*width e) ((d.drop l).take n):=by
 obtain⟨L,i,q,j⟩:=h;have g:=(gP (fun _ _=>b6) l j).2;have f:=(gP (fun _ _=>b6) n g).1;have m:l*width e+n*width e<=d.length*width e:=by rw[<- ff];exact fb _ k
 have c:((d.drop l).take n).length=n:=by simp;omega
 refine⟨L,i,by rw[c];omega,?_⟩;rw[c];rw[qL,lB,fF,iU aa] at f;exact f
theorem abm (N:Ctx w0 id ρ B w) {t:TypeId} {x:Operand} {lo Z mx:Option Operand} {vs:List SV} (R:lp P t=true) (h:Nd P t lo Z mx vs B=some out) (hp:∀ p∈out.pre,p)
  (hv:bq ρ vs (a.eval x::((lo.map a.eval).toList++((Z.map a.eval).toList++(mx.map a.eval).toList)))):ct P id B ⟨dst,.slice t x lo Z mx,ty,pos,af,gd⟩ out ρ a w:=by
 have j:execOp a.eval ⟨dst,.slice t x lo Z mx,ty,pos,af,gd⟩=(do pure (.value (<- Instr.sliceAt t (a.eval x) (lo.map a.eval) (Z.map a.eval) (mx.map a.eval)))):=rfl;unfold Nd at h;split at h
 ·rename_i n e b I r E;obtain⟨q1,q2,q3⟩:=fH R (.inl E);obtain⟨ie,i⟩:=Option.isSome_iff_exists.1 q1;split at h
  ·rename_i c cs l g m p hB Q;split at h
   ·rename_i x3;obtain⟨y,ys,O,hy,u⟩:=hv;simp only[bx] at O;obtain⟨rfl,rfl⟩:=O;obtain⟨z,D,F⟩:=oa hy;simp at h;subst h;obtain⟨g1,g2,X,K,A,C⟩:=sG (P:=P) (w:=w) (aI n) Q hp u false;generalize iN m n=d at *;obtain⟨L,Y,hr⟩:=N.blks _ _ hB aw z D;have x4:I+n*P.cellsOf e<=ρ.n b:=by
     have h1:=gJ x3;have h2:=gp hr;have h3:=Y.len;omega
    have x0:l.toNat*P.cellsOf e+(d-l.toNat)*P.cellsOf e<=n*P.cellsOf e:=by rw[<- ff];exact fb _ aa
    by_cases f:d=l.toNat;refine aW N (v:=.slice (some ⟨z,I,none⟩) (g.toNat-l.toNat) (d-l.toNat)) (bQ j ?_) (.inr ⟨z,I,d-l.toNat,D,aa,.inr aa,by rw[show d-l.toNat=0 by omega];omega,by rw[show g.toNat-l.toNat=(g-l).toNat by omega]⟩);rw[F];unfold Instr.sliceAt;simp only[Sem.run_bind,bp E,Result.andThen_ok,Instr.sureAddr,Sem.run_pure,C,cK i,ak f];refine aW N (v:=.slice (some ⟨z,I+l.toNat*P.cellsOf e,none⟩) (g.toNat-l.toNat) (d-l.toNat)) (bQ j ?_) (.inr ⟨z,_,d-l.toNat,D,aa,.inl rfl,aa,by rw[show g.toNat-l.toNat=(g-l).toNat by omega]⟩);rw[F];unfold Instr.sliceAt;simp only[Sem.run_bind,bp E,Result.andThen_ok,Instr.sureAddr,Sem.run_pure,C,cK i,ai f,ln]
   simp at h
  simp at h
 ·rename_i e b x8 I len c r E;obtain⟨q1,q2,q3⟩:=fH (n:=0) R (.inr E);obtain⟨ie,i⟩:=Option.isSome_iff_exists.1 q1;split at h
  ·rename_i l g m p Q q;have q:=beq_true q;subst q;obtain⟨y,ys,O,hy,u⟩:=hv;simp only[bx] at O;obtain⟨rfl,rfl⟩:=O;simp at h;subst h;rcases nW hy with ⟨h0,F⟩|⟨z,o,k,D,hl,ho,x4,F⟩;obtain⟨g1,g2,X,K,A,C⟩:=sG (P:=P) (w:=w) (aI len) Q hp u true;subst h0;have U:l=0:=aa;have T:g=0:=aa;have x2:iN m 0=0:=aa;rw[x2] at C;subst U T;refine aW N (v:=.slice none 0 0) (bQ j ?_) (.inl ⟨rfl,rfl⟩);rw[F];unfold Instr.sliceAt Instr.slice;simp only[Sem.run_bind,bp E,Result.andThen_ok,Sem.run_pure,C,cK i,ly,ite_self];rfl
   ·obtain⟨g1,g2,X,K,A,C⟩:=sG (P:=P) (w:=w) hl Q hp u true;generalize iN m k=d at *;have x0:l.toNat*P.cellsOf e+(d-l.toNat)*P.cellsOf e<=k*P.cellsOf e:=by rw[<- ff];exact fb _ aa
    by_cases f:d=l.toNat;refine aW N (v:=.slice (some ⟨z,o,none⟩) (g.toNat-l.toNat) (d-l.toNat)) (bQ j ?_) (.inr ⟨z,o,d-l.toNat,D,aa,.inr aa,by rw[show d-l.toNat=0 by omega];omega,by rw[show g.toNat-l.toNat=(g-l).toNat by omega]⟩);rw[F];unfold Instr.sliceAt Instr.slice;simp only[Sem.run_bind,bp E,Result.andThen_ok,Sem.run_pure,C,cK i,ak f];refine aW N (v:=.slice (some ⟨z,o+l.toNat*P.cellsOf e,none⟩) (g.toNat-l.toNat) (d-l.toNat)) (bQ j ?_) (.inr ⟨z,o+l.toNat*P.cellsOf e,d-l.toNat,D,aa,?_,aa,by rw[show g.toNat-l.toNat=(g-l).toNat by omega]⟩);rw[F];unfold Instr.sliceAt Instr.slice;simp only[Sem.run_bind,bp E,Result.andThen_ok,Sem.run_pure,C,cK i,ai f,c6,ln];rcases ho with ho|ho;exact .inl (by rw[ho,Hv,ff];omega);exact .inr aa
  simp at h
 ·rename_i e e' xs r E;obtain⟨q1,q2,q3⟩:=fH (n:=0) R (.inr E);obtain⟨ie,i⟩:=Option.isSome_iff_exists.1 q1;split at h
  ·rename_i l g m p Q q;have q:=beq_true q;obtain⟨y,ys,O,hy,u⟩:=hv;simp only[bx] at O;obtain⟨rfl,rfl⟩:=O;simp at h;subst h;rcases CH hy with ⟨h0,ad,k,F,hz⟩|⟨z,o,k,F,hl,x1⟩
   ·subst h0;obtain⟨g1,g2,X,K,A,C⟩:=sG (P:=P) (w:=w) (a8 k) Q hp u true;generalize iN m k=d at *;have U:l=0:=by simp at X;omega
    have T:g=0:=by simp at X;omega
    subst U T;have x5:∃ G,(if d=(0:Int).toNat then ad else ad.map (·.add ((0:Int).toNat*P.cellsOf e)))=G/\(G=none->d-0=0):=by
     refine⟨_,rfl,fun h=>?_⟩;split at h;·simp_all
     ·have:ad=none:=by simpa using h
      have:=hz this;omega
    obtain⟨G,x6,x7⟩:=x5;refine aW N (v:=.slice G 0 (d-0)) (bQ j ?_) (.inl ⟨aw,G,d-0,rfl,x7⟩);rw[F];unfold Instr.sliceAt Instr.slice;simp only[Sem.run_bind,bp E,Result.andThen_ok,Sem.run_pure];simp only[C,Result.andThen_ok,cK i,x6];rfl
   ·obtain⟨g1,g2,X,K,A,C⟩:=sG (P:=P) (w:=w) hl Q hp u true;generalize iN m k=d at *;have H:((xs.drop l.toNat).take (g-l).toNat).length=(g-l).toNat:=by simp;omega
    have V:g.toNat-l.toNat=(g-l).toNat:=aa;have W:=R9 (l:=l.toNat) (n:=(g-l).toNat) x1 aa;by_cases f:d=l.toNat;refine aW N (v:=.slice (some ⟨z,o,none⟩) (g.toNat-l.toNat) (d-l.toNat)) (bQ j ?_) (.inl ⟨dM (by rw[H];omega),_,d-l.toNat,by rw[show g.toNat-l.toNat=0 by omega],fun h=>by cases h⟩);rw[F];unfold Instr.sliceAt Instr.slice;simp only[Sem.run_bind,bp E,Result.andThen_ok,Sem.run_pure,C,cK i,ak f];refine aW N (v:=.slice (some ⟨z,o+l.toNat*P.cellsOf e,none⟩) (g.toNat-l.toNat) (d-l.toNat)) (bQ j ?_) (.inr ⟨z,_,d-l.toNat,by rw[H,V],by rw[H];omega,by rw[<- q];exact W⟩);rw[F];unfold Instr.sliceAt Instr.slice;simp only[Sem.run_bind,bp E,Result.andThen_ok,Sem.run_pure,C,cK i,ai f,c6,ln]
  simp at h
 simp at h
theorem af5 (D:Ctx w0 id ρ B w) {f:Array TypeId} {args:Array Operand} {E:List SV} (h:XN P f E=some out) (r:bq ρ E (args.toList.map a.eval)):ct P id B ⟨dst,.call ⟨.builtin .len,args,f⟩,ty,pos,af,gd⟩ out ρ a w:=by
 have A:execOp a.eval ⟨dst,.call ⟨.builtin .len,args,f⟩,ty,pos,af,gd⟩=(do pure (.value (<- Builtin.len_ f ty (args.map a.eval)))):=rfl;have C:∀ y,args.toList.map a.eval=[y]->(args.map a.eval)[0]?=some y:=by intro y u;have:=congrArg (fun l:List Value=>l[0]?) u;simpa using this
 have x:∀ (y:Value) (n:Nat) (e t:TypeId),args.toList.map a.eval=[y]->f[0]?=some t->P.underlying t=some (.slice e)->(∃ p c,y=.slice p n c) ->
   (Builtin.len_ f ty (args.map a.eval)).run P w=.ok (.int .i64 n) w:=by
  intro y n e t u G H ⟨p,c,j⟩;unfold Builtin.len_;simp only[G,C y u];simp only[Sem.run_bind,bp H,Result.andThen_ok,j,Sem.run_pure];rfl
 have k:∀ (y:Value) (n:Nat) (e:TypeId),(f[0]?).bind P.underlying=some (.slice e)->args.toList.map a.eval=[y]->(∃ p c,y=.slice p n c)->∀ p,ct P id B ⟨dst,.call ⟨.builtin .len,args,f⟩,ty,pos,af,gd⟩ { val:=.is (.one (.v (.int .i64 n))),pre:=p } ρ a w:=by
  intro y n e b g d p;cases m:f[0]? with
  | none=>simp[m] at b
  | some t =>simp[m] at b;exact aW D (bQ A (x y n e t g m b d)) (kP rfl)
 unfold XN at h;split at h;rename_i e i z I n c b;obtain⟨y,g,j⟩:=bY r;simp[fz] at h;subst h;refine k y n e b g ?_ _;rcases nW j with ⟨rfl,d⟩|⟨F,o,q,N,O,Q,_,d⟩;exact⟨_,_,d⟩;exact⟨_,_,d⟩;rename_i e L K b;obtain⟨y,g,j⟩:=bY r;simp[fz] at h;subst h;refine k y K.length e b g ?_ _;rcases CH j with ⟨rfl,a,q,d,_⟩|⟨F,o,q,d,_⟩;exact⟨_,_,d⟩;exact⟨_,_,d⟩;rename_i e b;obtain⟨y,g,j⟩:=bY r;simp[fz] at h;subst h;exact k y 0 e b g ⟨_,_,cc j⟩ _
 ·rename_i s b;obtain⟨y,g,j⟩:=bY r;have d:=cc j;simp[fz] at h;subst h;cases m:f[0]? with
  | none=>simp[m] at b
  | some t =>simp[m] at b;refine aW D (bQ A ?_) (kP rfl);unfold Builtin.len_;simp only[m,C y g];simp only[Sem.run_bind,bp b,Result.andThen_ok,d,Sem.run_pure];rfl
 simp at h
theorem DY {e:TypeId} {b:Kd} (h:FP P e=some b) :
  ∃ i z,P.info? e=some i/\i.zero=some z/\z.cells.toList=im b/\i.size=width b/\width b=P.cellsOf e/\0<width b/\i.bytes=bytesOf P e/\zk b=true:=by
 unfold FP at h;split at h;rename_i d k u j s n q z o ms m f r;split at h;rename_i c;simp at h;subst h;simp only[aX] at c;have g:=beq_true c.1.2;refine⟨_,z,f,rfl,AV c.1.1.1,?_,g,fG c.2,by simp[bytesOf,f],c.1.1.2⟩;rw[g];simp[Program.cellsOf,f];simp at h;simp at h
theorem sj {b:Kd} (c:zk b=true):(im b).length=width b:=b6 (M:=fun _=>none) (yt c)
theorem W1 {b:Kd} (c:zk b=true):∀ n,dX (Rd ρ.M b) (replicate n (zeroOf b)) (rep n (im b)):=by
 intro n;induction n with
 | zero=>exact rfl
 | succ n d=>exact⟨_,_,rfl,yt c,d⟩
theorem aeS (I:Ctx w0 id ρ B w) {t:TypeId} {x y:Operand} {D:List SV} (h:R4 P id t D=some out) (O:∀ p∈out.pre,p) (R:bq ρ D [a.eval x,a.eval y]):ct P id B ⟨dst,.makeSlice t x y,ty,pos,af,gd⟩ out ρ a w:=by
 unfold R4 at h;split at h
 ·rename_i e kl l U c Q;obtain⟨X,Y,u,o,q⟩:=cC R;simp only[bx,bR] at u;obtain⟨rfl,rfl⟩:=u;have E:=cc o;have F:=cc q;split at h
  ·rename_i r k;simp at h;subst h;obtain⟨i,z,K,T,f,n,W,L,j,d⟩:=DY k;obtain⟨G,m,H,g⟩:0<=l/\l<=c/\(bytesOf P e:Int)*c<=281474976710656/\c<=9223372036854775807:=O _ aw;have C:=run_make (P:=P) w t e i z Q K T kl U l c G m (by rw[j];exact H) g;have b:madeCells z.cells (c.toNat*i.size)=⟨rep c.toNat (im r)⟩:=by
    have A:=JG z.cells.toList (by rw[f];intro h;have:=congrArg length h;rw[sj d] at this;simp at this;omega) c.toNat;rw[f,sj d] at A;rw[<- A,n];unfold madeCells;have:z.cells=⟨im r⟩:=by rw[<- f]
    rw[this]
   rw[b] at C;refine tA I (l:=rep c.toNat (im r)) (t:=e) (bQ rfl (by rw[E,F];exact C)) (bP (fL aw (W1 d _))) (fun V h N=>.inr ⟨_,0,c.toNat,h,aa,.inl aw,by rw[N,GM,sj d];omega,rfl⟩)
  simp at h
 simp at h
theorem xG (T:Ctx w0 id ρ B w) {C:Kd} {v:SV} {m:Nat} {A:List (aH C)} {p:List Prop} {u:Value} (h:DH B C v=some (m,A,p)) (U:∀ q∈p,q) (F:v.rel ρ u) :
  A.length=m/\∃ k,dX (Rd ρ.M C) A k/\((u=.slice none 0 0/\m=0)\/∃ y n,u=.slice (some y) m n/\∀ j x,k[j]?=some x->w.cell? (y.add j)=some x):=by
 have own:∀ (i f off c:Nat) (d:Cell) (D:List Cell),B i=some (d::D)->(∀ l,az ρ (d::D) l->A.length=m/\c=width C/\f+off*c+m*c<=l.length/\dX (Rd ρ.M C) A ((l.drop (f+off*c)).take (m*c)))->(m=0->A=[]) ->
   (SV.is (.one (.sl i f off m c))).rel ρ u->A.length=m/\∃ k,dX (Rd ρ.M C) A k/\((u=.slice none 0 0/\m=0)\/∃ y n,u=.slice (some y) m n/\∀ j x,k[j]?=some x->w.cell? (y.add j)=some x):=by
  intro i f off c d D N hx W F;rcases nW F with ⟨E,z⟩|⟨Q,o,n,O,I,ho,x1,z⟩;have:=W E;subst E this;exact⟨rfl,[],rfl,.inl ⟨z,rfl⟩⟩
  ·obtain⟨l,G,hr⟩:=T.blks _ _ N aw Q O;obtain⟨k1,k2,k3,k4⟩:=hx l hr;refine⟨k1,_,k4,.inr ⟨_,_,z,fun j x t=>?_⟩⟩;have H:j<m*c:=by
    have:=(List.getElem?_eq_some_iff.1 t).1;simp at this;omega
   have x0:0<m:=by rcases qF m with h|h;subst h;simp at H;exact h
   have ho:o=f+off*c:=by rcases ho with ho|ho;exact ho;omega
   subst ho;rw[ln];refine G.cell ?_;rw[fE] at t;simpa[H] using t
 unfold DH at h;split at h;rename_i i f off m' c;split at h;rename_i d D N;split at h;rename_i xs q g;simp only[aE,aL] at h;obtain⟨rfl,rfl,rfl⟩:=h;refine own i f off c d D N (fun l I=>xF g U I) (fun E=>?_) F;subst E;unfold uX at g;split at g;split at g;simp only[aE,aL] at g;rw[<- g.1];simp;simp at g;simp at g;split at h;rename_i xs q g;simp only[aE,aL] at h;obtain⟨rfl,rfl,rfl⟩:=h;refine own i f off c d D N (fun l I=>xE (R:=Rd ρ.M C) (fun _ _=>b6) (fun V x ps r l=>ij (mh ρ) C V x ps r l) g U I) (fun E=>?_) F;subst E;unfold uW at g;split at g;split at g;rename_i K;simp only[pN,aE,aL] at g K;rw[<- g.1,<- K.1];simp at g;simp at g;simp at h;simp at h
 ·rename_i e xs;split at h
  ·rename_i Z _;subst Z;simp only[aE,aL,qQ] at h;obtain⟨rfl,rfl,rfl⟩:=h;rcases CH F with ⟨rfl,y,n,z,hz⟩|⟨Q,o,n,z,I,L,X,hL,Y⟩
   ·refine⟨rfl,[],rfl,?_⟩;cases y with
    | none=>rw[hz rfl] at z;exact .inl ⟨z,rfl⟩
    | some y=>exact .inr ⟨y,n,z,fun j x t=>by simp at t⟩
   refine⟨rfl,_,Y,.inr ⟨_,_,z,fun j x t=>?_⟩⟩;rw[ln];refine Iy T X ?_;rw[fE] at t;split at t;simpa using t;cases t
  simp at h
 simp only[aE,aL] at h;obtain⟨rfl,rfl,rfl⟩:=h;exact⟨rfl,[],rfl,.inl ⟨cc F,rfl⟩⟩;simp at h
theorem ca.full {b N:Nat} {l:List Value} (h:ca w b N l):∃ L,ca w b N L/\L.length=N/\∃ r,L=l++r:=by obtain⟨c,e,fr,f,d,g⟩:=h;exact⟨l++c,⟨[],e,fr,by simpa using f,by simpa using d,g⟩,d,c,rfl⟩
theorem ca.pre {b N:Nat} {l r:List Value} (h:ca w b N (l++r)):ca w b N l:=by obtain⟨d,e,fr,f,g,j⟩:=h;exact⟨r++d,e,fr,by simpa using f,by simpa using g,j⟩
theorem ze {t ty e:TypeId} {i:TypeInfo} {z:Value} (T:P.underlying t=some (.slice e)) (R:P.info? e=some i) (hz:i.zero=some z) (Q:z.cells.size=i.size)
  {y u:Value} {len m:Nat} {g d:List Value}
  (hy:(y=.slice none 0 0/\len=0/\g=[])\/∃ b o c N L,y=.slice (some ⟨b,o,none⟩) len c/\len<=c/\(o=0\/c=0)/\o+c*i.size<=N/\ca w b N L/\len*i.size<=L.length/\g=L.take (len*i.size))
  (U:(u=.slice none 0 0/\m=0)\/∃ s c,u=.slice (some s) m c/\∀ j x,d[j]?=some x->w.cell? (s.add j)=some x)
  (A:d.length=m*i.size) (O:∀ x∈d,x.oneCell'=true) (hb:(len+m)*i.bytes<=140737488355328) (x3:len+m<=4611686018427387904) :
  (y=.slice none 0 0/\m=0/\(Builtin.append_ #[t,t] ty #[y,u]).run P w=.ok (.slice none 0 0) w) \/
  (∃ b o c N L f,y=.slice (some ⟨b,o,none⟩) len c/\len+m<=c/\(o=0\/c=0)/\ca w b N L/\(Builtin.append_ #[t,t] ty #[y,u]).run P w=.ok (.slice (some ⟨b,o,none⟩) (len+m) c) f /\
   ca f b N (g++d)/\f.heap.size=w.heap.size/\(∀ D,D≠b->f.heap[D]?=w.heap[D]?)/\f.os=w.os/\f.tape=w.tape/\f.output=w.output) \/
  (∃ q C,len+m<=q/\(g++d++C).length=q*i.size /\
   (Builtin.append_ #[t,t] ty #[y,u]).run P w=.ok (.slice (some ⟨w.heap.size,0,none⟩) (len+m) q) (w.drew.alloc (.cells ⟨g++d++C⟩ e))):=by
 have K:Builtin.lenOf u=pure m:=by rcases U with ⟨rfl,rfl⟩|⟨s,c,rfl,_⟩<;>rfl
 have hf:(Builtin.firstCells i.size m u).run P w=.ok d.toArray w:=by rcases U with ⟨rfl,rfl⟩|⟨s,c,rfl,h⟩;have:d=[]:=dM (by simpa using A);subst this;exact run_firstCells_none w _ _ _ _;exact run_firstCells_some w i.size m s m c d A h
 rcases hy with ⟨rfl,rfl,rfl⟩|⟨b,o,c,N,L,rfl,x1,E,hN,n,hL,rfl⟩;by_cases hm:m=0;subst hm;refine .inl ⟨rfl,rfl,?_⟩;simp[Builtin.append_,run_underlying T,sizeOf,typeInfo,R,K,hf];rcases U with ⟨_,h0⟩|⟨s,c,rfl,h⟩;exact absurd h0 hm;have H:=grownCap_ge w m 0 e;refine .inr (.inr ⟨grownCap w m 0 e,(Builtin.zeroCells z.cells (grownCap w m 0 e-m)).toList,aa,?_,?_⟩);simp only[dG,a7,np,size_zeroCells,Q,A,<- ff];congr 1;omega;rw[run_append_nil (P:=P) w t ty e i z T R hz s m c d A h aa aa (by rw[bO] at hb;omega)];rw[bO];congr 3;apply jn;simp
 ·by_cases k:len+m<=c
  ·refine .inr (.inl ?_);have x2:len*i.size+d.length<=c*i.size:=by rw[A,<- ff];exact fb _ k
   have x0:∃ f,(storeCells ⟨b,o+len*i.size,none⟩ d).run P w=.ok () f/\ca f b N (L.take (len*i.size)++d)/\f.heap.size=w.heap.size/\(∀ D,D≠b->f.heap[D]?=w.heap[D]?)/\f.os=w.os/\f.tape=w.tape/\f.output=w.output:=by
    by_cases W:c=0
    ·have h1:len=0:=by omega
     have h2:m=0:=aa;subst h1 h2;have:d=[]:=dM (by simpa using A);subst this;exact⟨w,by simp[storeCells],by simpa using ca.pre (l:=[]) n,rfl,fun _ _=>rfl,rfl,rfl,rfl⟩
    ·have E:o=0:=by
      rcases E with h|h;exact h;exact absurd h W
     subst E;obtain⟨L',X,x4,r,Y⟩:=n.full;obtain⟨f,g1,g2,V⟩:=pr (P:=P) (b:=b) (off:=0+len*i.size) d 0 w L' X aa O;refine⟨f,g1,?_,V⟩;have e1:L'.take (0+len*i.size+0)=L.take (len*i.size):=by rw[Y,gh,bO,lV hL]
     rw[e1,<- cH] at g2;exact ca.pre g2
   obtain⟨f,g1,g2,V,g4,g5,g6,g7⟩:=x0;refine⟨b,o,c,N,L,f,rfl,k,E,n,?_,g2,V,g4,g5,g6,g7⟩;simp[Builtin.append_,run_underlying T,sizeOf,typeInfo,R,K,k,hf,ln,g1]
  ·rcases U with ⟨_,h0⟩|⟨s,G,rfl,h⟩;omega;have H:=grownCap_ge w (len+m) c e;have F:(L.take (len*i.size)).length=len*i.size:=by simp;omega
   refine .inr (.inr ⟨grownCap w (len+m) c e,(Builtin.zeroCells z.cells (grownCap w (len+m) c e-(len+m))).toList,H,?_,?_⟩);simp only[a7,F,np,size_zeroCells,Q,A,<- ff];congr 1;omega
   ·rw[run_append_grow (P:=P) w t ty e i z T R hz ⟨b,o,none⟩ len c (L.take (len*i.size)) F (fun j v Z=>?_) s m G d A h aa aa (growslice_fits aa hb)];congr 3;apply jn;simp
    ·have I:j<len*i.size:=by
      have:=(List.getElem?_eq_some_iff.1 Z).1;rw[F] at this;exact this
     have E:o=0:=by
      rcases E with h|h;exact h
      ·have:len=0:=by omega
       subst this;simp at I
     subst E;rw[ln,bO];refine n.cell ?_;rw[fE] at Z;simpa[I] using Z
theorem yF (A:Ctx w0 id ρ B w) {wr:List (Nat × List Cell)} {b n:Nat} {o:List Cell} {l:List Value} {m:World} (x:SV) (p:List Prop) (t:w.heap.size<=b\/∃ q∈wr,ρ q.1=some b/\q.2=[])
  (C:m.os=w.os) (D:m.tape=w.tape) (E:m.output=w.output) (k:w.heap.size<=m.heap.size) (j:∀ c,c<w.heap.size->(∀ p∈wr,ρ p.1≠some c)->m.heap[c]?=w.heap[c]?)
  (d:ca m b n l) (F:az ρ o l) (z:∀ p∈wr,∀ q∈wr,p.1=q.1->p=q) (s:∀ p∈wr,(∃ o,B p.1=some o/\o≠[])/\p.2=[]) :
  Eff id B { val:=x,new:=[(id,o)],wr:=wr,pre:=p } ρ (ρ.push id b n) w m:=by
 have r:aC.le ρ (ρ.push id b n):=aC.Pd (A.free id (aI _) aa);refine⟨r,?_,?_,C,D,E,k,j,?_,?_,z,fun p f=>⟨(s p f).1,fun _ _ h=>absurd (s p f).2 h⟩,fun _ _ h=>.inl h⟩;intro i c h;by_cases e:i=id;subst e;rw[aC.iF] at h;simp at h;subst h;refine .inr ⟨aI _,aa,⟨(i,o),aw,rfl⟩,?_⟩;rcases t with t|⟨q,u,y,_⟩;exact .inl t;exact .inr ⟨q,u,y⟩;rw[aC.Dw e] at h;exact .inl h;intro i c h;by_cases e:i=id;subst e;rw[aC.iF] at h;simp at h;subst h;exact d.lt;rw[aC.Dw e] at h;have:=A.bound i c h;omega;intro p f;simp at f;subst f;refine⟨aI _,by show id<id+8;omega,fun c g _=>?_⟩;rw[aC.iF] at g;simp at g;subst g;exact⟨t,l,by rw[aC.ur];exact d,dU r F⟩;intro p f q u _ _ _;simp at f u;rw[f,u]
theorem KO (j:Ctx w0 id ρ B w) {wr:List (Nat × List Cell)} {e:List Cell} (x:SV) (p:List Prop) (g:∀ p∈wr,∀ q∈wr,p.1=q.1->p=q) (f:∀ p∈wr,(∃ e,B p.1=some e/\e≠[])/\p.2=[]) :
  Eff id B { val:=x,new:=[(id,e)],wr:=wr,pre:=p } ρ ρ w w:=by
 have d:=j.free id (aI _) aa;refine⟨aC.le_refl _,fun _ _ h=>.inl h,j.bound,rfl,rfl,rfl,aI _,fun _ _ _=>rfl,?_,?_,g,fun p c=>⟨(f p c).1,fun _ _ h=>absurd (f p c).2 h⟩,fun _ _ h=>.inl h⟩;intro p c;simp at c;subst c;exact⟨aI _,by show id<id+8;omega,fun b i _=>by rw[show ρ (id,e).1=none from d] at i;cases i⟩;intro p c q k _ _ _;simp at c k;rw[c,k]
theorem ca.size_eq {b N e:Nat} {L f:List Value} (h:ca w b N L) (j:ca w b e f):N=e:=by obtain⟨r,m,fr,k,l,_⟩:=h;obtain⟨n,g,i,c,d,_⟩:=j;rw[k] at c;simp only[aE,Obj.cells.injEq,Array.mk.injEq] at c;rw[<- l,<- d,c.1]
theorem Er (w:World) (l r:List Value) (e:TypeId):ca (w.drew.alloc (.cells ⟨l++r⟩ e)) w.heap.size (l++r).length l:=by refine⟨r,e,(0,0),?_,rfl,.inl rfl⟩;show (w.heap.push _)[w.heap.size]?=_;simp
theorem W6 (W:Ctx w0 id ρ B w) {ts:Array TypeId} {args:Array Operand} {vs:List SV} (h:IN P id ts vs B=some out) (E:∀ p∈out.pre,p) (hv:bq ρ vs (args.toList.map a.eval)):ct P id B ⟨dst,.call ⟨.builtin .append,args,ts⟩,ty,pos,af,gd⟩ out ρ a w:=by
 have ex:execOp a.eval ⟨dst,.call ⟨.builtin .append,args,ts⟩,ty,pos,af,gd⟩=(do pure (.value (<- Builtin.append_ ts ty (args.map a.eval)))):=rfl;have z1:=W.free id (aI _) aa;unfold IN at h;split at h
 ·rename_i t t' d x x8;split at h
  ·rename_i e x9 hu;have x9:=beq_true x9;subst x9;have x8:ts=#[t,t]:=by rw[<- Array.toArray_toList (xs:=ts),x8]
   subst x8;obtain⟨y,u,e1,hy,y7⟩:=cC hv;have x0:args.map a.eval=#[y,u]:=by apply jn;simpa using e1
   rw[x0] at ex;split at h
   ·rename_i κ z0;obtain⟨i,z,hi,hz,z7,F,hm,u0,y1,z8⟩:=DY z0;have y8:z.cells.size=i.size:=by
     rw[<- np,z7,F,sj z8]
    split at h
    ·rename_i m ys p i0 len c k;split at h
     ·rename_i c0 hB x4;have x4:=beq_true x4;subst x4;split at h
      ·rename_i e' n xs y6;split at h
       ·rename_i he _;subst he;simp only[qQ,aE] at h;subst h;have u1:len<=n:=E _ aw;have x7:(len+m)*bytesOf P e<=140737488355328:=E _ aw;have y5:len+m<=4611686018427387904:=E _ aw;obtain⟨U,r,f,k⟩:=xG W k (fun q hq=>E q (by simp[hq])) y7;have x5:r.length=m*i.size:=by rw[fS (fun _ _=>b6) f,U,F]
        have y0:=nW hy;have H:∃ C,dX (Rd ρ.M e') (xs.take len) C/\(xs.take len).length=len/\((y=.slice none 0 0/\len=0/\C=[])\/∃ b o A N L,y=.slice (some ⟨b,o,none⟩) len A/\len<=A/\(o=0\/A=0)/\o+A*i.size<=N/\ca w b N L/\len*i.size<=L.length/\C=L.take (len*i.size)):=by
         rcases y0 with ⟨h0,R⟩|⟨b,o,A,hb,hl,ho,Y,R⟩;subst h0;exact⟨[],rfl,rfl,.inl ⟨R,rfl,rfl⟩⟩
         ·obtain⟨l,T,hr⟩:=W.blks _ _ hB aw b hb;obtain⟨k1,k2,k3⟩:=kD y6 (cY hr);simp only at k1 k2 k3;have z3:=fS (fun _ _=>b6) k2;have z2:len*width e'<=l.length:=by rw[z3];exact fb _ aa
          exact⟨_,(gP (fun _ _=>b6) len k2).1,by simp;omega,.inr ⟨b,o,A,ρ.n i0,l,R,hl,by simpa using ho,by rw[F];exact Y,T,by rw[F];exact z2,by rw[F]⟩⟩
        obtain⟨C,x6,z6,H⟩:=H;have Z:=ze (P:=P) (w:=w) (ty:=ty) hu hi hz y8 H k x5 (yq (fun _ _=>vp) f) (by rw[y1];exact x7) y5;have I:az ρ [jk e' (len+m) (xs.take len++ys)] (C++r):=bP (fL (by rw[a7,z6,U]) (zv x6 f));have O:∀ p∈[(i0,([]:List Cell))],∀ q∈[(i0,([]:List Cell))],p.1=q.1->p=q:=by intro p E q hq _;simp at E hq;rw[E,hq]
        have K:∀ p∈[(i0,([]:List Cell))],(∃ cs,B p.1=some cs/\cs≠[])/\p.2=[]:=by intro p E;simp at E;subst E;exact⟨⟨_,hB,aw⟩,rfl⟩
        intro next Q Y;unfold Oper.wp;rcases Z with ⟨R,X,g⟩|⟨b,o,A,N,L,w',R,y2,ho,T,g,g2,g3,g4,g5,g6,g7⟩|⟨G,V,y3,D,g⟩;rw[bQ ex g];refine Y _ _ ρ (.inl ⟨?_,rfl⟩) (KO W _ _ O K);rcases y0 with ⟨h0,_⟩|⟨b,o,A,hb,hl,ho,y4,j⟩;omega;rw[R] at j;cases j
        ·rw[bQ ex g];rcases y0 with ⟨h0,j⟩|⟨b',o',z9,hb,hl,z5,y4,j⟩;rw[R] at j;cases j
         ·rw[R] at j;simp only[Value.slice.injEq,aE,Addr.mk.injEq,bR,true_and] at j;obtain⟨⟨rfl,rfl⟩,rfl⟩:=j;obtain⟨l,x3,u2⟩:=W.blks _ _ hB aw b hb;have y9:=T.size_eq x3;subst y9;refine Y _ _ (ρ.push id b (ρ.n i0)) (.inr ⟨b,o,A,aC.iF,y2,by simpa using z5,by rw[aC.ur];exact y4,rfl⟩)
           (yF W _ _ (.inr ⟨(i0,[]),aw,hb,rfl⟩) g5 g6 g7 aa (fun b' _ z4=>g4 b' (fun e=>by subst e;exact z4 (i0,[]) aw hb)) g2 I O K)
        ·rw[bQ ex g];rw[F] at D;have x2:=Er w (C++r) V e;refine Y _ _ (ρ.push id w.heap.size (G*width e')) (.inr ⟨w.heap.size,0,G,aC.iF,y3,.inl aw,by rw[aC.ur];omega,rfl⟩)
          (yF W _ _ (.inl (aI _)) rfl rfl rfl aw (fun b' x1 _=>Below.heap_alloc w.drew _ b' x1) (by rw[<- D];exact x2) I O K)
       simp at h
      simp at h
     simp at h
    ·rename_i m ys p k;simp only[aE] at h;subst h;have x7:m*bytesOf P e<=140737488355328:=E _ aw;have y5:m<=4611686018427387904:=E _ aw;obtain⟨U,r,f,k⟩:=xG W k (fun q hq=>E q (by simp[hq])) y7;have x5:r.length=m*i.size:=by rw[fS (fun _ _=>b6) f,U,F]
     have R:=cc hy;have Z:=ze (P:=P) (w:=w) (ty:=ty) (len:=0) hu hi hz y8 (.inl ⟨R,rfl,rfl⟩) k x5 (yq (fun _ _=>vp) f) (by rw[y1,bO];exact x7) aa;have I:az ρ [jk κ m ys] ([]++r):=bP (fL U f);have O:∀ p∈([]:List (Nat × List Cell)),∀ q∈([]:List (Nat × List Cell)),p.1=q.1->p=q:=by intro p E;cases E
     have K:∀ p∈([]:List (Nat × List Cell)),(∃ cs,B p.1=some cs/\cs≠[])/\p.2=[]:=by intro p E;cases E
     intro next Q Y;unfold Oper.wp;rcases Z with ⟨_,X,g⟩|⟨b,o,A,N,L,w',j,_⟩|⟨G,V,y3,D,g⟩;rw[bQ ex g];exact Y _ _ ρ (.inl ⟨X,rfl⟩) (KO W _ _ O K);rw[R] at j;cases j
     ·rw[bQ ex g];rw[F] at D;have x2:=Er w ([]++r) V e;rw[bO];refine Y _ _ (ρ.push id w.heap.size (G*width κ)) (.inr ⟨w.heap.size,0,G,aC.iF,aa,.inl aw,by rw[aC.ur];omega,rfl⟩)
       (yF W _ _ (.inl (aI _)) rfl rfl rfl aw (fun b' x1 _=>Below.heap_alloc w.drew _ b' x1) (by rw[<- D];exact x2) I O K)
    simp at h
   simp at h
  simp at h
 simp at h
theorem T7 (Y:Ctx w0 id ρ B w) {s d:TypeId} {x:Operand} {vs:List SV} (h:Fo P id s d vs B=some out) (hv:bq ρ vs [a.eval x]):ct P id B ⟨dst,.convert s d x,ty,pos,af,gd⟩ out ρ a w:=by
 unfold Fo at h;split at h;rename_i k1 k2 k3 i L I;obtain⟨z,e,u⟩:=bY hv;simp at e;subst e;have R:=cc u;simp[fz] at h;subst h;exact aW Y (bQ rfl (by rw[R];simp[convert,bp L,bp I,Conv.intToInt])) (kP rfl)
 ·rename_i e y L I;obtain⟨z,O,u⟩:=bY hv;simp at O;subst O;have R:=cc u;split at h
  ·rename_i he;simp at h;subst h;have t:=run_bytes_of_string (P:=P) w s d e (y) L I he;have H:(y).data.size=(y).size:=rfl;have x3:=grownCap_ge w (y).size 0 e;intro next Q hn;unfold Oper.wp;rw[bQ rfl (by rw[R];exact t)];have r:(bytesRow (y) (grownCap w (y).size 0 e)).toList=(jB (y)).map (Value.int .u8)++replicate (grownCap w (y).size 0 e-(y).size) (.int .u8 0):=by
    simp[bytesRow,jB,tM]
   have A:(jB (y)).length=(y).size:=by simp only[jB,bZ,np];rfl
   have m:(bytesRow (y) (grownCap w (y).size 0 e)).size=grownCap w (y).size 0 e:=by rw[<- np,r,a7,bZ,oT,A];omega
   have T:ca (w.drew.alloc (.cells (bytesRow (y) (grownCap w (y).size 0 e)) e ((bytesRow (y) (grownCap w (y).size 0 e)).size,(bytesRow (y) (grownCap w (y).size 0 e)).size+1))) w.heap.size (grownCap w (y).size 0 e) ((jB (y)).map (Value.int .u8)):=by refine⟨replicate (grownCap w (y).size 0 e-(y).size) (.int .u8 0),e,((bytesRow (y) (grownCap w (y).size 0 e)).size,(bytesRow (y) (grownCap w (y).size 0 e)).size+1),?_,?_,.inr ?_⟩;show (w.heap.push _)[w.heap.size]?=_;rw[<- r];simp;rw[<- r,np,m];rw[m];exact aI _
   exact hn _ _ (ρ.push id w.heap.size (grownCap w (y).size 0 e)) (.inr ⟨w.heap.size,0,_,aC.iF,x3,.inl aw,by rw[aC.ur];omega,rfl⟩)
    (yF Y _ _ (.inl (aI _)) rfl rfl rfl aw (fun N g _=>Below.heap_alloc w.drew _ N g) T ⟨_,[],(bw _).symm,⟨A,rfl⟩,rfl⟩ (by intro p K;cases K) (by intro p K;cases K))
  simp at h
 ·rename_i e0 e i x8 x9 len c L I;obtain⟨z,O,u⟩:=bY hv;simp at O;subst O;split at h
  ·rename_i ki k ks F he hB;simp at h;subst h;have F:=beq_true F;subst F;rcases nW u with ⟨h0,_⟩|⟨b,o,D,X,hl,ho,hn,R⟩;omega
   ·obtain⟨l,⟨C,Z,fr,hh,H,hf⟩,hr⟩:=Y.blks i _ hB aw b X;have x7:w.shape? b=some (Z,ρ.n i):=by
     unfold World.shape?;rw[hh];simp only[Bu,H]
    have x2:∃ f,(w.freeze ⟨b,ρ.n i,none⟩ 1).heap[b]?=some (.cells ⟨l++C⟩ Z f)/\ρ.n i<=f.1:=by obtain⟨lo,hi⟩:=fr;unfold World.freeze;rw[ai ae];show ∃ f,(w.heap.modify b _)[b]?=_/\_;rw[qE,ak rfl,hh];simp only[c6];by_cases E:lo=hi;subst E;exact⟨(ρ.n i,ρ.n i+1),aw,aI _⟩;refine⟨(min lo (ρ.n i),max hi (ρ.n i+1)),by simp[E],?_⟩;rcases hf with hf|hf;simp only[aL] at hf;exact absurd (hf.1.trans hf.2.symm) E;have hf:ρ.n i<=lo:=hf;exact Nat.le_min.2 ⟨hf,aI _⟩
    have t:(convert s s (.slice (some ⟨b,o,none⟩) (len+1) D)).run P w=.ok (.slice (some ⟨b,o,none⟩) (len+1) D) (w.freeze ⟨b,ρ.n i,none⟩ 1):=by
     have x1:e0=e:=by rw[L] at I;simpa using I
     subst x1;have x4:(markStringish ⟨b,o,none⟩).run P w=.ok () (w.freeze ⟨b,ρ.n i,none⟩ 1):=by simp[markStringish,x7]
     simp[convert,bp L,bp he,x4]
    obtain⟨f,U,V⟩:=x2;have G:(w.freeze ⟨b,ρ.n i,none⟩ 1).heap.size=w.heap.size:=by unfold World.freeze;rw[ai ae];simp
    intro next Q x5;unfold Oper.wp;rw[bQ rfl (by rw[R];exact t)];refine x5 _ _ ρ (.inr ⟨b,o,D,X,hl,ho,hn,rfl⟩) ⟨aC.le_refl _,fun _ _ h=>.inl h,fun j c hj=>by rw[G];exact Y.bound j c hj,?_,?_,?_,aa,?_,fun _ h=>(nomatch h),fun _ h=>(nomatch h),fun p K q W _=>by simp at K W;rw[K,W],?_,fun _ _ h=>.inl h⟩;unfold World.freeze;rw[ai ae];unfold World.freeze;rw[ai ae];unfold World.freeze;rw[ai ae];intro N _ x6;have x0:N≠b:=fun e=>x6 (i,k::ks) aw (by rw[e];exact X);unfold World.freeze;rw[ai ae];show (w.heap.modify b _)[N]?=_;rw[qE,ai (fun e=>x0 e.symm)];intro q W;simp at W;subst W;refine⟨⟨_,hB,aw⟩,fun N g _=>?_⟩;rw[X] at g;simp at g;subst g;exact⟨l,⟨C,Z,f,U,H,.inr V⟩,hr⟩
  simp at h
 simp at h
theorem aeQ (hc:Ctx w0 id ρ B w) {ts:Array TypeId} {args:Array Operand} {vs:List SV} (h:R0 P ts vs B=some out) (L:∀ p∈out.pre,p) (hv:bq ρ vs (args.toList.map a.eval)):ct P id B ⟨dst,.call ⟨.builtin .copy,args,ts⟩,ty,pos,af,gd⟩ out ρ a w:=by
 have ex:execOp a.eval ⟨dst,.call ⟨.builtin .copy,args,ts⟩,ty,pos,af,gd⟩=(do pure (.value (<- Builtin.copy_ ts ty (args.map a.eval)))):=rfl;unfold R0 at h;split at h
 ·rename_i t t' i0 g off len c x Y;split at h
  ·rename_i e hu;have Y:ts=#[t,t']:=by rw[<- Array.toArray_toList (xs:=ts),Y]
   subst Y;obtain⟨y,u,e1,hy,y0⟩:=cC hv;have T:args.map a.eval=#[y,u]:=by apply jn;simpa using e1
   rw[T] at ex;split at h
   ·rename_i d ds hB z;simp only[aX] at z;obtain⟨z,i⟩:=z;have z:=beq_true z;subst z;split at h
    ·rename_i a0 κ n xs q r O;split at h
     ·rename_i m ys p k X;simp only[aX] at X;have x8:=beq_true X.1;have I:=beq_true X.2;subst x8;simp only[aE] at h;subst h;have y7:off+len<=n:=L _ aw;obtain⟨y1,G,E,k⟩:=xG hc k (fun q A=>L q (by simp[A])) y0;have x7:=fS (fun _ _=>b6) E;obtain⟨y8,i⟩:=Option.isSome_iff_exists.1 i;have V:Builtin.lenOf u=pure m:=by
       rcases k with ⟨rfl,rfl⟩|⟨ad,H,rfl,_⟩<;>rfl
      generalize K:Nat.min m len=f at *;have x4:f<=m:=by rw[<- K];exact Nat.min_le_left _ _
      have x5:f<=len:=by rw[<- K];exact Nat.min_le_right _ _
      rw[<- I,y1] at x7;have y5:f*P.cellsOf e<=m*P.cellsOf e:=fb _ x4;have y6:f*P.cellsOf e<=len*P.cellsOf e:=fb _ x5;have W:=(gP (fun _ _=>b6) f E).1;rw[<- I] at W;have hf:(Builtin.firstCells (P.cellsOf e) f u).run P w=.ok (G.take (f*P.cellsOf e)).toArray w:=by
       rcases k with ⟨rfl,rfl⟩|⟨ad,H,rfl,h⟩
       ·have:f=0:=by omega
        subst this;simpa using run_firstCells_none (P:=P) w (P.cellsOf e) 0 0 0
       ·exact run_firstCells_some w (P.cellsOf e) f ad m H _ (by simp;omega) (fun j v hj=>h j v (by
         rw[fE] at hj;split at hj;exact hj
         ·cases hj))
      have x1:=nW hy;intro next Q hn;unfold Oper.wp;by_cases h0:len=0
      ·have x3:f=0:=by omega
       subst x3;have F:(Builtin.copy_ #[t,t'] ty #[y,u]).run P w=.ok (.int .i64 ((0:Nat):Int)) w:=by have D:Nat.min m len=0:=K;rcases x1 with ⟨_,ey⟩|⟨b,o,H,hb,hl,ho,x9,ey⟩;rw[ey];rw[h0] at D;simp only[Builtin.copy_,tG,tF,lX,Sem.run_bind,bp hu,Result.andThen_ok,V,Sem.run_pure,cK i,D,hf];rfl;rw[ey];simp only[Builtin.copy_,tG,tF,lX,Sem.run_bind,bp hu,Result.andThen_ok,V,Sem.run_pure,cK i,D,hf];simp[storeCells,goInt]
       rw[bQ ex F];refine hn _ w ρ (kP rfl) ⟨aC.le_refl _,fun _ _ h=>.inl h,hc.bound,rfl,rfl,rfl,aI _,fun _ _ _=>rfl,fun _ h=>(nomatch h),fun _ h=>(nomatch h),fun p L q A _=>by simp at L A;rw[L,A],?_,fun _ _ h=>.inl h⟩;intro q A;simp at A;subst A;refine⟨⟨_,hB,aw⟩,fun b hb _=>?_⟩;obtain⟨l,C,hr⟩:=hc.blks _ _ hB aw b hb;obtain⟨l1,R,l2,el,k1,k2,k3,k4,k5⟩:=wi O hr;refine⟨l,C,?_⟩;rw[el];exact gn k2 ⟨R,l2,rfl,fL (by simpa using k4) (by simpa using k5),k3⟩
      ·rcases x1 with ⟨x2,_⟩|⟨b,o,H,hb,hl,ho,x9,ey⟩;exact absurd x2 h0;have ho:o=g+off*P.cellsOf e:=by
        rcases ho with h|h;exact h;omega
       subst ho;obtain⟨l,C,hr⟩:=hc.blks _ _ hB aw b hb;obtain⟨l1,R,l2,el,k1,k2,k3,k4,k5⟩:=wi O hr;simp only at k4 k5;have x0:=fS (fun _ _=>b6) k5;rw[<- I,k4] at x0;have Z:(G.take (f*P.cellsOf e)).length=f*P.cellsOf e:=by simp;omega
       have y4:l.length=l1.length+(R.length+l2.length):=by rw[el];simp
       have y3:off*P.cellsOf e+f*P.cellsOf e<=R.length:=by rw[x0,<- ff];exact fb _ aa
       obtain⟨w',g1,g2,g3,g4,g5,g6,g7⟩:=pr (P:=P) (b:=b) (off:=g+off*P.cellsOf e) (G.take (f*P.cellsOf e)) 0 w l C (by rw[Z];omega) (yq (fun _ _=>vp) W);have F:(Builtin.copy_ #[t,t'] ty #[y,u]).run P w=.ok (.int .i64 (f:Int)) w':=by rw[ey];simp only[Builtin.copy_,tG,tF,lX,Sem.run_bind,bp hu,Result.andThen_ok,V,Sem.run_pure,cK i,K,hf,g1];rfl
       rw[bQ ex F];refine hn _ w' ρ (kP rfl) ⟨aC.le_refl _,fun _ _ h=>.inl h,fun j c hj=>by rw[g3];exact hc.bound j c hj,g5,g6,g7,aa,?_,fun _ h=>(nomatch h),fun _ h=>(nomatch h),fun p L q A _=>by simp at L A;rw[L,A],?_,fun _ _ h=>.inl h⟩;intro b' _ x6;exact g4 b' (fun e=>by subst e;exact x6 _ (List.mem_singleton.2 rfl) hb)
       ·intro q A;simp at A;subst A;refine⟨⟨_,hB,aw⟩,fun b' U _=>?_⟩;rw[hb] at U;simp at U;subst U;refine⟨_,g2,?_⟩;rw[gh,Z,el];have e1:(l1++(R++l2)).take (g+off*P.cellsOf e)=l1++R.take (off*P.cellsOf e):=by
         rw[List.take_append,bW aa,show g+off*P.cellsOf e-l1.length=off*P.cellsOf e by omega,lV aa]
        have e2:(l1++(R++l2)).drop (g+off*P.cellsOf e+f*P.cellsOf e)=R.drop (off*P.cellsOf e+f*P.cellsOf e)++l2:=by rw[oF,nk aa,dG,show g+off*P.cellsOf e+f*P.cellsOf e-l1.length=off*P.cellsOf e+f*P.cellsOf e by omega,qn aa]
        rw[e1,e2,cH];have N:=NO (fun _ _=>b6) k5 W off;have y2:(ys.take f).length=f:=by simp;omega
        rw[y2,Z,<- I] at N;exact gn k2 ⟨_,l2,by simp only[cH],fL (by simp;omega) N,k3⟩
     simp at h
    simp at h
   simp at h
  simp at h
 simp at h
theorem aeP (y:Ctx w0 id ρ B w) {o:FuncId->Option Spec} (j:aJ P o) {f:FuncId} {q:Array TypeId} {args:Array Operand} {l:List SV} {F:Spec} (x:o f=some F) (h:F w0 id l B=some out) (z:∀ p∈out.pre,p)
  (A:bq ρ l (args.toList.map a.eval)):ct P id B ⟨dst,.call ⟨.value (.func f),args,q⟩,ty,pos,af,gd⟩ out ρ a w:=by
 intro next Q n;have i:=j f F x w0 id l B out h z ρ _ w A y;have r:execOp a.eval ⟨dst,.call ⟨.value (.func f),args,q⟩,ty,pos,af,gd⟩=(callFunc f ((#[]++args.map a.eval) ++ #[])):=rfl;have c:(#[]++args.map a.eval) ++ #[]=(⟨args.toList.map a.eval⟩:Array Value):=by apply jn;simp
 unfold Oper.wp;rw[r,c];rcases i with ⟨d,g⟩|⟨v,m,d,b,g,t⟩;rw[d];refine g.mono ?_;rintro e m ⟨v,rfl,b,k,u⟩;exact n v m b k u;rw[d];exact n v m b g t
theorem abi (C:Ctx w0 id ρ B w) {t:FuncId->Option Spec} (m:aJ P t) {f:FuncId} {g:Operand} (k:a.eval g=.func (.func f) #[] #[]) {u:Array TypeId} {args:Array Operand} {o:List SV} {F:Spec} (A:t f=some F) (h:F w0 id o B=some out) (D:∀ p∈out.pre,p)
  (E:bq ρ o (args.toList.map a.eval)):ct P id B ⟨dst,.call ⟨.value g,args,u⟩,ty,pos,af,gd⟩ out ρ a w:=by
 intro next Q r;have l:=m f F A w0 id o B out h D ρ _ w E C;have x:execOp a.eval ⟨dst,.call ⟨.value g,args,u⟩,ty,pos,af,gd⟩=(callFunc f ((#[]++args.map a.eval) ++ #[])):=by show (do let d <- Deferred.ofValue (a.eval g) (args.map a.eval);invoke d.target d.args)=_;rw[k];rfl
 have c:(#[]++args.map a.eval) ++ #[]=(⟨args.toList.map a.eval⟩:Array Value):=by apply jn;simp
 unfold Oper.wp;rw[x,c];rcases l with ⟨i,j⟩|⟨v,q,i,b,j,y⟩;rw[i];refine j.mono ?_;rintro e q ⟨v,rfl,b,n,z⟩;exact r v q b n z;rw[i];exact r v q b j y
theorem Pm (D:Ctx w0 id ρ B w) {u:FuncId->Option Spec} (n:aJ P u) {f:FuncId} {i:Operand} {b:List Value} (l:a.eval i=.func (.func f) ⟨[]⟩ ⟨b⟩) {x:Array TypeId} {args:Array Operand} {q:List SV} {F:Spec} (C:u f=some F) (h:F w0 id q B=some out) (E:∀ p∈out.pre,p)
  (G:bq ρ q (args.toList.map a.eval++b)):ct P id B ⟨dst,.call ⟨.value i,args,x⟩,ty,pos,af,gd⟩ out ρ a w:=by
 intro next Q t;have m:=n f F C w0 id q B out h E ρ _ w G D;have y:execOp a.eval ⟨dst,.call ⟨.value i,args,x⟩,ty,pos,af,gd⟩=(callFunc f ((#[]++args.map a.eval)++⟨b⟩)):=by show (do let d <- Deferred.ofValue (a.eval i) (args.map a.eval);invoke d.target d.args)=_;rw[l];rfl
 have g:(#[]++args.map a.eval)++(⟨b⟩:Array Value)=(⟨args.toList.map a.eval++b⟩:Array Value):=by apply jn;simp
 unfold Oper.wp;rw[y,g];rcases m with ⟨j,k⟩|⟨v,r,j,c,k,z⟩;rw[j];refine k.mono ?_;rintro e r ⟨v,rfl,c,o,A⟩;exact t v r c o A;rw[j];exact t v r c k z
theorem xO:∀ {l m:List SV} {b c:List Value},bq ρ l b->bq ρ m c->bq ρ (l++m) (b++c):=by
 intro l;induction l with
 | nil=>intro m b c h d;have h:b=[]:=h;subst h;exact d
 | cons a l i=>intro m b c ⟨y,j,e,f,g⟩ d;subst e;exact⟨y,j++c,rfl,f,i g d⟩
theorem U4:∀ {j:Kd} {x:aH j} {f:FuncId} {l:List SV} {v:Value},HB j x=some (f,l)->Rd ρ.M j x [v]->∃ d,v=.func (.func f) ⟨[]⟩ ⟨d⟩/\bq ρ l d:=by
 intro j;induction j with
 | fn g =>intro x f l v h i;simp only[HB,aE,aL] at h;obtain⟨rfl,rfl⟩:=h;have i:[v]=[_]:=i;simp only[bx,bR] at i;exact⟨[],i,rfl⟩
 | cap c e m y =>intro x f l v h i;simp only[HB] at h;split at h;rename_i A C u;simp only[aE,aL] at h;obtain⟨rfl,rfl⟩:=h;obtain⟨g,d,b,o,n,r,t⟩:=i;obtain⟨k,q,z⟩:=m u r;simp only[Value.func.injEq,Array.mk.injEq] at q;obtain⟨rfl,_,rfl⟩:=q;simp only[bx,bR] at n;refine⟨_,n,xO z ⟨_,[],rfl,Dc t aw aw,rfl⟩⟩;simp at h
 | _=>intro x f l v h;simp[HB] at h
theorem Zv:∀ {l:List Nat} {c:List Value},iq ρ l c->bq ρ (HD l) c:=by
 intro l;induction l with
 | nil=>intro c h;exact h
 | cons i l g =>intro c ⟨b,j,d,e,f⟩;subst f;exact xO (g e) ⟨_,[],rfl,⟨b,d,rfl⟩,rfl⟩
theorem Qh:∀ {g:List SV} {l m:List Nat} {f ws:List Value},yx g l=some m->bq ρ g f->iq ρ l ws->iq ρ m (ws++f):=by
 intro g;induction g with
 | nil =>intro l m f ws h d j;simp only[yx,aE] at h;subst h;have d:f=[]:=d;subst d;rw[bw];exact j
 | cons v g q =>intro l m f ws h d j;unfold yx at h;split at h;rename_i c;cases c;rename_i i r c;simp only[bx] at c;obtain⟨rfl,rfl⟩:=c;obtain⟨y,t,e,c,n⟩:=d;obtain⟨b,o,k⟩:=oa c;subst k e;have:=q h n (ws:=ws++[.pointer (some ⟨b,0,none⟩)]) ⟨b,ws,o,j,rfl⟩;simpa using this;simp at h
theorem RA (k:Ctx w0 id ρ B w) {fn:Fn} {first b:Array Operand} {j:List SV} (h:CZ fn first j=some out) (n:bq ρ j ((first++b).toList.map a.eval)):ct P id B ⟨dst,.makeFunc fn first b,ty,pos,af,gd⟩ out ρ a w:=by
 have g:∀ (f:FuncId) (m:List Nat),first.size=0->yx j []=some m->iq ρ m (b.toList.map a.eval)/\(execOp a.eval ⟨dst,.makeFunc (.func f) first b,ty,pos,af,gd⟩).run P w=.ok (.value (.func (.func f) ⟨[]⟩ ⟨b.toList.map a.eval⟩)) w:=by intro f m c d;have l:first=#[]:=A8 c;subst l;refine⟨?_,?_⟩;have:=Qh (ws:=[]) d n rfl;simpa using this;·refine bQ (s:=Instr.makeFunc (.func f) ((#[]:Array Operand).map a.eval) (b.map a.eval)) rfl ?_;show Result.ok _ w=Result.ok _ w;congr 1;show Value.func _ _ _=Value.func _ _ _;congr 1;all_goals (apply jn;simp)
 unfold CZ at h;split at h;rename_i f c d;simp[fz] at h;subst h;obtain⟨e,i⟩:=g f [] c d;have e:b.toList.map a.eval=[]:=e;rw[e] at i;exact aW k i (kP rfl);rename_i f m _ c d;simp[ret] at h;subst h;obtain⟨e,i⟩:=g f m c d;exact aW k i ⟨_,e,rfl⟩;simp at h
theorem Wy (b:Ctx w0 id ρ B w) {s:SV} {v:Value} (h:s.rel ρ v):(norm w0 s).rel ρ v:=by unfold norm;split;rename_i g;split;rename_i e x c;have ev:=cc h;subst ev;exact Dc (b.glob g e x c) aw aw;exact h;exact h
theorem XH {s:SV} {v:Value} (h:s.rel ρ v):(AH s).rel ρ v:=by unfold AH;split;exact h.1;exact h
theorem uk (g:Ctx w0 id ρ B w):∀ {b:List SV} {c:List Value},bq ρ b c->bq ρ (b.map fun s=>AH (norm w0 s)) c:=by
 intro b;induction b with
 | nil=>intro c h;exact h
 | cons v b i=>intro c ⟨x,j,e,d,f⟩;exact⟨x,j,e,XH (Wy g d),i f⟩
theorem pR {b:BinOp} {t:TypeId} {x y:Operand} {p q:Option Addr} {n m c d:Nat}:(eqGuard b t x y (.slice p n c) (.slice q m d)).run P w=.ok () w:=by cases b<;>simp[eqGuard]
theorem sa {t e:TypeId} (d:P.underlying t=some (.slice e)) {b:Option Addr} {n c:Nat}:(Op.equal t (.slice b n c) (.slice none 0 0)).run P w=.ok b.isNone w:=by unfold Op.equal Op.maxDepth;rw[show (10000:Nat)=9999+1 from rfl,Op.equalIn];cases b<;>simp only[Sem.run_bind,bp d,Result.andThen_ok,Sem.run_pure]<;>rfl
theorem abl (i:Ctx w0 id ρ B w) {l:BinOp} {t r:TypeId} {x y:Operand} {m:List SV} (h:Nc P l t m=some out) (q:bq ρ m [a.eval x,a.eval y]):ct P id B ⟨dst,.binOp l t x y r,ty,pos,af,gd⟩ out ρ a w:=by unfold Nc at h;split at h;obtain⟨s,u,k,d,j⟩:=cC q;simp only[bx,bR] at k;obtain⟨rfl,rfl⟩:=k;have g:=cc j;split at h;rename_i e f;split at h;obtain⟨_,p,n,c,b⟩:=d;simp only[bx,bR] at b;simp[ret] at h;subst h;refine aW i (v:=.bool false) (bQ rfl ?_) rfl;rw[b,g];simp only[Sem.run_bind,pR,Result.andThen_ok,binOp,sa f,Sem.run_pure,wK];have b:=cc d;simp[ret] at h;subst h;refine aW i (v:=.bool true) (bQ rfl ?_) rfl;rw[b,g];simp only[Sem.run_bind,pR,Result.andThen_ok,binOp,sa f,Sem.run_pure,wL];simp at h;rename_i e f;split at h;obtain⟨_,p,n,c,b⟩:=d;simp only[bx,bR] at b;simp[ret] at h;subst h;refine aW i (v:=.bool true) (bQ rfl ?_) rfl;rw[b,g];simp only[Sem.run_bind,pR,Result.andThen_ok,binOp,sa f,Sem.run_pure,wK,oJ];have b:=cc d;simp[ret] at h;subst h;refine aW i (v:=.bool false) (bQ rfl ?_) rfl;rw[b,g];simp only[Sem.run_bind,pR,Result.andThen_ok,binOp,sa f,Sem.run_pure,wL,oM];simp at h;simp at h;simp at h
theorem va (j:Ctx w0 id ρ B w) {Z:FuncId->Option Spec} (D:aJ P Z) {o:Oper} {vs:List SV} (h:Fs P Z w0 id o.op vs B=some out) (r:∀ p∈out.pre,p)
  (g:bq ρ vs (o.op.operands.toList.map a.eval)):ct P id B o out ρ a w:=by
 obtain⟨dst,V,ty,pos,af,gd⟩:=o;unfold Fs at h;split at h;simp at h
 ·rename_i m;dsimp only at h m g;cases V<;>dsimp only at h<;>try (simp at h;done)
  case move x=>exact Ua j h g
  case assign x=>exact Mv j h g
  case pick c x y=>exact aeT j h g
  case alloc t=>exact abg j h
  case box t x=>exact af4 j h g
  case build t ps=>exact abh j m h r (by simpa[Op.operands,tM] using g)
  case buildSlice t n ps=>exact Mw j m h r (by simpa[Op.operands,tM] using g)
  case load t x=>exact aeR j (mo m).2.1 (mo m).2.2 h r g
  case store t x y=>exact abn j (mo m).1 h r g
  case fieldAddr t x f=>exact NH j (fun fd R=>(AQ m R).1) h g
  case indexAddr t x i=>exact NI j m h r g
  case index t x i=>exact abk j m h r g
  case field t x f=>exact abj j m h g
  case extract x i=>exact T8 j h g
  case binOp V t x y t'=>exact af3 j h r g
  case unOp V t x=>exact ajk j h g
  case convert s d x=>exact T7 j h g
  case nilCheck x=>exact af6 j h g
  case sliceToArrayPointer t x=>exact af2 j h r g
  case makeSlice t x y=>exact aeS j h r g
  case slice t x lo hi mx =>
   refine abm j m h r ?_;simp only[Op.operands] at g;cases lo<;>cases hi<;>cases mx<;>simpa using g
  case makeFunc fn first I=>exact RA j h (by simpa[Op.operands] using g)
  case call c =>
   obtain⟨ce,args,ts⟩:=c;unfold Zh at h;split at h;rename_i f v H b;dsimp only at b;subst b;split at h;rename_i F E;simp only[Op.operands,Call.operands,wI,eI,iT,dG] at g;obtain⟨y,W,z,_,A⟩:=g;simp only[bx] at z;obtain⟨_,rfl⟩:=z;exact aeP j D E h r A;simp at h;rename_i Y f H _ b;dsimp only at b;subst b;split at h;rename_i F E;simp only[Op.operands,Call.operands,wI,eI,iT,dG] at g;obtain⟨y,W,z,L,A⟩:=g;simp only[bx] at z;obtain⟨q,rfl⟩:=z;have C:=cc L;rw[C] at q;exact abi j D q E h r A;simp at h;rename_i Y κ x H _ b;dsimp only at b;subst b;split at h;rename_i f l K;split at h;rename_i F E;simp only[Op.operands,Call.operands,wI,eI,iT,dG] at g;obtain⟨y,W,z,L,A⟩:=g;simp only[bx] at z;obtain⟨q,rfl⟩:=z;obtain⟨X,C,Q⟩:=U4 K L.1;rw[C] at q;exact Pm j D q E h r (xO A Q);simp at h;simp at h;rename_i Y f l H _ b;dsimp only at b;subst b;split at h;rename_i F E;simp only[Op.operands,Call.operands,wI,eI,iT,dG] at g;obtain⟨y,W,z,L,A⟩:=g;simp only[bx] at z;obtain⟨q,rfl⟩:=z;obtain⟨us,O,C⟩:=L;simp only[bx,bR] at C;rw[C] at q;exact Pm j D q E h r (xO A (Zv O));simp at h;rename_i b;dsimp only at b;subst b;exact af5 j h (by simpa[Op.operands,Call.operands] using g);rename_i b;dsimp only at b;subst b;exact W6 j h r (by simpa[Op.operands,Call.operands] using g);rename_i b;dsimp only at b;subst b;exact aeQ j h r (by simpa[Op.operands,Call.operands] using g)
   ·rename_i k x U y b;dsimp only at b;subst b;obtain⟨u,v,e,T,G⟩:=cC g;simp only[Op.operands,Call.operands] at e;have z:=cc T;have N:=cc G;subst z N;simp[fz] at h;subst h;refine aW j (bQ (s:=Builtin.max_ ts _ (args.map a.eval)) rfl ?_) (kP rfl);have e:(args.map a.eval).toList=[Value.int k x,Value.int U y]:=by simpa using e
    unfold Builtin.max_;rw[e];rfl
   ·rename_i k x U y b;dsimp only at b;subst b;obtain⟨u,v,e,T,G⟩:=cC g;simp only[Op.operands,Call.operands] at e;have z:=cc T;have N:=cc G;subst z N;simp[fz] at h;subst h;refine aW j (bQ (s:=Builtin.min_ ts _ (args.map a.eval)) rfl ?_) (kP rfl);have e:(args.map a.eval).toList=[Value.int k x,Value.int U y]:=by simpa using e
    unfold Builtin.min_;rw[e];rfl
   simp at h
theorem QF (Y:Ctx w0 id ρ B w) {o:Oper} {out z:Out} (F:V6 (some out)=some z) (h:(∀ p∈out.pre,p)->ct P id B o out ρ a w) (hp:∀ p∈z.pre,p):ct P id B o z ρ a w:=by
 classical
 unfold V6 at F;split at F
 ·rename_i o' i k c j cell wr pre O;simp only[aE] at O;subst O;split at F
  ·rename_i e k' xs u W;simp only[aE] at F;subst F;simp only[aX,mX] at u;obtain⟨u,x8⟩:=u;have u:=beq_true u;subst u;have K:xs.length=k:=hp _ (Br ..);intro next Q hk;refine h (fun p d=>hp p (qq _ d)) next Q ?_;intro v w' x I g;have X:∀ p∈wr,p.2=[]:=fun p d=>List.isEmpty_iff.1 (x8 p d);rcases I with ⟨hz,I⟩|⟨b,o',x0,hb,C,ho,y0,I⟩;simp only[bx,bR] at I;have x9:xs=[]:=dM aa;refine hk v w' ρ ?_ { le:=aC.le_refl _,dom:=fun _ _ h=>.inl h,bound:=fun i b hi=>fe (Y.bound i b hi) g.size,os:=g.os,tape:=g.tape,output:=g.output,size:=g.size,same:=g.same,new:=(fun p d=>by cases d),newinj:=(fun p d=>by cases d),wruniq:=g.wruniq,wr:=fun p d=>⟨(g.wr p d).1,fun _ _ h=>absurd (X p d) h⟩,mem:=fun _ _ h=>.inl h };subst x9;rw[I];exact .inl ⟨rfl,none,0,rfl,fun _=>rfl⟩
   ·simp only[bx,bR] at I;have E:([cell]:List Cell)≠[]:=aw;obtain⟨_,_,T⟩:=g.new (i,[cell]) aw;obtain⟨t,l,N,x4⟩:=T b hb E;obtain⟨v1,v2,el,x3,D⟩:=x4;have D:v2=[]:=D;subst D;rw[bw] at el;subst el;obtain⟨_,V,_⟩:=kD W x3;obtain⟨f,x1,fr,G,_⟩:=N;have U:∀ r,ρ.M b≠some r:=by
     intro r Z;rcases t with x5|⟨q,hq,x7,_⟩;obtain⟨el,fr,hh⟩:=Y.mem b r Z;have:=ef x5;rw[this] at hh;cases hh;obtain⟨⟨cs,hB,x6⟩,_⟩:=g.wr q hq;exact Y.apart b r Z q.1 cs hB x6 x7
    have H:x.M b=none:=by
     cases Z:x.M b with
     | none=>rfl
     | some r =>rcases g.mem b r Z with L|⟨L,_⟩;exact absurd L (U r);exact absurd hb (L (i,[cell]) aw)
    let A:aC:=⟨ρ.m,ρ.n,fun s=>if s=b/\l++f≠[] then some (l++f) else x.M s⟩;have hM:Mem.le x.M A.M:=by intro s r y;show (if s=b/\l++f≠[] then _ else x.M s)=some r;by_cases e:s=b/\l++f≠[];obtain⟨rfl,_⟩:=e;rw[H] at y;cases y;rw[ai e];exact y
    have x2:l++f≠[]->A.M b=some (l++f):=fun hn=>by show (if b=b/\l++f≠[] then _ else _)=_;rw[ak ⟨rfl,hn⟩]
    refine hk v w' A ?_ { le:=⟨fun _ _ h=>⟨h,rfl⟩,fun s r y=>hM s r (g.le.mem s r y)⟩,dom:=fun _ _ h=>.inl h,bound:=fun i b hi=>fe (Y.bound i b hi) g.size,os:=g.os,tape:=g.tape,output:=g.output,size:=g.size,same:=g.same,new:=(fun p d=>by cases d),newinj:=(fun p d=>by cases d),wruniq:=g.wruniq,wr:=fun p d=>⟨(g.wr p d).1,fun _ _ h=>absurd (X p d) h⟩,mem:=?_ }
    ·rw[I];show Rd A.M (.sl e) xs _;rcases ho with rfl|rfl
     ·have hl:=fS (fun _ _=>b6) V;have hz:0+0*c=0:=by rw[jm]
      refine .inr ⟨b,0+0*c,x0,by rw[K],by rw[K];exact C,l++f,x2,by rw[hz,a7,hl,bO];exact Nat.le_add_right _ _,?_⟩;rw[hz,gL,<- hl,lz rfl];exact ee (fun _ _ h=>dd hM h) V
     have R:k=0:=Nat.le_zero.1 C;exact .inl ⟨dM (K.trans R),some ⟨b,o',none⟩,0,by rw[R],fun h=>by cases h⟩
    intro s r y;have y:(if s=b/\l++f≠[] then some (l++f) else x.M s)=some r:=y;by_cases e:s=b/\l++f≠[];have h2:some (l++f)=some r:=(ak e).symm.trans y;obtain⟨rfl,hn⟩:=e;obtain rfl:=jV h2;exact .inr ⟨(fun p d=>by cases d),t,x1,fr,by rw[yf hn];exact G⟩;rw[ai e] at y;rcases g.mem s r y with L|⟨_,h2,h3⟩;exact .inl L;exact .inr ⟨(fun p d=>by cases d),h2,h3⟩
  cases F
 cases F
theorem R7 (b:Ctx w0 id ρ B w) {l:FuncId->Option Spec} (d:aJ P l) {o:Oper} {m:List SV} (h:XQ P l w0 id o.op m B=some out) (i:∀ p∈out.pre,p)
  (e:bq ρ m (o.op.operands.toList.map a.eval)):ct P id B o out ρ a w:=by
 obtain⟨dst,k,ty,pos,af,gd⟩:=o;unfold XQ at h;dsimp only at h e;split at h;exact Ua b h e;exact Mv b h e
 ·rename_i c;split at h
  ·cases f:Fs P l w0 id (.call c) (m.map fun s=>AH (norm w0 s)) B with
   | none=>rw[f] at h;cases h
   | some g =>rw[f] at h;exact QF b h (fun j=>va (o:=⟨dst,.call c,ty,pos,af,gd⟩) b d f j (uk b e)) i
  exact va (o:=⟨dst,.call c,ty,pos,af,gd⟩) b d h i (uk b e)
 rename_i k t x y n ;split at h;rename_i g f;simp only[aE] at h;subst h;exact abl b f e;exact va (o:=⟨dst,.binOp k t x y n,ty,pos,af,gd⟩) b d h i (uk b e);exact va (o:=⟨dst,k,ty,pos,af,gd⟩) b d h i (uk b e)
theorem EI {t:TypeId} (h:isStr P t=true):P.underlying t=some .string:=by unfold isStr at h;split at h;assumption;cases h
theorem aaH {t:TypeId} (h:Wk P t=true):P.underlying t=some (.int .u8):=by unfold Wk at h;split at h;assumption;cases h
theorem T9 (f:Ctx w0 id ρ B w) {t:TypeId}:ct P id B ⟨dst,.makeMap t none,ty,pos,af,gd⟩ { val:=.is (.one (.fv .mp ())) } ρ a w:=by
 intro next Q o;unfold Oper.wp;have g:(execOp a.eval ⟨dst,.makeMap t none,ty,pos,af,gd⟩).run P w=.ok (.value (.map (some w.heap.size))) { w with heap:=w.heap.push (.map #[] 0) } :=
  bQ (s:=Instr.makeMap t none) rfl (by unfold Instr.makeMap;simp)
 rw[g];let c:aC:=⟨ρ.m,ρ.n,fun b=>if b=w.heap.size then some [] else ρ.M b⟩;have d:∀ b l,ρ.M b=some l->b≠w.heap.size:=by rintro b l h rfl;obtain⟨q,fr,k⟩:=f.mem _ l h;simp at k
 have j:Mem.le ρ.M c.M:=by intro b l h;show (if b=w.heap.size then _ else ρ.M b)=_;rw[ai (d b l h)];exact h
 refine o _ _ c ⟨⟨_,rfl,?_⟩,rfl⟩ { le:=⟨fun _ _ h=>⟨h,rfl⟩,j⟩,dom:=fun _ _ h=>.inl h,bound:=?_,os:=rfl,tape:=rfl,output:=rfl,size:=?_,same:=?_,new:=fun _ h=>(nomatch h),newinj:=fun _ h=>(nomatch h),wruniq:=fun _ h=>(nomatch h),wr:=fun _ h=>(nomatch h),mem:=?_ };show (if w.heap.size=w.heap.size then _ else _)=_;rw[ak rfl];intro i b h;have:=f.bound i b h;show b<(w.heap.push _).size;rw[Array.size_push];omega;show _<=(w.heap.push _).size;rw[Array.size_push];omega;intro b r _;show (w.heap.push _)[b]?=_;rw[Array.getElem?_push,ai aa];intro b l h;have h:(if b=w.heap.size then some [] else ρ.M b)=some l:=h;by_cases e:b=w.heap.size;rw[ak e] at h;simp only[aE] at h;subst h;refine .inr ⟨fun _ h=>(nomatch h),.inl aa,0,(0,0),?_⟩;show (w.heap.push _)[b]?=_;rw[e];simp[nF];rw[ai e] at h;exact .inl h
theorem GO {b n:Nat} {c:Array MapEntry} (h:w.heap[b]?=some (.map c n)):(getObj b).run P w=.ok (.map c n) w:=by simp only[getObj,Sem.run,h]
theorem W7 (E:Ctx w0 id ρ B w) {t k e:TypeId} {x y:Operand} {A:List Cell} {s:ByteArray} {u:aH .mp} (R:P.underlying t=some (.map k e)) (O:isStr P k=true) (o:IP P e=true) (j:xR P e=some A)
  (T:bq ρ [.is (.one (.fv .mp u)),.is (.one (.v (.string s)))] [a.eval x,a.eval y]):ct P id B ⟨dst,.lookup t x y true,ty,pos,af,gd⟩ { val:=.tup [.agg A,.one .F] } ρ a w:=by
 obtain⟨U,V,C,L,g⟩:=cC T;simp only[bx,bR] at C;obtain⟨I,K⟩:=C;have g:=cc g;subst g;obtain⟨⟨b,D,N⟩,_⟩:=L;simp only[bx,bR] at D;subst D;obtain⟨H,fr,n⟩:=E.mem b [] N;have n:w.heap[b]?=some (.map #[] H):=n;obtain⟨i,z,G,d,Q⟩:=xS (ρ:=ρ) j;have q:∃ l,z=.agg ⟨l⟩:=by unfold IP at o;split at o;rename_i c;rw[G] at c;simp only[aE] at c;subst c;simp only[aE] at d;exact⟨_,d.symm⟩;cases o
 obtain⟨l,rfl⟩:=q;have f:=EI O;refine aW E (v:=.tuple ⟨[.agg ⟨l⟩,.bool false]⟩) (bQ (s:=Instr.lookup t (a.eval x) (a.eval y) true) rfl ?_) ⟨_,rfl,_,_,rfl,⟨l,rfl,Q⟩,_,_,rfl,rfl,rfl⟩;rw[I,K];unfold Instr.lookup;have h:(Instr.checkKey true 10000 k (.string s)).run P w=.ok () w:=by rw[show (10000:Nat)=9999+1 from rfl,Instr.checkKey];simp only[Sem.run_bind,bp f,Result.andThen_ok,Sem.run_pure]
 have m:(Instr.findKey k (.string s) []).run P w=.ok none w:=by unfold Instr.findKey;simp only[Sem.run_bind,bp f,Result.andThen_ok,Instr.findNow,Sem.run_pure]
 have r:(zeroValue e).run P w=.ok (.agg ⟨l⟩) w:=by unfold zeroValue;simp only[Sem.run_bind,pA G,Result.andThen_ok,d,Sem.run_pure]
 simp only[Sem.run_bind,bp R,Result.andThen_ok,GO n,Sem.run_pure];simp only[show (#[]:Array MapEntry).isEmpty=true from rfl,h,m,r,Sem.run_bind,Result.andThen_ok,Sem.run_pure];rfl
theorem RB (z:Ctx w0 id ρ B w) {t:TypeId} {x:Operand} {c b e:Option Operand} {s:ByteArray} {r:List SV} {l h:Int} {p:List Prop} (n:P.underlying t=some .string) (d:BG s.size c b e r=some (l,h,none,p)) (A:∀ q∈p,q)
  (C:bq ρ (.is (.one (.v (.string s)))::r) (a.eval x::((c.map a.eval).toList++((b.map a.eval).toList++(e.map a.eval).toList)))) :
  ct P id B ⟨dst,.slice t x c b e,ty,pos,af,gd⟩ { val:=.is (.one (.v (.string (s.extract l.toNat h.toNat)))),pre:=p } ρ a w:=by
 have g:e=none:=by unfold BG at d;split at d<;>simp at d<;>rfl
 subst g;obtain⟨y,E,k,i,j⟩:=C;simp only[bx] at k;obtain⟨o,rfl⟩:=k;have i:=cc i;subst i;obtain⟨g1,g2,D,u,m,f⟩:=sG (P:=P) (w:=w) (aI s.size) d A j false;refine aW z (bQ (s:=Instr.sliceAt t (a.eval x) (c.map a.eval) (b.map a.eval) none) rfl ?_) ⟨rfl,rfl⟩;rw[o,run_sliceAt_string w t _ _ _ _ n];unfold Instr.slice;simp only[Sem.run_bind,bp n,Result.andThen_ok,Option.isSome_none,lY,dQ,Sem.run_pure];have f:(Instr.sliceBounds false s.size s.size (c.map a.eval) (b.map a.eval) none).run P w=.ok (l.toNat,h.toNat,iN none s.size) w:=f;simp only[f,Result.andThen_ok]
theorem I0 (x y:ByteArray):(x.toList==y.toList)=decide (x=y):=by by_cases h:x=y;subst h;simp;rw[cp h];refine beq_eq_false_iff_ne.2 fun e=>h ?_;rw[ByteArray.toList_eq,ByteArray.toList_eq] at e;exact ByteArray.ext (Array.toList_inj.1 e)
theorem Pn (i:Ctx w0 id ρ B w) {t k:TypeId} {x y:Operand} {s e:ByteArray} (b:Bool) (j:bq ρ [.is (.one (.v (.string s))),.is (.one (.v (.string e)))] [a.eval x,a.eval y]) :
  ct P id B ⟨dst,.binOp (bif b then .neq else .eql) t x y k,ty,pos,af,gd⟩ { val:=.is (.one (.v (.bool (bif b then !decide (s=e) else decide (s=e))))) } ρ a w:=by
 obtain⟨l,m,f,c,d⟩:=cC j;simp only[bx,bR] at f;obtain⟨g,h⟩:=f;have c:=cc c;have d:=cc d;subst c d;refine aW i (bQ (s:=(do eqGuard (bif b then .neq else .eql) t x y (a.eval x) (a.eval y);binOp (bif b then .neq else .eql) t (a.eval x) (a.eval y))) rfl ?_) ⟨rfl,rfl⟩;rw[g,h];cases b<;>simp only[cond_true,cond_false,Sem.run_bind,eqGuard_at_string,binOp_string_eql,binOp_string_neq,Sem.run_pure,Result.andThen_ok,I0]
theorem Hn {t:TypeId} {E:Bool} {R T:List Cell} {u v:Value} (h:R1 P t E R T=some out) (V:∀ p∈out.pre,p) (hu:(SV.is (.agg R)).rel ρ u) (hv:(SV.is (.agg T)).rel ρ v) (x y:Operand) :
  ∃ r p,out={ val:=.is (.one (.v (.bool r))),pre:=p }/\(do eqGuard (bif E then .neq else .eql) t x y u v;binOp (bif E then .neq else .eql) t u v).run P w=.ok (.bool r) w:=by
 unfold R1 at h;split at h
 ·rename_i k e;split at h
  ·rename_i b ps c qs C hy;simp only[aE] at h;subst h;refine⟨_,_,rfl,?_⟩;obtain⟨l1,e1,r1⟩:=hu;obtain⟨l2,e2,r2⟩:=hv;obtain⟨u1,u2,U,f2,H⟩:=ij (mh ρ) _ _ _ _ _ _ C (fun p z=>V p (gK _ z)) r1;obtain⟨v1,v2,g1,g2,I⟩:=ij (mh ρ) _ _ _ _ _ _ hy (fun p z=>V p (hV _ z)) r2;have H:u2=[]:=H;have I:v2=[]:=I;subst H I;rw[bw] at U g1;subst U g1;obtain⟨Y,Z,ea,j,m⟩:=f2;obtain⟨b1,b2,eb,n,o⟩:=g2;have j:Y=[.string b.1]:=j;have m:Z=[.int k b.2]:=m;have n:b1=[.string c.1]:=n;have o:b2=[.int k c.2]:=o;subst j m n o ea eb;unfold UC at e;split at e
   ·rename_i fs q;split at e
    ·rename_i f g K;split at e
     ·rename_i i s;split at e
      ·rename_i d;simp only[aE] at e;subst e;simp only[aX,oE,bne_iff_ne,ne_eq] at d;obtain⟨⟨⟨⟨⟨⟨⟨⟨A,c2⟩,c3⟩,F⟩,G⟩,N⟩,O⟩,c8⟩,Q⟩:=d;have A:=EI A;have F:=beq_true F;have G:=beq_true G;have N:=beq_true N;have O:=beq_true O;have ht:P.underlying t=some (.struct (P.fieldsOf t)):=by rw[q];simp only[Program.fieldsOf,q]
       have L:(P.fieldsOf t).toList=[f,g]:=by simp only[Program.fieldsOf,q,K]
       have D:(Op.equalIn 10000 t (.agg ⟨[.string b.1]++[.int i b.2]⟩) (.agg ⟨[.string c.1]++[.int i c.2]⟩)).run P w=.ok (jI (.pair .str (.int i)) b c) w:=by
        rw[show (10000:Nat)=9999+1 from rfl,run_equalIn_struct w 9999 t _ _ ht c8,L];have hA:b9 P f.type=false:=by unfold b9;rw[A]
        have hB:b9 P g.type=false:=by unfold b9;rw[s]
        have W:∀ (l:List Value) (x:Value),l[0]?=some x->(part f.type ⟨l⟩ f.offset).run P w=.ok x w:=by intro l x C;unfold part;rw[F];simp[jw A,hA,C]
        have X:∀ (l:List Value) (x:Value),l[1]?=some x->(part g.type ⟨l⟩ g.offset).run P w=.ok x w:=by intro l x C;unfold part;rw[G];simp[jw s,hB,C]
        simp only[Op.eqFields];rw[ak c2,ak c3];simp only[Sem.run_bind,W _ _ (show ([Value.string b.1]++[Value.int i b.2])[0]?=some (.string b.1) from rfl),W _ _ (show ([Value.string c.1]++[Value.int i c.2])[0]?=some (.string c.1) from rfl),Result.andThen_ok];rw[show (9999:Nat)=9998+1 from rfl,run_equalIn_string w 9998 f.type _ _ A,I0];simp only[Result.andThen_ok];show _=Result.ok (decide (b.1=c.1)&&decide (b.2=c.2)) w;cases decide (b.1=c.1);simp
        ·simp only[oM,lY,dQ,Sem.run_bind,h8,
          X _ _ (show ([Value.string b.1]++[Value.int i b.2])[1]?=some (.int i b.2) from rfl),X _ _ (show ([Value.string c.1]++[Value.int i c.2])[1]?=some (.int i c.2) from rfl),Result.andThen_ok]
         rw[run_equalIn_int w 9998 g.type i i _ _ s];simp only[Result.andThen_ok];have hd:(b.2==c.2)=decide (b.2=c.2):=rfl;rw[hd];cases decide (b.2=c.2)<;>simp
       rw[e1,e2];cases E with
       | true=>simp only[cond_true,Sem.run_bind,run_eqGuard_agg w _ t x y _ _ Q,Result.andThen_ok,run_neq_struct,D]
       | false=>simp only[cond_false,Sem.run_bind,run_eqGuard_agg w _ t x y _ _ Q,Result.andThen_ok,run_eql_struct,D]
      cases e
     cases e
    cases e
   cases e
  cases h
 cases h
theorem abo (n:Ctx w0 id ρ B w) {s d e:TypeId} {x:Operand} {v:SV} {m:Nat} {c:List Int} {p:List Prop} (u:P.underlying s=some (.slice e)) (r:P.underlying e=some (.int .u8)) (o:P.underlying d=some .string)
  (h:DH B (.int .u8) v=some (m,c,p)) (E:∀ q∈p,q) (G:bq ρ [v] [a.eval x]) :
  ct P id B ⟨dst,.convert s d x,ty,pos,af,gd⟩ { val:=.is (.one (.v (.string (strOfNums c)))),pre:=p } ρ a w:=by
 obtain⟨z,l,H⟩:=bY G;simp only[bx,bR] at l;obtain⟨t,g,F,y⟩:=xG n h E H;refine aW n (bQ (s:=convert s d (a.eval x)) rfl ?_) ⟨rfl,rfl⟩;rw[l];rcases y with ⟨rfl,C⟩|⟨k,f,rfl,b⟩;have:c=[]:=dM (t.trans C);subst this;rw[run_convert_bytes_nil w s e u r 0 0 d o];rfl
 ·have D:g=c.map (Value.int .u8):=vb.1 F;subst D;have i:(loadCells k m).run P w=.ok (c.map (Value.int .u8)).toArray w:=by
   have:=run_loadCells_list (P:=P) w k (c.map (Value.int .u8)) (fun j v A=>b j v A);rw[bZ,t] at this;exact this
  rw[run_convert_bytes_string w s d e _ m f u r o,run_bytesToString w _ m f c i,foldl_push_bytes];simp[strOfNums,ByteArray.empty,ByteArray.emptyWithCapacity];rfl
theorem NN (b:Ctx w0 id ρ B w) {o:Oper} {E:List SV} (h:R5 P o.op E B=some out) (j:∀ p∈out.pre,p)
  (c:bq ρ E (o.op.operands.toList.map a.eval)):ct P id B o out ρ a w:=by
 obtain⟨dst,Q,ty,pos,af,gd⟩:=o;dsimp only at h c;unfold R5 at h;split at h;split at h;simp only[ret,aE] at h;subst h;exact T9 b;cases h;split at h;rename_i k e u s q;split at h;rename_i F g L;simp only[aE] at h;subst h;simp only[aX] at g;exact W7 b q g.1 g.2 L c;cases h;cases h;rename_i t x N I O;split at h;rename_i s r q;split at h;rename_i l V p g;simp only[aE] at h;subst h;refine RB b q g j ?_;simp only[Op.operands] at c;cases N<;>cases I<;>cases O<;>simpa using c;cases h;cases h;rename_i Q t x y X;split at h;rename_i s W;split at h;simp only[fz,aE] at h;subst h;exact Pn b false c;simp only[fz,aE] at h;subst h;exact Pn b true c;cases h;rename_i F U;obtain⟨R,T,f,C,D⟩:=cC c;simp only[Op.operands] at f;have f:[a.eval x,a.eval y]=[R,T]:=f;simp only[bx,bR] at f;obtain⟨z,A⟩:=f;split at h;obtain⟨r,p,rfl,m⟩:=Hn (w:=w) h j C D x y;exact aW b (bQ rfl (by rw[z,A];exact m)) (kP rfl);obtain⟨r,p,rfl,m⟩:=Hn (w:=w) h j C D x y;exact aW b (bQ rfl (by rw[z,A];exact m)) (kP rfl);cases h;cases h;rename_i s d x;split at h;rename_i e v K G;split at h;rename_i n Y p H i;simp only[aE] at h;subst h;exact abo b K (aaH H) (EI G) i j c;cases h;cases h;cases h
theorem UP (b:Ctx w0 id ρ B w) {i:FuncId->Option Spec} (d:aJ P i) {o:Oper} {j:List SV} (h:xop P i w0 id o.op j B=some out) (e:∀ p∈out.pre,p)
  (f:bq ρ j (o.op.operands.toList.map a.eval)):ct P id B o out ρ a w:=by
 unfold xop at h;split at h;rename_i g k;simp only[aE] at h;subst h;exact NN b k e (uk b f);exact R7 b d h e f
end
structure Env where
 P:Program
 sp:FuncId->Option Spec
 w0:cD
def cW:List (Nat × List Cell)->Nat->Option (List Cell)
 | [],_=>none
 | (i,c)::r,id=>match beq i id with
  | true=>some c
  | false=>cW r id
structure St where
 slots:List SV
 blks:List (Nat × List Cell)
 next:Nat
def St.S (d:St):cJ:=fun t=>d.slots.getD t .junk
def St.B (d:St):bE:=cW d.blks
def Oa:Value->SV
 | .bool true=>.is (.one .T)
 | .bool false=>.is (.one .F)
 | .agg _ | .tuple _=>.junk
 | x=>.is (.one (.v x))
def fC (S:cJ):Operand->SV
 | .tmp t=>S t
 | .const v=>Oa v
 | .global g=>.is (.one (.v (.pointer (some ⟨g,0,none⟩))))
 | .func f=>.is (.one (.v (.func (.func f) #[] #[])))
def Cell.ids:Cell->List Nat
 | .ptr i _ | .pe i _ _ _ | .sl i _ _ _ _=>[i]
 | .clo _ l=>l
 | _=>[]
def TV.ids:TV->List Nat
 | .one c=>c.ids
 | .agg d=>d.flatMap Cell.ids
def SV.ids:SV->List Nat
 | .is x=>x.ids
 | .tup l=>l.flatMap TV.ids
 | _=>[]
def eA (i:Nat):List Nat->Bool
 | []=>false
 | j::l=>match beq i j with
  | true=>true
  | false=>eA i l
def lO (ids:List Nat) (B:bE):bE:=fun i=>match eA i ids with
 | true=>B i
 | false=>none
def gq (B:bE) (c:List SV):List Nat :=
 let d:=c.flatMap SV.ids
 d++d.flatMap fun i=>match B i with
  | some b=>b.flatMap Cell.ids
  | none=>[]
def yN (b:Op) (B:bE) (d:List SV):List Nat:=match b with
 | .move _=>[]
 | _=>gq B d
inductive StepR where
 | bad
 | skip
 | run (out:Out) (ids:List Nat)
def mz (E:Env) (S:cJ) (B:bE) (id:Nat) (o:Oper):StepR :=
 let b:=o.op.operands.toList.map (fC S);let ids:=yN o.op B b;match xop E.P E.sp E.w0 id o.op b (lO ids B) with
 | some out=>.run out ids
 | none=>.bad
def qk (E:Env) (ops:Array Oper) (S:cJ) (B:bE) (id:Nat) (o:Oper):StepR :=
 match o.guard with
 | none=>mz E S B id o
 | some (j,b)=>match (ops[j]?).bind (·.dst) with
  | some d=>match S d,b with
   | .is (.one .T),true=>mz E S B id o
   | .is (.one .T),false=>.skip
   | .is (.one .F),true=>.skip
   | .is (.one .F),false=>mz E S B id o
   | .undef,_=>.skip
   | _,_=>.bad
  | none=>.bad
structure Rec where
 val:SV
 new:List (Nat × List Cell)
 wr:List (Nat × List Cell)
 ids:List Nat
def fw (n:Nat) (b:Option Tmp) (v:SV) (S:cJ):cJ:=fun t =>
 match b with
 | some d=>if t=d/\d<n then v else S t
 | none=>S t
def ia (r:Rec) (B:bE):bE:=fun id =>
 match cW r.new id with
 | some b=>some b
 | none=>match cW r.wr id with
  | some b=>some b
  | none=>B id
def cL (x y:SV):Prop:=∀ ρ v,x.rel ρ v->y.rel ρ v
def lv:Rec:=⟨.undef,[],[],[]⟩
def vq (E:Env) (ops:Array Oper) (S:cJ) (B:bE) (id:Nat) (o:Oper) (r:Rec):Prop :=
 (qk E ops S B id o=.skip/\r=lv) \/
 (∃ out ids,qk E ops S B id o=.run out ids/\(∀ p∈out.pre,p)/\cL out.val r.val/\r.new=out.new/\r.wr=out.wr/\r.ids=ids)
theorem gV {l:List (Nat × List Cell)} {id:Nat} {b:List Cell} (h:cW l id=some b):(id,b)∈l:=by
 induction l with
 | nil=>simp[cW] at h
 | cons p l e =>obtain⟨i,c⟩:=p;simp only[cW] at h;split at h;rename_i d;have:=beq_true d;subst this;simp at h;subst h;simp;exact qq _ (e h)
theorem Gk {l:List (Nat × List Cell)} {id:Nat} (h:cW l id=none):∀ p∈l,p.1≠id:=by
 induction l with
 | nil=>intro p hp;cases hp
 | cons q l d =>obtain⟨i,c⟩:=q;simp only[cW] at h;split at h;simp at h;rename_i b;intro p hp;rcases mem_cons.1 hp with rfl|hp;intro e;subst e;simp at b;exact d h p hp
theorem nG {ids:List Nat} {B:bE} {i:Nat} {b:List Cell} (h:lO ids B i=some b):B i=some b:=by unfold lO at h;split at h;exact h;simp at h
section
variable {E:Env} {ops:Array Oper} {n:Nat} {S:cJ} {B:bE} {ρ:aC} {a:Act} {w:World}
theorem Nm (v:Value):(Oa v).rel ρ v:=by
 cases v with
 | bool b=>cases b<;>exact rfl
 | agg _=>trivial
 | tuple _=>trivial
 | _=>exact⟨rfl,rfl⟩
structure cR (w0:cD) (n:Nat) (S:cJ) (B:bE) (ρ:aC) (a:Act) (w:World):Prop where
 defers:a.defers=[]
 size:a.tmps.size=n
 slots:∀ t,(S t).rel ρ (a.tmps.getD t Go.undef)
 below:kZ w0 w
 blks:∀ id cs,B id=some cs->cs≠[]->∀ b,ρ id=some b->∃ l,ca w b (ρ.n id) l/\az ρ cs l
 inj:∀ id id' cs cs' b,B id=some cs->cs≠[]->B id'=some cs'->cs'≠[]->ρ id=some b->ρ id'=some b->id=id'
 bound:∀ id b,ρ id=some b->w0.a6 b/\b<w.heap.size
 init:∀ p∈w0.ids,ρ p.1=some p.2/\ρ.n p.1=w0.num p
 mem:∀ b l,ρ.M b=some l->(∀ i cs,B i=some cs->cs≠[]->ρ i≠some b)/\∃ el fr,w.heap[b]?=some (nF l el fr)
 old:∀ b l,ρ.M b=some l->b<w0.w.heap.size->w0.own b=true\/w0.M b=some l
 glob:∀ g e x,w0.gl g=some ⟨e,x⟩->mw (Rd ρ.M e) (width e) ρ.M g 0 [x]
 tops:∀ p∈w0.ids,p.1<w0.top
 memle:Mem.le w0.M ρ.M
theorem cR.fC (h:cR E.w0 n S B ρ a w) (x:Operand):(fC S x).rel ρ (a.eval x):=by
 cases x with
 | tmp t=>exact h.slots t
 | const v=>exact Nm v
 | global g=>exact⟨rfl,rfl⟩
 | func f=>exact⟨rfl,rfl⟩
theorem cR.afi (h:cR E.w0 n S B ρ a w):∀ (l:List Operand),bq ρ (l.map (Eng.fC S)) (l.map a.eval):=by
 intro l;induction l with
 | nil=>rfl
 | cons x l b=>exact⟨_,_,rfl,h.fC x,b⟩
theorem Dx (b:Option Tmp) (v:Value) (t:Nat) (f:a.tmps.size=n) :
  (a.put b v).tmps.getD t Go.undef=(match b with|some d=>if t=d/\d<n then v else a.tmps.getD t Go.undef|none=>a.tmps.getD t Go.undef):=by
 cases b with
 | none=>rfl
 | some d =>simp only[Act.put,cE];by_cases h:t=d;subst h;by_cases c:t<n;rw[sz aa];simp[c];rw[Array.setIfInBounds_eq_of_size_le aa];simp[c];rw[vr (fun e=>h e.symm)];simp[h]
theorem Am (b:Option Tmp) (v:Value):(a.put b v).tmps.size=a.tmps.size:=by cases b<;>simp[Act.put]
theorem put_defers (b:Option Tmp) (v:Value):(a.put b v).defers=a.defers:=by cases b<;>simp[Act.put]
theorem cR.step (h:cR E.w0 n S B ρ a w) {id:Nat} {B0:bE} {out:Out} {r:Rec} {x1:Option Tmp} {P:aC} {w':World} {v:Value} (F:∀ i j,B0 i=some j->B i=some j)
  (m:Eff id B0 out ρ P w w') (hv:r.val.rel P v) (hn:r.new=out.new) (hw:r.wr=out.wr) :
  cR E.w0 n (fw n x1 r.val S) (ia r B) P (a.put x1 v) w':=by
 have x9:∀ i b,P i=some b->E.w0.a6 b:=by intro i b z;rcases m.dom i b z with h'|⟨_,_,_,h'|⟨q,_,h'⟩⟩;exact (h.bound i b h').1;exact .inl (h9 h.below.size h');exact (h.bound _ b h').1
 -- z4 cells y3,of an id
 have D:∀ i j,ia r B i=some j->j≠[]->(∃ p∈out.new,p.1=i/\p.2=j)\/((∀ p∈out.new,p.1≠i)/\∃ p∈out.wr,p.1=i/\p.2=j)\/((∀ p∈out.new,p.1≠i)/\(∀ p∈out.wr,p.1≠i)/\B i=some j):=by
  intro i j z _;unfold ia at z;split at z;rename_i c hc;simp at z;subst z;exact .inl ⟨(i,c),by rw[<- hn];exact gV hc,rfl,rfl⟩
  ·rename_i y0;have hnn:∀ p∈out.new,p.1≠i:=by intro p u;rw[<- hn] at u;exact Gk y0 p u
   split at z;rename_i c hc;simp at z;subst z;exact .inr (.inl ⟨hnn,(i,c),by rw[<- hw];exact gV hc,rfl,rfl⟩);rename_i N;exact .inr (.inr ⟨hnn,by intro p u;rw[<- hw] at u;exact Gk N p u,z⟩)
 -- an id z0 is not z3 y4 for z1 it y9 for
 have H:∀ i b,P i=some b->(∀ p∈out.new,p.1≠i)->ρ i=some b:=by intro i b z hnn;rcases m.dom i b z with h'|⟨_,_,⟨p,u,e⟩,_⟩;exact h';exact (hnn p u e).elim
 refine⟨?_,?_,?_,?_,?_,?_,?_,?_,?_,?_,?_,?_,?_⟩;rw[put_defers];exact h.defers;rw[Am];exact h.size
 ·intro t;rw[Dx x1 v t h.size];cases x1 with
  | none=>exact SV.fh m.le (h.slots t)
  | some d =>simp only[fw];by_cases hc:t=d/\d<n;simp only[hc,and_self,eB];exact hv;simp only[hc,dQ];exact SV.fh m.le (h.slots t)
 refine⟨m.os.trans h.below.os,m.tape.trans h.below.tape,m.output.trans h.below.output,h9 h.below.size m.size,fun k hk ho=>?_⟩;rw[<- h.below.block k hk ho];refine m.same k (fe hk h.below.size) (fun p _ e=>?_);rcases (h.bound _ _ e).1 with h'|h';omega;rw[ho] at h';cases h'
 ·intro i j z f b T;rcases D i j z f with ⟨p,u,rfl,rfl⟩|⟨hnn,p,u,rfl,rfl⟩|⟨hnn,N,L⟩;exact ((m.new p u).2.2 b T f).2;have I:=m.wr p u;have h':=H _ _ T hnn;obtain⟨l,g1,g2⟩:=I.2 b h' f;exact⟨l,by rw[(m.le.id _ _ h').2];exact g1,g2⟩
  ·have h':=H _ _ T hnn;obtain⟨l,g1,g2⟩:=h.blks i j L f b h';refine⟨l,?_,dU m.le g2⟩;rw[(m.le.id _ _ h').2]
   have hs:=m.same b g1.lt (fun p u e=>by
    obtain⟨⟨c,o,s⟩,_⟩:=m.wr p u
    exact N p u (h.inj _ _ _ _ _ (F _ _ o) s L f e h'))
   obtain⟨y2,el,fr,k1,k2,k3⟩:=g1;exact⟨y2,el,fr,by rw[hs];exact k1,k2,k3⟩
 ·have mixed:∀ p∈out.new,p.2≠[]->∀ i j b,ia r B i=some j->j≠[]->(∀ p∈out.new,p.1≠i)->P p.1=some b->P i=some b->False:=by
   intro p u x0 i j b z f hnn y6 y7;have h2:=H _ _ y7 hnn;rcases ((m.new p u).2.2 b y6 x0).1 with g|⟨q,V,G,W⟩;have:=(h.bound _ _ h2).2;omega;obtain⟨⟨c,o,s⟩,_⟩:=m.wr q V;rcases D i j z f with ⟨K,y,e,_⟩|⟨_,K,y,X,e2⟩|⟨_,N,L⟩;exact hnn K y e;obtain⟨⟨c',A,C⟩,_⟩:=m.wr K y;have:=h.inj _ _ _ _ _ (F _ _ o) s (F _ _ A) C G (by rw[X];exact h2);have:=m.wruniq q V K y this;subst this;exact f (by rw[<- e2];exact W);exact N q V (h.inj _ _ _ _ _ (F _ _ o) s L f G h2)
  have O:∀ i j,ia r B i=some j->j≠[]->(∀ p∈out.new,p.1≠i)->∃ c,B i=some c/\c≠[]:=by intro i j z f hnn;rcases D i j z f with ⟨K,y,e,_⟩|⟨_,K,y,X,e2⟩|⟨_,N,L⟩;exact (hnn K y e).elim;obtain⟨⟨c',A,C⟩,_⟩:=m.wr K y;exact⟨c',by rw[<- X];exact F _ _ A,C⟩;exact⟨j,L,f⟩
  intro i i' j x5 b z f x7 U T x2;have dec:∀ i j,ia r B i=some j->j≠[]->(∃ p∈out.new,p.1=i/\p.2=j)\/(∀ p∈out.new,p.1≠i):=by intro i j z f;rcases D i j z f with Y|⟨Y,_⟩|⟨Y,_⟩;exact .inl Y;exact .inr Y;exact .inr Y
  rcases dec i j z f with ⟨p,u,X,e2⟩|hnn<;>rcases dec i' x5 x7 U with ⟨K,y,x6,y5⟩|hnn';rw[<- X,<- x6];exact m.newinj p u K y b (by rw[X];exact T) (by rw[x6];exact x2);exact (mixed p u (by rw[e2];exact f) i' x5 b x7 U hnn' (by rw[X];exact T) x2).elim;exact (mixed K y (by rw[y5];exact U) i j b z f hnn (by rw[x6];exact x2) T).elim;obtain⟨c,o,s⟩:=O i j z f hnn;obtain⟨c',A,C⟩:=O i' x5 x7 U hnn';exact h.inj _ _ _ _ _ o s A C (H _ _ T hnn) (H _ _ x2 hnn')
 intro i b z;exact⟨x9 i b z,m.bound i b z⟩;intro p u;exact⟨(m.le.id _ _ (h.init p u).1).1,((m.le.id _ _ (h.init p u).1).2).trans (h.init p u).2⟩
 ·have O:∀ i j,ia r B i=some j->j≠[]->(∀ p∈out.new,p.1≠i)->(∃ c,B i=some c/\c≠[])/\∀ p∈out.wr,p.1=i->p.2≠[]:=by
   intro i j z f hnn;rcases D i j z f with ⟨K,y,e,_⟩|⟨_,K,y,X,e2⟩|⟨_,N,L⟩;exact (hnn K y e).elim;obtain⟨⟨c',A,C⟩,_⟩:=m.wr K y;refine⟨⟨c',by rw[<- X];exact F _ _ A,C⟩,fun p u e=>?_⟩;have:=m.wruniq p u K y (by rw[e,X]);rw[this,e2];exact f;exact⟨⟨j,L,f⟩,fun p u e=>(N p u e).elim⟩
  intro b l T;rcases m.mem b l T with R|⟨hnn,Z,x3⟩
  ·obtain⟨Y,el,fr,h2⟩:=h.mem b l R;have x8:b<w.heap.size:=by
    rcases bS b w.heap.size with h'|h';exact h';rw[ef h'] at h2;cases h2
   refine⟨fun i j z f I=>?_,el,fr,?_⟩
   ·rcases m.dom i b I with h'|⟨_,_,_,h'|⟨q,V,h'⟩⟩
    ·by_cases hnn:∀ p∈out.new,p.1≠i;obtain⟨⟨c,o,s⟩,_⟩:=O i j z f hnn;exact Y i c o s h'
     ·have hnn:∃ p∈out.new,p.1=i:=ga fun hh=>hnn fun p u e=>hh ⟨p,u,e⟩;obtain⟨p,u,e⟩:=hnn;have x0:p.2≠[]:=by
       rcases D i j z f with ⟨K,y,X,e2⟩|⟨hnn',_⟩|⟨hnn',_⟩
       ·intro h0;have z2:P p.1=some b:=by rw[e];exact I
        have:=(m.new K y).2.2 b (by rw[X];exact I) (by rw[e2];exact f);rcases this.1 with g|⟨q,V,G,W⟩;omega;obtain⟨⟨c,o,s⟩,_⟩:=m.wr q V;exact Y _ c (F _ _ o) s G
       exact (hnn' p u e).elim;exact (hnn' p u e).elim
      rcases ((m.new p u).2.2 b (by rw[e];exact I) x0).1 with g|⟨q,V,G,W⟩;omega;obtain⟨⟨c,o,s⟩,_⟩:=m.wr q V;exact Y _ c (F _ _ o) s G
    omega;obtain⟨⟨c,o,s⟩,_⟩:=m.wr q V;exact Y _ c (F _ _ o) s h'
   ·rw[m.same b x8 (fun p u e=>by
     obtain⟨⟨c,o,s⟩,_⟩:=m.wr p u
     exact Y _ c (F _ _ o) s e)]
    exact h2
  refine⟨fun i j z f I=>?_,x3⟩;have y1:∀ p∈out.new,p.1≠i:=fun p u e=>hnn p u (by rw[e];exact I);have x4:=H i b I y1;obtain⟨⟨c,o,s⟩,y8⟩:=O i j z f y1;rcases Z with Z|⟨q,V,G,W⟩;have:=(h.bound _ _ x4).2;omega;obtain⟨⟨c',A,C⟩,_⟩:=m.wr q V;have:=h.inj _ _ _ _ _ (F _ _ A) C o s G x4;exact y8 q V this W
 intro b l T x8;rcases m.mem b l T with R|⟨_,Z,_⟩;exact h.old b l R x8;rcases Z with Z|⟨q,V,G,W⟩;have:=h.below.size;omega;rcases (h.bound _ _ G).1 with h'|h';omega;exact .inl h';intro g e x hg;exact ko m.le.mem (h.glob g e x hg);exact h.tops;exact fun b l T=>m.le.mem b l (h.memle b l T)
theorem cR.skip (h:cR E.w0 n S B ρ a w) (b:Option Tmp):cR E.w0 n (fw n b .undef S) (ia lv B) ρ (a.put b Go.undef) w:=by
 have f:ia lv B=B:=by funext i;simp[ia,lv,cW]
 rw[f];refine⟨by rw[put_defers];exact h.defers,by rw[Am];exact h.size,?_,h.below,h.blks,h.inj,h.bound,h.init,h.mem,h.old,h.glob,h.tops,h.memle⟩;intro t;rw[Dx b Go.undef t h.size];cases b with
 | none=>exact h.slots t
 | some d =>simp only[fw];by_cases e:t=d/\d<n;simp only[e,and_self,eB];exact rfl;simp only[e,dQ];exact h.slots t
theorem nK {j d:Nat} (g:(ops[j]?).bind (·.dst)=some d) {b:Bool} (e:a.tmps.getD d Go.undef=.bool b):yielded ops a.tmps j=some b:=by
 unfold yielded;rw[g];simp only[Option.bind_some];rw[cE] at e;cases f:a.tmps[d]? with
 | none=>rw[f] at e;simp[Go.undef] at e
 | some y=>rw[f] at e;simp at e;subst e;rfl
theorem sf (X:aJ E.P E.sp) (h:cR E.w0 n S B ρ a w) {id:Nat} {o:Oper} {r:Rec} (e:vq E ops S B id o r) (H:∀ i,id<=i->i<id+8->ρ i=none)
  {next:ax} {Q:Exit->ax}
  (hn:∀ Z Y D,cR E.w0 n (fw n o.dst r.val S) (ia r B) D Z Y->(∀ i b,D i=some b->ρ i=some b\/(id<=i/\i<id+8))->next Z Y) :
  if Region.wanted o (yielded ops a.tmps) then o.wp E.P a w next Q\/(o.asks E.P a w/\LetsOut Q) else next (a.put o.dst Go.undef) w:=by
 have skip:r=lv->Region.wanted o (yielded ops a.tmps)=false->(if Region.wanted o (yielded ops a.tmps) then o.wp E.P a w next Q\/(o.asks E.P a w/\LetsOut Q) else next (a.put o.dst Go.undef) w):=by intro G t;subst G;simp only[t,lY,dQ];exact hn _ _ ρ (h.skip o.dst) (fun _ _ h=>.inl h)
 have N:∀ out ids,mz E S B id o=.run out ids->(∀ p∈out.pre,p)->cL out.val r.val->r.new=out.new->r.wr=out.wr->Region.wanted o (yielded ops a.tmps)=true ->
   (if Region.wanted o (yielded ops a.tmps) then o.wp E.P a w next Q\/(o.asks E.P a w/\LetsOut Q) else next (a.put o.dst Go.undef) w):=by
  intro out ids G K q x z t;simp only[t,eB];refine .inl ?_;unfold mz at G;dsimp only at G;split at G;rename_i x0 hx;simp only[StepR.run.injEq] at G;obtain⟨rfl,rfl⟩:=G;have hc:Ctx E.w0 id ρ (lO (yN o.op B (o.op.operands.toList.map (fC S))) B) w:=⟨h.below,fun i I C=>h.blks i I (nG C),fun i b C=>(h.bound i b C).2,H,fun b l s=>(h.mem b l s).2,h.glob,fun i i' I W b x z h3 h4=>h.inj i i' I W b (nG x) z (nG h3) h4,fun b l s i I C=>(h.mem b l s).1 i I (nG C)⟩;refine UP hc X hx K (h.afi _) next Q (fun v Y D hv hE=>?_);exact hn _ _ D (h.step (fun i I C=>nG C) hE (q _ _ hv) x z) (fun i b C=>by rcases hE.dom i b C with h|⟨x,z,_⟩;exact .inl h;exact .inr ⟨x,z⟩);cases G
 unfold vq qk at e;cases U:o.guard with
 | none =>
  have t:Region.wanted o (yielded ops a.tmps)=true:=by simp[Region.wanted,U]
  simp only[U] at e;rcases e with ⟨e,_⟩|⟨out,ids,e,K,q,x,z,_⟩;unfold mz at e;dsimp only at e;split at e<;>cases e;exact N out ids e K q x z t
 | some g =>
  obtain⟨j,O⟩:=g;simp only[U] at e;have t:Region.wanted o (yielded ops a.tmps)=(yielded ops a.tmps j==some O):=by simp[Region.wanted,U]
  cases R:(ops[j]?).bind (·.dst) with
  | none=>simp only[R] at e;rcases e with ⟨e,_⟩|⟨_,_,e,_⟩<;>cases e
  | some d =>
   simp only[R] at e;have f:=h.slots d;have m:∀ b:Bool,a.tmps.getD d Go.undef=.bool b->yielded ops a.tmps j=some b:=by intro b s;exact nK R s
   have u:∀ L:Region.wanted o (yielded ops a.tmps)=true,((mz E S B id o=.skip/\r=lv)\/(∃ out ids,mz E S B id o=.run out ids/\(∀ p∈out.pre,p)/\cL out.val r.val/\r.new=out.new/\r.wr=out.wr/\r.ids=ids)) ->
     (if Region.wanted o (yielded ops a.tmps) then o.wp E.P a w next Q\/(o.asks E.P a w/\LetsOut Q) else next (a.put o.dst Go.undef) w):=by
    intro L e;rcases e with ⟨e,_⟩|⟨out,ids,e,K,q,x,z,_⟩;unfold mz at e;dsimp only at e;split at e<;>cases e;exact N out ids e K q x z L
   have k:((StepR.skip=.skip/\r=lv)\/(∃ out ids,StepR.skip=.run out ids/\(∀ p∈out.pre,p)/\cL out.val r.val/\r.new=out.new/\r.wr=out.wr/\r.ids=ids))->r=lv:=by intro e;rcases e with ⟨_,e⟩|⟨_,_,e,_⟩;exact e;cases e
   split at e;rename_i _ A;rw[A] at f;have s:=m true (gD (c:=.T) rfl f);exact u (by rw[t,s];rfl) e;rename_i _ A;rw[A] at f;have s:=m true (gD (c:=.T) rfl f);exact skip (k e) (by rw[t,s];rfl);rename_i _ A;rw[A] at f;have s:=m false (gD (c:=.F) rfl f);exact skip (k e) (by rw[t,s];rfl);rename_i _ A;rw[A] at f;have s:=m false (gD (c:=.F) rfl f);exact u (by rw[t,s];rfl) e
   ·rename_i A;rw[A] at f;have V:a.tmps.getD d Go.undef=Go.undef:=f;have hy:yielded ops a.tmps j=none:=by
     unfold yielded;rw[R];simp only[Option.bind_some];rw[cE] at V;cases hq:a.tmps[d]? with
     | none=>rfl
     | some y=>rw[hq] at V;simp at V;subst V;rfl
    exact skip (k e) (by rw[t,hy];rfl)
   rcases e with ⟨e,_⟩|⟨_,_,e,_⟩<;>cases e
end
def cu (n:Nat) (e:Nat->Bool):Nat->List (Oper × Rec)->cJ->cJ
 | _,[],S=>S
 | i,(o,r)::l,S=>cu n e (i+1) l (match e i with|true=>fw n o.dst r.val S|false=>S)
def cQ (e:Nat->Bool):Nat->List (Oper × Rec)->bE->bE
 | _,[],B=>B
 | i,(_,r)::l,B=>cQ e (i+1) l (match e i with|true=>ia r B|false=>B)
def Hr (E:Env) (ops:Array Oper) (n base:Nat):Nat->List (Oper × Rec)->cJ->bE->Prop
 | _,[],_,_=>True
 | i,(o,r)::l,S,B=>vq E ops S B (base+8*i) o r/\Hr E ops n base (i+1) l (fw n o.dst r.val S) (ia r B)
section
variable {E:Env} {ops:Array Oper} {n base:Nat}
theorem l9 {e f:Nat->Bool} {t:Nat}:∀ (l:List (Oper × Rec)) (i:Nat) (S c:cJ),S t=c t ->
  (∀ j p,l[j]?=some p->p.1.dst=some t->e (i+j)=f (i+j))->cu n e i l S t=cu n f i l c t:=by
 intro l;induction l with
 | nil=>intro i S c h _;exact h
 | cons p l u =>
  intro i S c h m;obtain⟨o,r⟩:=p;simp only[cu]
  refine u (i+1) _ _ ?_ (fun j q s b=>by
   have:=m (j+1) q (by simpa using s) b
   rw[show i+1+j=i+(j+1) from by omega];exact this)
  by_cases b:o.dst=some t;have:=m 0 (o,r) rfl b;simp only[gh] at this;rw[this];cases f i;exact h;simp[fw,b,h]
  ·have k:∀ S:cJ,fw n o.dst r.val S t=S t:=by
    intro S;unfold fw;split;rename_i d g;rw[ai];rintro⟨rfl,_⟩;exact b g;rfl
   cases e i<;>cases f i<;>simp[k,h]
def gY (r:Rec) (id:Nat):Bool:=(cW r.new id).isSome||(cW r.wr id).isSome
theorem FA {r:Rec} {id:Nat} (h:gY r id=true) (B b:bE):ia r B id=ia r b id:=by unfold ia;simp only[gY,oH] at h;split;rfl;rename_i c;split;rfl;rename_i d;rw[c,d] at h;simp at h
theorem Hx {r:Rec} {id:Nat} (h:gY r id=false) (B:bE):ia r B id=B id:=by unfold ia;simp only[gY,Bk] at h;split;rename_i b;rw[b] at h;simp at h;split;rename_i c;rw[c] at h;simp at h;rfl
theorem l8 {e d:Nat->Bool} {t:Nat}:∀ (l:List (Oper × Rec)) (i:Nat) (B c:bE),B t=c t ->
  (∀ j p,l[j]?=some p->gY p.2 t=true->e (i+j)=d (i+j))->cQ e i l B t=cQ d i l c t:=by
 intro l;induction l with
 | nil=>intro i S m h _;exact h
 | cons p l k =>
  intro i B c h f;obtain⟨o,r⟩:=p;simp only[cQ]
  refine k (i+1) _ _ ?_ (fun j q g b=>by
   have:=f (j+1) q (by simpa using g) b
   rw[show i+1+j=i+(j+1) from by omega];exact this)
  by_cases b:gY r t=true;have:=f 0 (o,r) rfl b;simp only[gh] at this;rw[this];cases d i;exact h;exact FA b B c
  ·have b:gY r t=false:=by simpa using b
   cases e i<;>cases d i<;>simp[Hx b,h]
theorem TF {S b:cJ} {x:Operand} (h:∀ t,x=.tmp t->S t=b t):fC S x=fC b x:=by
 cases x with
 | tmp t=>exact h t rfl
 | _=>rfl
theorem RW {S S':cJ}:∀ (l:List Operand),(∀ t,Operand.tmp t∈l->S t=S' t)->l.map (fC S)=l.map (fC S'):=by
 intro l;induction l with
 | nil=>intro _;rfl
 | cons x l c =>intro h;simp only[eI];rw[TF (fun t b=>h t (by simp[b])),c (fun t b=>h t (by simp[b]))]
theorem vP {i:Nat} {l:List Nat} (h:eA i l=true):i∈l:=by
 induction l with
 | nil=>simp[eA] at h
 | cons j l c =>simp only[eA] at h;split at h;rename_i b;have:=beq_true b;subst this;simp;exact qq _ (c h)
theorem EN {i:Nat} {l:List Nat} (h:i∈l):eA i l=true:=by
 induction l with
 | nil=>cases h
 | cons j l c =>simp only[eA];split;rfl;rename_i b;rcases mem_cons.1 h with rfl|h;simp at b;exact c h
theorem ND {ids:List Nat} {B b:bE} (h:∀ i∈ids,B i=b i):lO ids B=lO ids b:=by
 funext i;unfold lO;cases c:eA i ids with
 | true=>exact h i (vP c)
 | false=>rfl
def F9 (S:cJ) (B:bE) (o:Oper):List Nat:=yN o.op B (o.op.operands.toList.map (fC S))
theorem Nt {B b:bE} {d:List SV} (h:∀ i∈gq B d,B i=b i):gq B d=gq b d:=by
 unfold gq at h ⊢;simp only at h ⊢;congr 1;have:∀ (l:List Nat),(∀ i∈l,B i=b i)->(l.flatMap fun i=>match B i with|some c=>c.flatMap Cell.ids|none=>[])=l.flatMap fun i=>match b i with|some c=>c.flatMap Cell.ids|none=>[]:=by
  intro l;induction l with
  | nil=>intro _;rfl
  | cons i l k=>intro e;simp only[List.flatMap_cons,e i aw,k (fun j g=>e j (by simp[g]))]
 exact this _ (fun i f=>h i (gK _ f))
theorem Lu {b:Op} {B d:bE} {c:List SV} (h:∀ i∈yN b B c,B i=d i):yN b B c=yN b d c:=by cases b<;>first|rfl|exact Nt h
theorem Nx {o:Oper} {t:Nat} (h:Operand.tmp t∈o.op.operands.toList):t∈o.looksAt ops:=by unfold Oper.looksAt;refine List.mem_append.2 (.inl ?_);exact List.mem_filterMap.2 ⟨.tmp t,h,rfl⟩
theorem NF {S S':cJ} {B c:bE} {id:Nat} {o:Oper} (e:∀ t∈o.looksAt ops,S t=S' t) (b:∀ i∈F9 S B o,B i=c i):mz E S B id o=mz E S' c id o:=by have d:=RW (S:=S) (S':=S') o.op.operands.toList (fun t f=>e t (Nx f));unfold F9 at b;unfold mz;rw[d] at b;dsimp only;rw[d,ND b,Lu b]
theorem Ee {S b:cJ} {B c:bE} {id:Nat} {o:Oper} (e:∀ t∈o.looksAt ops,S t=b t) (h:∀ i∈F9 S B o,B i=c i):qk E ops S B id o=qk E ops b c id o:=by
 unfold qk;rw[NF (E:=E) (id:=id) e h];cases l:o.guard with
 | none=>rfl
 | some g =>
  obtain⟨j,f⟩:=g;dsimp only;cases k:(ops[j]?).bind (·.dst) with
  | none=>rfl
  | some d =>
   dsimp only
   have:S d=b d:=e d (by
    unfold Oper.looksAt;refine List.mem_append.2 (.inr ?_)
    simp[l,k])
   rw[this]
theorem JM {S:cJ} {B:bE} {id:Nat} {o:Oper} {out:Out} {ids:List Nat} (h:qk E ops S B id o=.run out ids):ids=F9 S B o:=by
 have b:mz E S B id o=.run out ids->ids=F9 S B o:=by intro h;unfold mz at h;dsimp only at h;split at h;simp only[StepR.run.injEq] at h;exact h.2.symm;cases h
 unfold qk at h
 repeat' split at h
 all_goals first|exact b h|cases h
def KM (a b:List Nat):Bool:=a.all fun i => !eA i b
def IG (r:Rec):List Nat:=(r.new.map (·.1))++(r.wr.map (·.1))
def qg (ops:Array Oper) (p q:Oper × Rec):Bool :=
 !(p.1.apart ops q.1&&KM (IG p.2) q.2.ids&&KM (IG q.2) p.2.ids&&KM (IG p.2) (IG q.2))
def rO (b:List Nat) (c:List Edge):Nat :=
 match c with
 | []=>0
 | e::c=>match Region.binds .any e with
  | true=>(2^e.on) ||| (b.getD e.on 0) ||| rO b c
  | false=>rO b c
def gZ:List Oper->List Nat->List Nat
 | [],b=>b
 | o::c,b=>gZ c (b++[rO b o.after.toList])
def Dm (ops:Array Oper):Nat->List (Oper × Rec)->List (Oper × Rec)->List Nat->Bool
 | _,_,[],_=>true
 | _,_,_::_,[]=>false
 | i,b,q::l,m::ms =>
  (b.zipIdx.all fun (p,j)=>m.testBit j || !qg ops p q)&&Dm ops (i+1) (b++[q]) l ms
def n5 (ops:List Oper):Bool:=ops.zipIdx.all fun (o,i)=>o.after.toList.all fun e => !Region.binds .any e||blt e.on i
def indep (ops:Array Oper) (l:List (Oper × Rec)):Bool :=
 n5 ops.toList&&Dm ops 0 [] l (gZ ops.toList [])
theorem m7 {a b:List Nat} (h:KM a b=true):∀ i∈a,i∉b:=by intro i d c;simp only[KM,mX] at h;have:=h i d;rw[EN c] at this;cases this
theorem Ny {b:List Nat} {i:Nat}:∀ (c:List Edge),(rO b c).testBit i=true->∃ e∈c,Region.binds .any e=true/\(e.on=i\/(b.getD e.on 0).testBit i=true):=by
 intro c;induction c with
 | nil=>intro h;simp[rO] at h
 | cons e c k =>intro h;simp only[rO] at h;split at h;rename_i j;simp only[Nat.testBit_or,oH] at h;rcases h with (h|h)|h;refine⟨e,aw,j,.inl ?_⟩;simpa[Nat.testBit_two_pow] using h;exact⟨e,aw,j,.inr h⟩;obtain⟨d,f,g⟩:=k h;exact⟨d,by simp[f],g⟩;obtain⟨d,f,g⟩:=k h;exact⟨d,by simp[f],g⟩
theorem zX:∀ (c:List Oper) (b:List Nat),(gZ c b).take b.length=b/\(gZ c b).length=b.length+c.length /\
  ∀ j o,c[j]?=some o->(gZ c b).getD (b.length+j) 0=rO ((gZ c b).take (b.length+j)) o.after.toList:=by
 intro c;induction c with
 | nil=>intro b;exact⟨by simp[gZ],by simp[gZ],fun j o h=>by simp at h⟩
 | cons o c k =>
  intro b;obtain⟨d,f,g⟩:=k (b++[rO b o.after.toList]);simp only[a7,bN,eH,bO] at d f g;simp only[gZ];refine⟨?_,by rw[f];simp;omega,?_⟩;have:=congrArg (take b.length) d;simpa[lB] using this
  ·intro j m e;cases j with
   | zero =>
    simp at e;subst e;have i:(gZ c (b++[rO b o.after.toList])).take b.length=b:=by have:=congrArg (take b.length) d;simpa[lB] using this
    rw[gh,i];have:=congrArg (fun l:List Nat=>l.getD b.length 0) d;simpa[fE] using this
   | succ j =>have:=g j m (by simpa using e);rw[show b.length+1+j=b.length+(j+1) from by omega] at this;exact this
theorem Cw:∀ (l:List (Oper × Rec)) (i:Nat) (b:List (Oper × Rec)) (ms:List Nat),Dm ops i b l ms=true->l.length<=ms.length ->
  ∀ j p k q,(b++l)[j]?=some p->l[k]?=some q->j<b.length+k->(ms.getD k 0).testBit j=true\/qg ops p q=false:=by
 intro l;induction l with
 | nil=>intro i b ms _ _ j p k q _ u;simp at u
 | cons x l y =>
  intro i b ms h c j p k q d f t;cases ms with
  | nil=>simp at c
  | cons m ms =>
   simp only[Dm,aX] at h;obtain⟨g,s⟩:=h;cases k with
   | zero =>
    simp at f;subst f;have e:b[j]?=some p:=by rw[oS aa] at d;exact d
    simp only[mX] at g;have:=g (p,j) (List.mem_zipIdx_iff_getElem?.2 e);simpa using this
   | succ k =>have:=y (i+1) (b++[x]) ms s (by simpa using c) j p k q (by simpa using d) (by simpa using f) (by simp;omega);simpa using this
theorem jr {b:List Oper} (h:n5 b=true) {i:Nat} {o:Oper} (f:b[i]?=some o):∀ e∈o.after.toList,Region.binds .any e=true->e.on<i:=by intro e d c;simp only[n5,mX] at h;have:=h (o,i) (List.mem_zipIdx_iff_getElem?.2 f) e d;simp only[c,oM,Bool.false_or] at this;simpa[lG] using this
def A4 (ops:Array Oper) (e:Nat->Bool):Prop:=∀ j o,ops[j]?=some o->e j=true->∀ d∈o.after.toList,Region.binds .any d=true->e d.on=true
theorem n3 {e:Nat->Bool} (u:n5 ops.toList=true) (t:A4 ops e):∀ (N j:Nat) (o:Oper),j<N->ops[j]?=some o->(∀ d∈o.after.toList,Region.binds .any d=true->e d.on=true) ->
  ∀ i,((gZ ops.toList []).getD j 0).testBit i=true->e i=true:=by
 intro N;induction N with
 | zero=>intro j o h;omega
 | succ N x =>
  intro j o z k m i q;obtain⟨_,y,s⟩:=zX ops.toList [];have:=s j o (by simpa using k);simp only[eH,bO] at this;rw[this] at q;obtain⟨d,b,c,hd3⟩:=Ny _ q;have g:=jr u (by simpa using k:ops.toList[j]?=some o) d b c;rcases hd3 with rfl|hd3;exact m d b c
  ·have l:d.on<ops.size:=by
    have:j<ops.size:=by rcases bS j ops.size with h|h;exact h;simp[ef h] at k
    omega
   have f:ops[d.on]?=some ops[d.on]:=by simp[l]
   refine x d.on ops[d.on] aa f (t _ _ f (m d b c)) i ?_;have:((gZ ops.toList []).take j).getD d.on 0=(gZ ops.toList []).getD d.on 0:=by simp[g]
   rw[<- this];exact hd3
end
section
variable {E:Env} {ops:Array Oper} {n base:Nat} {Q:Exit->ax}
def rA (n:Nat) (l:List (Oper × Rec)) (S:cJ):cJ:=cu n (fun _=>true) 0 l S
def rz (l:List (Oper × Rec)) (B:bE):bE:=cQ (fun _=>true) 0 l B
theorem xZ (n:Nat):∀ (l:List (Oper × Rec)) (i j:Nat) (S:cJ),cu n (fun _=>true) i l S=cu n (fun _=>true) j l S:=by
 intro l;induction l with
 | nil=>intro i j S;rfl
 | cons p l b=>intro i j S;obtain⟨o,r⟩:=p;simp only[cu];exact b _ _ _
theorem xY:∀ (l:List (Oper × Rec)) (i j:Nat) (B:bE),cQ (fun _=>true) i l B=cQ (fun _=>true) j l B:=by
 intro l;induction l with
 | nil=>intro i j S;rfl
 | cons p l b=>intro i j S;obtain⟨o,r⟩:=p;simp only[cQ];exact b _ _ _
theorem Uh (A:aJ E.P E.sp):∀ (l:List (Oper × Rec)) (i:Nat) (S:cJ) (B:bE) (ρ:aC) (a:Act) (w:World),Hr E ops n base i l S B ->
  (∀ k p,l[k]?=some p->ops[i+k]?=some p.1)->cR E.w0 n S B ρ a w->(∀ id b,ρ id=some b->id<base+8*i) ->
  (∀ m t d,cR E.w0 n (rA n l S) (rz l B) d m t->(∀ id b,d id=some b->id<base+8*(i+l.length))->Q .normal m t) ->
  wpOps E.P ops Q (List.range' i l.length) a w:=by
 intro l;induction l with
 | nil=>intro i S B ρ a w _ _ y s x;exact x a w ρ y (by simpa using s)
 | cons p l L =>
  intro i S B ρ a w C e y s x;obtain⟨o,r⟩:=p;obtain⟨K,C⟩:=C;have F:=e 0 (o,r) rfl;simp only[gh] at F;simp only[bN,tO];unfold wpOps;simp only[F];refine sf A y K (fun j O _=>?_) (fun m t d z f=>?_)
  ·cases g:ρ j with
   | none=>rfl
   | some b=>have:=s j b g;omega
  refine L (i+1) _ _ d m t C (fun k q I=>?_) z (fun j b g=>?_) (fun G N D H u=>?_);have:=e (k+1) q (by simpa using I);rw[show i+1+k=i+(k+1) from by omega];exact this;rcases f j b g with h|h;have:=s j b h;omega;omega;refine x G N D ?_ (fun j b g=>?_);unfold rA rz at *;simp only[cu,cQ];rw[xZ n l (0+1) 0,xY l (0+1) 0];exact H;have:=u j b g;simp only[bN];omega
theorem Kt:∀ (l:List (Oper × Rec)) (i k:Nat) (S:cJ) (B:bE) (o:Oper) (r:Rec),Hr E ops n base i l S B->l[k]?=some (o,r) ->
  vq E ops (cu n (fun j=>decide (j<i+k)) i l S) (cQ (fun j=>decide (j<i+k)) i l B) (base+8*(i+k)) o r:=by
 intro l;induction l with
 | nil=>intro i k S B o r _ h;simp at h
 | cons p l u =>
  intro i k S B o r e c;obtain⟨x,y⟩:=p;obtain⟨t,e⟩:=e;have b:∀ (m:Nat) (l:List (Oper × Rec)) (i:Nat),m<=i->∀ S B,cu n (fun j=>decide (j<m)) i l S=S/\cQ (fun j=>decide (j<m)) i l B=B:=by
   intro m l;induction l with
   | nil=>intro i _ S B;exact⟨rfl,rfl⟩
   | cons q l f =>
    intro i z S B;obtain⟨A,C⟩:=q;have:decide (i<m)=false:=by simp;omega
    simp only[cu,cQ,this];exact f (i+1) aa S B
  cases k with
  | zero =>simp at c;obtain⟨rfl,rfl⟩:=c;obtain⟨g,s⟩:=b (i+0) ((x,y)::l) i aa S B;rw[g,s];exact t
  | succ k =>have:=u (i+1) k _ _ o r e (by simpa using c);rw[show i+1+k=i+(k+1) from by omega] at this;simp only[cu,cQ];have d:decide (i<i+(k+1))=true:=aw;rw[d];exact this
theorem wo {S c:cJ} {B k:bE} {id:Nat} {o:Oper} (l:∀ t∈o.looksAt ops,S t=c t) (h:qk E ops S B id o=.skip):qk E ops c k id o=.skip:=by
 have b:∀ S B,mz E S B id o≠.skip:=by intro S B h;unfold mz at h;dsimp only at h;split at h<;>cases h
 unfold qk at h ⊢;cases f:o.guard with
 | none=>simp only[f] at h;exact absurd h (b _ _)
 | some g =>
  obtain⟨j,i⟩:=g;simp only[f] at h;dsimp only;cases e:(ops[j]?).bind (·.dst) with
  | none=>simp only[e] at h;cases h
  | some d =>
   simp only[e] at h;dsimp only
   have:S d=c d:=l d (by
    unfold Oper.looksAt;refine List.mem_append.2 (.inr ?_)
    simp[f,e])
   rw[<- this];split at h;exact absurd h (b _ _);rfl;rfl;exact absurd h (b _ _);rfl;cases h
theorem qW (n:Nat) (e:Nat->Bool) {t:Nat} (b:n<=t):∀ (l:List (Oper × Rec)) (i:Nat) (S:cJ),cu n e i l S t=S t:=by
 intro l;induction l with
 | nil=>intro i S;rfl
 | cons p l c =>intro i S;obtain⟨o,r⟩:=p;simp only[cu];rw[c];cases e i;rfl;show fw n o.dst r.val S t=S t;unfold fw;split;rename_i d _;rw[ai (by rintro⟨rfl,h⟩;exact absurd h (Nat.not_lt.2 b))];rfl
theorem F3 {e:Nat->Bool} {t:Nat} {o:Oper} {r:Rec} (x:o.dst=some t) (z:t<n):∀ (l:List (Oper × Rec)) (i k:Nat) (S:cJ),l[k]?=some (o,r)->e (i+k)=true ->
  (∀ j p,l[j]?=some p->k<j->p.1.dst=some t->e (i+j)=false)->cu n e i l S t=r.val:=by
 intro l;induction l with
 | nil=>intro i k S h;simp at h
 | cons p l A =>
  intro i k S d c m;obtain⟨s,u⟩:=p;cases k with
  | zero =>
   simp at d;obtain⟨rfl,rfl⟩:=d;simp only[gh] at c;simp only[cu,c];have:cu n e (i+1) l (fw n s.dst u.val S) t=cu n (fun _=>false) (i+1) l (fw n s.dst u.val S) t :=
    l9 l (i+1) _ _ rfl (fun j q f b=>by
     have:=m (j+1) q (by simpa using f) aa b
     rw[show i+1+j=i+(j+1) from by omega];exact this)
   rw[this];have none:∀ (l:List (Oper × Rec)) (i:Nat) (S:cJ),cu n (fun _=>false) i l S=S:=by
    intro l;induction l with
    | nil=>intro i S;rfl
    | cons q l g=>intro i S;obtain⟨C,D⟩:=q;simp only[cu];exact g _ _
   rw[none];simp[fw,x,z]
  | succ k =>simp only[cu];refine A (i+1) k _ (by simpa using d) (by rw[show i+1+k=i+(k+1) from by omega];exact c) (fun j q f y b=>?_);have:=m (j+1) q (by simpa using f) aa b;rw[show i+1+j=i+(j+1) from by omega];exact this
theorem FZ {e:Nat->Bool} {t:Nat} {o:Oper} {r:Rec} (x:gY r t=true) (u:bE):∀ (l:List (Oper × Rec)) (i k:Nat) (B:bE),l[k]?=some (o,r)->e (i+k)=true ->
  (∀ j p,l[j]?=some p->k<j->gY p.2 t=true->e (i+j)=false)->cQ e i l B t=ia r u t:=by
 intro l;induction l with
 | nil=>intro i k S h;simp at h
 | cons p l z =>
  intro i k S d c m;obtain⟨A,s⟩:=p;cases k with
  | zero =>
   simp at d;obtain⟨rfl,rfl⟩:=d;simp only[gh] at c;simp only[cQ,c];have:cQ e (i+1) l (ia s S) t=cQ (fun _=>false) (i+1) l (ia s S) t :=
    l8 l (i+1) _ _ rfl (fun j q f b=>by
     have:=m (j+1) q (by simpa using f) aa b
     rw[show i+1+j=i+(j+1) from by omega];exact this)
   rw[this];have none:∀ (l:List (Oper × Rec)) (i:Nat) (S:bE),cQ (fun _=>false) i l S=S:=by
    intro l;induction l with
    | nil=>intro i S;rfl
    | cons q l g=>intro i S;obtain⟨C,D⟩:=q;simp only[cQ];exact g _ _
   rw[none];exact FA x _ _
  | succ k =>simp only[cQ];refine z (i+1) k _ (by simpa using d) (by rw[show i+1+k=i+(k+1) from by omega];exact c) (fun j q f y b=>?_);have:=m (j+1) q (by simpa using f) aa b;rw[show i+1+j=i+(j+1) from by omega];exact this
theorem oc {r:Rec} {t:Nat} (h:gY r t=true):t∈IG r:=by simp only[gY,oH] at h;unfold IG;refine List.mem_append.2 ?_;rcases h with h|h;obtain⟨c,b⟩:=Option.isSome_iff_exists.1 h;exact .inl (mem_map.2 ⟨_,gV b,rfl⟩);obtain⟨c,b⟩:=Option.isSome_iff_exists.1 h;exact .inr (mem_map.2 ⟨_,gV b,rfl⟩)
def A1 (l:List Bool):Nat:=l.countP (fun b => !b)
theorem II:∀ (l:List Bool) (i:Nat),l[i]?=some false->A1 (l.set i true)+1=A1 l:=by
 intro l;induction l with
 | nil=>intro i h;simp at h
 | cons b l c =>
  intro i h;cases i with
  | zero=>simp at h;subst h;simp[A1]
  | succ i =>have:=c i (by simpa using h);unfold A1 at *;simp only[Bt,List.countP_cons];omega
theorem Fl {l:List Bool} (h:A1 l=0):∀ i,l.getD i true=true:=by
 intro i;unfold A1 at h;rw[List.countP_eq_zero] at h;cases c:l[i]? with
 | none=>simp[c]
 | some b =>have:=h b (dP c);simp[c];simpa using this
theorem Nn (u0:aJ E.P E.sp) {l:List (Oper × Rec)} {S:cJ} {B:bE} (hl:l.map (·.1)=ops.toList) (ht:Hr E ops n base 0 l S B) (y7:indep ops l=true)
  (hq:∀ a w ρ,cR E.w0 n (rA n l S) (rz l B) ρ a w->(∀ id b,ρ id=some b->id<base+8*ops.size)->Q .normal a w) :
  ∀ (C:Nat) (f:Array Bool) (a:Act) (w:World) (ρ:aC),f.size=ops.size->A1 f.toList<=C->A4 ops (fun j=>f.getD j false) ->
   cR E.w0 n (cu n (fun j=>f.getD j false) 0 l S) (cQ (fun j=>f.getD j false) 0 l B) ρ a w ->
   (∀ id b,ρ id=some b->id<base\/∃ j,f.getD j false=true/\base+8*j<=id/\id<base+8*j+8) ->
   wpAny E.P .any ops Q C f a w:=by
 simp only[indep,aX] at y7;obtain⟨z,x3⟩:=y7;have x6:l.length=ops.size:=by have:=congrArg length hl;simpa using this
 have T:∀ (j:Nat) (p:Oper × Rec),l[j]?=some p->ops[j]?=some p.1:=by intro j p O;have:=congrArg (fun m:List Oper=>m[j]?) hl;simp only[dy,O,c6] at this;simpa using this.symm
 have y0:l.length<=(gZ ops.toList []).length:=by rw[(zX ops.toList []).2.1];simp[x6]
 have A:∀ (j:Nat) (p:Oper × Rec) (k:Nat) (q:Oper × Rec),l[j]?=some p->l[k]?=some q->j<k->((gZ ops.toList []).getD k 0).testBit j=true\/qg ops p q=false:=by intro j p k q s hk x1;exact Cw l 0 [] _ x3 y0 j p k q (by simpa using s) hk (by simpa using x1)
 -- u3 f
 have I:∀ (f:Array Bool) (a:Act) (w:World) (ρ:aC),f.size=ops.size->(∀ i,i<ops.size->f.getD i false=true) ->
   cR E.w0 n (cu n (fun j=>f.getD j false) 0 l S) (cQ (fun j=>f.getD j false) 0 l B) ρ a w ->
   (∀ id b,ρ id=some b->id<base\/∃ j,f.getD j false=true/\base+8*j<=id/\id<base+8*j+8)->Q .normal a w:=by
  intro f a w ρ x D hr hd;refine hq a w ρ ?_ (fun id b z8=>?_)
  ·have e1:cu n (fun j=>f.getD j false) 0 l S=rA n l S:=by
    funext t;refine l9 l 0 S S rfl (fun j p s _=>?_);simp only[bO];refine D j ?_;rcases bS j l.length with h|h;omega;simp[dN h] at s
   have e2:cQ (fun j=>f.getD j false) 0 l B=rz l B:=by funext t;refine l8 l 0 B B rfl (fun j p s _=>?_);simp only[bO];refine D j ?_;rcases bS j l.length with h|h;omega;simp[dN h] at s
   rw[<- e1,<- e2];exact hr
  ·rcases hd id b z8 with h|⟨j,W,K,X⟩;omega
   ·have:j<ops.size:=by
     rcases bS j ops.size with h|h;exact h;rw[cE,ef aa] at W;cases W
    omega
 have re:∀ f:Array Bool,f.size=ops.size->Region.ready .any ops f=[]->∀ i,i<ops.size->f.getD i false=true:=by
  intro f x hr;have:∀ N i,i<N->i<ops.size->f.getD i false=true:=by
   intro N;induction N with
   | zero=>intro i h;omega
   | succ N u1 =>
    intro i L F;cases hb:f.getD i false with
    | true=>rfl
    | false =>
     exfalso;have x7:i∈Region.ready .any ops f:=by
      unfold Region.ready;refine List.mem_filter.2 ⟨List.mem_range.2 F,?_⟩;have x2:ops[i]?=some ops[i]:=by simp[F]
      have z6:f.getD i true=false:=by
       rw[cE] at hb ⊢;have:f[i]?=some f[i]:=by simp[x,F]
       rw[this] at hb ⊢;simpa using hb
      rw[z6,x2];simp only[oJ,c6,cx,h8];rw[nq];intro e he;cases z4:Region.binds .any e with
      | false=>rfl
      | true =>have x1:=jr z (by simp[F]:ops.toList[i]?=some ops[i]) e (by simpa using he) z4;simp[u1 e.on aa aa]
     rw[hr] at x7;cases x7
  exact fun i L=>this (i+1) i aa L
 intro C;induction C with
 | zero =>
  intro f a w ρ x hf hc hr hd;have D:∀ i,i<ops.size->f.getD i false=true:=by
   intro i L;have:=Fl (Nat.le_zero.1 hf) i;rw[cE];have K:f[i]?=some f[i]:=by simp[x,L]
   rw[K];have X:f.toList[i]?=some f[i]:=by simp[x,L]
   rw[a2,X] at this;simpa using this
  refine⟨?_,I f a w ρ x D hr hd⟩;unfold Region.ready;rw[List.filter_eq_nil_iff];intro i L;have L:=List.mem_range.1 L;have:=D i L;rw[cE] at this;have K:f[i]?=some f[i]:=by simp[x,L]
  rw[K] at this;rw[cE,K];simp at this ⊢;simp[this]
 | succ C ih =>
  intro f a w ρ x hf hc hr hd;refine⟨fun h0=>I f a w ρ x (re f x h0) hr hd,fun i L=>?_⟩;obtain⟨z7,y4⟩:=List.mem_filter.1 L;have F:=List.mem_range.1 z7;have x2:ops[i]?=some ops[i]:=by simp[F]
  have x9:f[i]?=some f[i]:=by simp[x,F]
  simp only[aX,oE,x2,c6,cx] at y4;obtain⟨y5,y6⟩:=y4;have y8:f[i]=false:=by rw[cE,x9] at y5;simpa using y5
  have x0:f.getD i false=false:=by rw[cE,x9];simpa using y8
  obtain⟨⟨o,r⟩,O⟩:∃ p,l[i]?=some p:=⟨l[i],by simp[x6,F]⟩;have U:=T i _ O;have eo:ops[i]=o:=by rw[x2] at U;simpa using U
  have R:∀ d∈o.after.toList,Region.binds .any d=true->f.getD d.on false=true:=by intro d Y Z;rw[nq] at y6;have:=y6 d (by rw[eo];simpa using Y);simpa[Z] using this
  have early:∀ k,((gZ ops.toList []).getD i 0).testBit k=true->f.getD k false=true:=n3 z hc (i+1) i o aa U R;have x8:∀ j oj,ops[j]?=some oj->((gZ ops.toList []).getD j 0).testBit i=true->f.getD j false=false:=by
   intro j oj s hb;cases H:f.getD j false with
   | false=>rfl
   | true =>have:=n3 z hc (j+1) j oj aa s (hc j oj s H) i hb;rw[x0] at this;cases this
  -- y2 is not z3 from i is z2 with it
  have V:∀ (t j:Nat) (p:Oper × Rec),l[j]?=some p->p.1.dst=some t->(t∈o.looksAt ops\/o.dst=some t)->(decide (j<i)=f.getD j false\/j=i):=by intro t j p s g hto;rcases wO j i with h|h|h;left;rcases A j p i (o,r) s O h with hb|hb;rw[early j hb];simpa using h;exfalso;simp only[qg,oW,aX] at hb;obtain⟨s1,s2,s3⟩:=Oper.apart_spec hb.1.1.1;rcases hto with hto|hto;exact s1 t g hto;exact s2 t g hto;right;exact h;left;rcases A i (o,r) j p O s h with hb|hb;rw[x8 j p.1 (T j p s) hb];simp;omega;exfalso;simp only[qg,oW,aX] at hb;obtain⟨s1,s2,s3⟩:=Oper.apart_spec hb.1.1.1;rcases hto with hto|hto;exact s3 t g hto;exact s2 t hto g
  have x4:∀ (t j:Nat) (p:Oper × Rec),l[j]?=some p->gY p.2 t=true->(t∈r.ids\/gY r t=true)->(decide (j<i)=f.getD j false\/j=i):=by intro t j p s g hto;have g:=oc g;rcases wO j i with h|h|h;left;rcases A j p i (o,r) s O h with hb|hb;rw[early j hb];simpa using h;exfalso;simp only[qg,oW,aX] at hb;obtain⟨⟨⟨_,b1⟩,b2⟩,b3⟩:=hb;rcases hto with hto|hto;exact m7 b1 t g hto;exact m7 b3 t g (oc hto);right;exact h;left;rcases A i (o,r) j p O s h with hb|hb;rw[x8 j p.1 (T j p s) hb];simp;omega;exfalso;simp only[qg,oW,aX] at hb;obtain⟨⟨⟨_,b1⟩,b2⟩,b3⟩:=hb;rcases hto with hto|hto;exact m7 b2 t g hto;exact m7 b3 t (oc hto) g
  have y9:=Kt l 0 i S B o r ht O;simp only[bO] at y9;have x5:∀ t∈o.looksAt ops,cu n (fun j=>decide (j<i)) 0 l S t=cu n (fun j=>f.getD j false) 0 l S t:=by intro t hto;refine l9 l 0 S S rfl (fun j p s g=>?_);simp only[bO];rcases V t j p s g (.inl hto) with h|h;exact h;subst h;rw[x0];simp
  have z0:vq E ops (cu n (fun j=>f.getD j false) 0 l S) (cQ (fun j=>f.getD j false) 0 l B) (base+8*i) o r:=by rcases y9 with ⟨W,K⟩|⟨out,ids,W,K,X,h4,h5,h6⟩;exact .inl ⟨wo x5 W,K⟩;refine .inr ⟨out,ids,?_,K,X,h4,h5,h6⟩;rw[<- Ee x5 ?_];exact W;intro t z1;rw[<- JM W,<- h6] at z1;refine l8 l 0 B B rfl (fun j p s g=>?_);simp only[bO];rcases x4 t j p s g (.inl z1) with h|h;exact h;subst h;rw[x0];simp
  have u:∀ j,(f.setIfInBounds i true).getD j false=if j=i then true else f.getD j false:=by intro j;rw[cE,cE];by_cases h:j=i;subst h;rw[sz aa];simp;rw[vr (fun e=>h e.symm)];simp[h]
  unfold wpOp;simp only[U];refine sf u0 hr z0 (fun k W K=>?_) (fun a' w' u2 z9 y3=>?_)
  ·cases hk:ρ k with
   | none=>rfl
   | some b =>
    exfalso;rcases hd k b hk with h|⟨j,X,h4,h5⟩;omega
    ·have:j=i:=by omega
     subst this;rw[x0] at X;cases X
  ·have e1:cu n (fun j=>(f.setIfInBounds i true).getD j false) 0 l S=fw n o.dst r.val (cu n (fun j=>f.getD j false) 0 l S):=by
    funext t;by_cases y1:t<n
    ·by_cases y:o.dst=some t
     ·rw[F3 (o:=o) (r:=r) y y1 l 0 i S O (by simp only[bO];rw[u];simp) (fun j p s x1 g=>by
       simp only[bO];rw[u,ai aa];rcases V t j p s g (.inr y) with h|h;rw[<- h];simp;omega
       ·omega)]
      simp[fw,y,y1]
     ·have:fw n o.dst r.val (cu n (fun j=>f.getD j false) 0 l S) t=cu n (fun j=>f.getD j false) 0 l S t:=by
       unfold fw;split;rename_i d z5;rw[ai];rintro⟨rfl,_⟩;exact y z5;rfl
      rw[this];refine l9 l 0 S S rfl (fun j p s g=>?_);simp only[bO];rw[u];by_cases G:j=i;subst G;rw[O] at s;simp at s;subst s;exact absurd g y;simp[G]
    rw[qW n _ aa];unfold fw;split;rw[ai (by rintro⟨rfl,h⟩;exact y1 h),qW n _ aa];rw[qW n _ aa]
   have e2:cQ (fun j=>(f.setIfInBounds i true).getD j false) 0 l B=ia r (cQ (fun j=>f.getD j false) 0 l B):=by
    funext t;cases y:gY r t with
    | true =>
     exact FZ (o:=o) (r:=r) y _ l 0 i B O (by simp only[bO];rw[u];simp) (fun j p s x1 g=>by
       simp only[bO];rw[u,ai aa];rcases x4 t j p s g (.inr y) with h|h;rw[<- h];simp;omega
       ·omega)
    | false =>rw[Hx y];refine l8 l 0 B B rfl (fun j p s g=>?_);simp only[bO];rw[u];by_cases G:j=i;subst G;rw[O] at s;simp at s;subst s;rw[y] at g;cases g;simp[G]
   refine ih (f.setIfInBounds i true) a' w' u2 (by simpa using x) ?_ ?_ (by rw[e1,e2];exact z9) ?_;have:=II f.toList i (by simpa[y8] using x9);simp only[Bc];omega
   ·intro j oj s H d Y Z;have H:(f.setIfInBounds i true).getD j false=true:=H;show (f.setIfInBounds i true).getD d.on false=true;rw[u] at H ⊢;by_cases G:j=i
    ·subst G;have:oj=o:=by rw[U] at s;simpa using s.symm
     subst this;have:=R d Y Z;simp[this]
    simp only[G,dQ] at H;have:=hc j oj s H d Y Z;simp[this]
   intro k b hk;rcases y3 k b hk with h|⟨W,K⟩;rcases hd k b h with h|⟨j,X,h4⟩;exact .inl h;exact .inr ⟨j,by rw[u];simp[X],h4⟩;exact .inr ⟨i,by rw[u];simp,W,K⟩
