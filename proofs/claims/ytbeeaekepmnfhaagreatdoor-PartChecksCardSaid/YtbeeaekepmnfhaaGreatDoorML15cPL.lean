import Derived.Test.YtbeeaekepmnfhaaGreatDoorProg
import Derived.Test.YtbeeaekepmnfhaaGreatDoorML15cPK
set_option maxRecDepth 100000
namespace Go.Proofs.YtbeeaekepmnfhaaGreatDoor
open Go Go.Eng Go.RowKit Cr
theorem mixed:Tryz.prog.follows .mixedOrders=true:=by kernel_rfl
theorem wrap_u64 {a:Int} (h0:0<=a) (h1:a<18446744073709551616):IntKind.u64.wrap a=a:=by
 simp only[IntKind.wrap,IntKind.signed,IntKind.bits]
 simp only[Bool.false_and]
 exact Int.emod_eq_of_lt h0 (by simpa using h1)
theorem wrap_u64_mod (a:Int):IntKind.u64.wrap a=a%18446744073709551616:=by
 simp[IntKind.wrap,IntKind.signed,IntKind.bits]
theorem wrap_i64 {a:Int} (h0 : -9223372036854775808<=a) (h1:a<9223372036854775808):IntKind.i64.wrap a=a:=by
 have e:IntKind.i64.wrap a=if (9223372036854775808:Int)<=a%18446744073709551616 then a%18446744073709551616-18446744073709551616 else a%18446744073709551616:=by
  simp[IntKind.wrap,IntKind.signed,IntKind.bits]
 rw[e]
 split<;>omega
theorem toNat_ofInt64 (n:Nat) (h:n<18446744073709551616):(BitVec.ofInt 64 (n:Int)).toNat=n:=by
 rw[show BitVec.ofInt 64 (n:Int)=BitVec.ofNat 64 n from by simp,BitVec.toNat_ofNat,Nat.mod_eq_of_lt (by omega)]
theorem and_u64 (n m:Nat) (hn:n<18446744073709551616) (hm:m<18446744073709551616):bitOp .and .u64 n m=((n &&& m:Nat):Int):=by
 show IntKind.u64.wrap ((BitVec.ofInt 64 n &&& BitVec.ofInt 64 m:BitVec 64).toNat:Int)=_
 rw[BitVec.toNat_and,toNat_ofInt64 n hn,toNat_ofInt64 m hm,wrap_u64 (by omega)]
 have:=Nat.and_le_left (n:=n) (m:=m)
 omega
theorem and_mask {a:Int} (h0:0<=a) (h1:a<18446744073709551616):bitOp .and .u64 a 4294967295=a%4294967296:=by
 obtain⟨n,rfl⟩:=Int.eq_ofNat_of_zero_le h0
 have:=and_u64 n 4294967295 (by omega) (by omega)
 rw[show ((4294967295:Nat):Int)=4294967295 from rfl] at this
 rw[this]
 have h:=Nat.and_two_pow_sub_one_eq_mod n 32
 rw[show 2^32-1=4294967295 from rfl] at h
 rw[h]
 omega
theorem mul_split (a1 a0 b1 b0:Int):(a1*4294967296+a0)*(b1*4294967296+b0)=a1*b1*18446744073709551616+(a1*b0)*4294967296+(a0*b1)*4294967296+a0*b0:=by
 grind
theorem mul_bd {x y m n:Int} (hx0:0<=x) (hx:x<=m) (hy0:0<=y) (hy:y<=n):0<=x*y/\x*y<=m*n:=by
 refine⟨Int.mul_nonneg hx0 hy0,Int.mul_le_mul hx hy hy0 (by omega)⟩
def hi64 (a b:Int):Int :=
 let s:=fun x:Int=>Int.fdiv x (2^min (Int.toNat 32) IntKind.u64.bits)
 let m:=fun x:Int=>bitOp .and .u64 x 4294967295
 let W:=IntKind.u64.wrap
 let t:=W (W (s a*m b)+s (W (m a*m b)))
 W (W (W (s a*s b)+s t)+s (W (m t+W (m a*s b))))
theorem hi64_eq {a b:Int} (ha0:0<=a) (ha:a<18446744073709551616) (hb0:0<=b) (hb:b<18446744073709551616):hi64 a b=a*b/18446744073709551616:=by
 have hs:∀ x:Int,Int.fdiv x (2^min (Int.toNat 32) IntKind.u64.bits)=x/4294967296:=by
  intro x
  rw[show (2:Int)^min (Int.toNat 32) IntKind.u64.bits=4294967296 from by decide]
  exact Int.fdiv_eq_ediv_of_nonneg x (by decide)
 unfold hi64
 simp only[hs,and_mask ha0 ha,and_mask hb0 hb]
 have ea:a=(a/4294967296)*4294967296+a%4294967296:=by omega
 have eb:b=(b/4294967296)*4294967296+b%4294967296:=by omega
 have key:=mul_split (a/4294967296) (a%4294967296) (b/4294967296) (b%4294967296)
 rw[<- ea,<- eb] at key
 have d1:=mul_bd (x:=a/4294967296) (y:=b/4294967296) (m:=4294967295) (n:=4294967295) (by omega) (by omega) (by omega) (by omega)
 have d2:=mul_bd (x:=a/4294967296) (y:=b%4294967296) (m:=4294967295) (n:=4294967295) (by omega) (by omega) (by omega) (by omega)
 have d3:=mul_bd (x:=a%4294967296) (y:=b/4294967296) (m:=4294967295) (n:=4294967295) (by omega) (by omega) (by omega) (by omega)
 have d4:=mul_bd (x:=a%4294967296) (y:=b%4294967296) (m:=4294967295) (n:=4294967295) (by omega) (by omega) (by omega) (by omega)
 generalize a*b=ab at *
 generalize (a/4294967296)*(b/4294967296)=p11 at *
 generalize (a/4294967296)*(b%4294967296)=p10 at *
 generalize (a%4294967296)*(b/4294967296)=p01 at *
 generalize (a%4294967296)*(b%4294967296)=p00 at *
 rw[wrap_u64 (a:=p00) (by omega) (by omega),wrap_u64 (a:=p10) (by omega) (by omega),wrap_u64 (a:=p01) (by omega) (by omega),wrap_u64 (a:=p11) (by omega) (by omega)]
 rw[wrap_u64 (a:=p10+p00/4294967296) (by omega) (by omega)]
 rw[and_mask (a:=p10+p00/4294967296) (by omega) (by omega)]
 rw[wrap_u64 (a:=(p10+p00/4294967296)%4294967296+p01) (by omega) (by omega)]
 rw[wrap_u64 (a:=p11+(p10+p00/4294967296)/4294967296) (by omega) (by omega)]
 rw[wrap_u64 (by omega) (by omega)]
 omega
theorem ent_mul64:enters Tryz.prog 125 Tryz.f125:=ek
abbrev preMul64:HL [.int .u64,.int .u64]->Prop:=fun (a,b,_)=>U64 a/\U64 b
abbrev outMul64:HL [.int .u64,.int .u64]->HO [.val (.int .u64),.val (.int .u64)]:=fun (a,b,_)=>((a:Int)*b/18446744073709551616,(a:Int)*b%18446744073709551616,())
theorem fn_mul64:FnOk Tryz.prog 125 [.int .u64,.int .u64] [.val (.int .u64),.val (.int .u64)] noG preMul64 outMul64:=by
 refine fn_of_vc snl mixed ent_mul64 (by decide) (by decide) ?_
 rintro w M ⟨a,b,⟨⟩⟩ _ ⟨⟨ha0,ha⟩,hb0,hb⟩
 refine vcx (X:=((0:Int)<=32/\(0:Int)<=32/\(0:Int)<=32/\(0:Int)<=32/\(0:Int)<=32/\(((hi64 a b,IntKind.u64.wrap (a*b),()):Int × Int × Unit)=outMul64 (a,b,())))) (by kernel_rfl) ?_
 refine⟨by decide,by decide,by decide,by decide,by decide,?_⟩
 rw[hi64_eq ha0 ha hb0 hb,wrap_u64_mod]
abbrev preCarry:HL [.int .u64,.int .u64,.int .u64]->Prop:=fun (a,b,c,_)=>U64 a/\U64 b/\((c:Int)=0\/(c:Int)=1)
abbrev outAdd64:HL [.int .u64,.int .u64,.int .u64]->HO [.val (.int .u64),.val (.int .u64)]:=fun (a,b,c,_)=>(((a:Int)+b+c)%18446744073709551616,((a:Int)+b+c)/18446744073709551616,())
abbrev outSub64:HL [.int .u64,.int .u64,.int .u64]->HO [.val (.int .u64),.val (.int .u64)]:=fun (a,b,c,_)=>(((a:Int)-b-c)%18446744073709551616,(if (a:Int)<b+c then (1:Int) else 0),())
theorem run_add64 (a b:Int) (w:World):(callFunc 126 #[.int .u64 a,.int .u64 b,.int .u64 0]).run Tryz.prog w=.ok (.value (.tuple #[.int .u64 (Int.ofNat ((a.toNat+b.toNat+0)%18446744073709551616)),.int .u64 (Int.ofNat ((a.toNat+b.toNat+0)/18446744073709551616))])) w /\
  (callFunc 126 #[.int .u64 a,.int .u64 b,.int .u64 1]).run Tryz.prog w=.ok (.value (.tuple #[.int .u64 (Int.ofNat ((a.toNat+b.toNat+1)%18446744073709551616)),.int .u64 (Int.ofNat ((a.toNat+b.toNat+1)/18446744073709551616))])) w:=by
 constructor<;>kernel_rfl
theorem run_sub64 (a b:Int) (w:World):(callFunc 171 #[.int .u64 a,.int .u64 b,.int .u64 0]).run Tryz.prog w=.ok (.value (.tuple #[.int .u64 (Int.ofNat ((a.toNat+18446744073709551616-b.toNat-0)%18446744073709551616)),.int .u64 (Int.ofNat (if a.toNat<b.toNat+0 then 1 else 0))])) w /\
  (callFunc 171 #[.int .u64 a,.int .u64 b,.int .u64 1]).run Tryz.prog w=.ok (.value (.tuple #[.int .u64 (Int.ofNat ((a.toNat+18446744073709551616-b.toNat-1)%18446744073709551616)),.int .u64 (Int.ofNat (if a.toNat<b.toNat+1 then 1 else 0))])) w:=by
 constructor<;>kernel_rfl
theorem fn_add64:FnOk Tryz.prog 126 [.int .u64,.int .u64,.int .u64] [.val (.int .u64),.val (.int .u64)] noG preCarry outAdd64:=by
 rintro w M us ⟨a,b,c,⟨⟩⟩ _ _ ⟨u1,_,rfl,h1,u2,_,rfl,h2,u3,_,rfl,h3,rfl⟩ ⟨⟨ha0,ha⟩,⟨hb0,hb⟩,hc⟩
 have e1:u1=.int .u64 a:=by have:[u1]=[Value.int .u64 a]:=h1;simpa using this
 have e2:u2=.int .u64 b:=by have:[u2]=[Value.int .u64 b]:=h2;simpa using this
 have e3:u3=.int .u64 c:=by have:[u3]=[Value.int .u64 c]:=h3;simpa using this
 subst e1 e2 e3
 refine .inr ?_
 ·obtain⟨n,rfl⟩:=Int.eq_ofNat_of_zero_le ha0
  obtain⟨m,rfl⟩:=Int.eq_ofNat_of_zero_le hb0
  have e:∀ c:Nat,(Value.tuple #[.int .u64 (Int.ofNat (((n:Int).toNat+(m:Int).toNat+c)%18446744073709551616)),.int .u64 (Int.ofNat (((n:Int).toNat+(m:Int).toNat+c)/18446744073709551616))])=.tuple #[.int .u64 (((n:Int)+m+c)%18446744073709551616),.int .u64 (((n:Int)+m+c)/18446744073709551616)]:=by
   intro c;congr 3
  rcases hc with rfl|rfl
  ·exact⟨_,w,(run_add64 n m w).1,[_,_],none,e 0,⟨_,_,rfl,rfl,_,_,rfl,rfl,rfl⟩,Below.refl _ _⟩
  ·exact⟨_,w,(run_add64 n m w).2,[_,_],none,e 1,⟨_,_,rfl,rfl,_,_,rfl,rfl,rfl⟩,Below.refl _ _⟩
theorem fn_sub64:FnOk Tryz.prog 171 [.int .u64,.int .u64,.int .u64] [.val (.int .u64),.val (.int .u64)] noG preCarry outSub64:=by
 rintro w M us ⟨a,b,c,⟨⟩⟩ _ _ ⟨u1,_,rfl,h1,u2,_,rfl,h2,u3,_,rfl,h3,rfl⟩ ⟨⟨ha0,ha⟩,⟨hb0,hb⟩,hc⟩
 have e1:u1=.int .u64 a:=by have:[u1]=[Value.int .u64 a]:=h1;simpa using this
 have e2:u2=.int .u64 b:=by have:[u2]=[Value.int .u64 b]:=h2;simpa using this
 have e3:u3=.int .u64 c:=by have:[u3]=[Value.int .u64 c]:=h3;simpa using this
 subst e1 e2 e3
 refine .inr ?_
 ·obtain⟨n,rfl⟩:=Int.eq_ofNat_of_zero_le ha0
  obtain⟨m,rfl⟩:=Int.eq_ofNat_of_zero_le hb0
  have e:∀ c:Nat,c<=1->(Value.tuple #[.int .u64 (Int.ofNat (((n:Int).toNat+18446744073709551616-(m:Int).toNat-c)%18446744073709551616)),.int .u64 (Int.ofNat (if (n:Int).toNat<(m:Int).toNat+c then 1 else 0))])=.tuple #[.int .u64 (((n:Int)-m-c)%18446744073709551616),.int .u64 (if (n:Int)<m+c then 1 else 0)]:=by
   intro c hc
   have e1:(Int.ofNat (((n:Int).toNat+18446744073709551616-(m:Int).toNat-c)%18446744073709551616))=((n:Int)-m-c)%18446744073709551616:=by
    simp only[Int.toNat_natCast,Int.ofNat_eq_natCast];omega
   have e2:(Int.ofNat (if (n:Int).toNat<(m:Int).toNat+c then 1 else 0))=(if (n:Int)<m+c then 1 else 0):=by
    simp only[Int.toNat_natCast,Int.ofNat_eq_natCast]
    split<;>split<;>omega
   rw[e1,e2]
  rcases hc with rfl|rfl
  ·exact⟨_,w,(run_sub64 n m w).1,[_,_],none,e 0 (by omega),⟨_,_,rfl,rfl,_,_,rfl,rfl,rfl⟩,Below.refl _ _⟩
  ·exact⟨_,w,(run_sub64 n m w).2,[_,_],none,e 1 (by omega),⟨_,_,rfl,rfl,_,_,rfl,rfl,rfl⟩,Below.refl _ _⟩
noncomputable def spMul64:Nat × Eng.Spec:=(125,fnSpec [.int .u64,.int .u64] [.val (.int .u64),.val (.int .u64)] preMul64 outMul64)
noncomputable def spAdd64:Nat × Eng.Spec:=(126,fnSpec [.int .u64,.int .u64,.int .u64] [.val (.int .u64),.val (.int .u64)] preCarry outAdd64)
noncomputable def spSub64:Nat × Eng.Spec:=(171,fnSpec [.int .u64,.int .u64,.int .u64] [.val (.int .u64),.val (.int .u64)] preCarry outSub64)
def subPre:List Int->List Int->Int->Prop->Prop
 | a::us,b::vs,k,K=>preCarry (a,b,k,())/\subPre us vs (if a<b+k then 1 else 0) K
 | _,_,_,K=>K
theorem subPre_ok {K:Prop}:∀ (us vs:List Int) (k:Int),us.length=vs.length->Ws us->Ws vs->(k=0\/k=1)->K->subPre us vs k K:=by
 intro us
 induction us with
 | nil=>intro vs k h _ _ _ hK;exact hK
 | cons a us ih =>
  intro vs k h ha hb hk hK
  cases vs with
  | nil=>simp at h
  | cons b vs=>exact⟨⟨ha a (by simp),hb b (by simp),hk⟩,ih vs _ (by simpa using h) (fun y hy=>ha y (by simp[hy])) (fun y hy=>hb y (by simp[hy])) (by split<;>simp) hK⟩
def addPre:List Int->List Int->Int->Prop->Prop
 | a::us,b::vs,k,K=>preCarry (a,b,k,())/\addPre us vs ((a+b+k)/18446744073709551616) K
 | _,_,_,K=>K
theorem addPre_ok {K:Prop}:∀ (us vs:List Int) (k:Int),us.length=vs.length->Ws us->Ws vs->(k=0\/k=1)->K->addPre us vs k K:=by
 intro us
 induction us with
 | nil=>intro vs k h _ _ _ hK;exact hK
 | cons a us ih =>
  intro vs k h ha hb hk hK
  cases vs with
  | nil=>simp at h
  | cons b vs =>
   obtain⟨a0,a1⟩:=ha a (by simp)
   obtain⟨b0,b1⟩:=hb b (by simp)
   exact⟨⟨⟨a0,a1⟩,⟨b0,b1⟩,hk⟩,ih vs _ (by simpa using h) (fun y hy=>ha y (by simp[hy])) (fun y hy=>hb y (by simp[hy])) (by omega) hK⟩
end Go.Proofs.YtbeeaekepmnfhaaGreatDoor
namespace Cr
def rowM:List Int->List Int->List Int->Int->Int->Int->Int->List Int
 | x::xs,p::ps,t::ts,v,m,a,c =>
  (m*p+(x*v+t+a)%18446744073709551616+c)%18446744073709551616 ::
   rowM xs ps ts v m ((x*v+t+a)/18446744073709551616) ((m*p+(x*v+t+a)%18446744073709551616+c)/18446744073709551616)
 | _,_,_,_,_,a,c=>[(a+c)%18446744073709551616]
theorem rowM_spec {v m:Int} (hv:0<=v) (hm:0<=m):∀ (xs ps ts:List Int) (a c:Int),xs.length=ps.length->ps.length=ts.length->Ws xs->Ws ps->Ws ts->0<=a->0<=c ->
  (rowM xs ps ts v m a c).length=xs.length+1/\Ws (rowM xs ps ts v m a c) /\
  ∃ q,0<=q/\val (rowM xs ps ts v m a c)+pw (xs.length+1)*q=val xs*v+val ts+m*val ps+a+c:=by
 intro xs
 induction xs with
 | nil =>
  intro ps ts a c h1 h2 _ _ _ ha hc
  have e1:ps=[]:=by cases ps with|nil=>rfl|cons _ _=>simp at h1
  subst e1
  have e2:ts=[]:=by cases ts with|nil=>rfl|cons _ _=>simp at h2
  subst e2
  refine⟨rfl,?_,(a+c)/18446744073709551616,by omega,?_⟩
  ·intro x hx
   simp only[rowM,List.mem_singleton] at hx
   subst hx;exact⟨by omega,by omega⟩
  ·simp only[rowM,val,pw,List.length_nil,Int.mul_zero];omega
 | cons x xs ih =>
  intro ps ts a c h1 h2 hx hp ht ha hc
  cases ps with
  | nil=>simp at h1
  | cons p ps =>
   cases ts with
   | nil=>simp at h2
   | cons t ts =>
    obtain⟨x0,x1⟩:=hx x (by simp)
    obtain⟨p0,p1⟩:=hp p (by simp)
    obtain⟨t0,t1⟩:=ht t (by simp)
    have hxv:0<=x*v:=Int.mul_nonneg x0 hv
    have hmp:0<=m*p:=Int.mul_nonneg hm p0
    simp only[rowM]
    generalize hu:x*v+t+a=u
    generalize hz:m*p+u%18446744073709551616+c=z
    obtain⟨g1,g2,q,g3,g4⟩:=ih ps ts (u/18446744073709551616) (z/18446744073709551616) (by simpa using h1) (by simpa using h2) (fun y hy=>hx y (by simp[hy])) (fun y hy=>hp y (by simp[hy])) (fun y hy=>ht y (by simp[hy])) (by omega) (by omega)
    refine⟨by simp[g1],?_,q,g3,?_⟩
    ·intro y hy
     simp only[List.mem_cons] at hy
     rcases hy with rfl|hy
     ·exact⟨by omega,by omega⟩
     ·exact g2 y hy
    ·simp only[val,List.length_cons]
     rw[show pw (xs.length+1+1)=18446744073709551616*pw (xs.length+1) from rfl,Int.mul_assoc]
     rw[show (x+18446744073709551616*val xs)*v=x*v+18446744073709551616*(val xs*v) from by rw[Int.add_mul,Int.mul_assoc]]
     rw[show m*(p+18446744073709551616*val ps)=m*p+18446744073709551616*(m*val ps) from by rw[Int.mul_add,Int.mul_left_comm]]
     generalize pw (xs.length+1)*q=A at *
     generalize val xs*v=C at *
     generalize m*val ps=D at *
     generalize x*v=G at *
     generalize m*p=H at *
     omega
def stepM (cancel:Int):List Int->List Int->List Int->Int->List Int
 | x::xs,p::ps,t::ts,v =>
  rowM xs ps ts v (((x*v+t+0)%18446744073709551616)*cancel%18446744073709551616) ((x*v+t+0)/18446744073709551616)
   (((((x*v+t+0)%18446744073709551616)*cancel%18446744073709551616)*p+(x*v+t+0)%18446744073709551616+0)/18446744073709551616)
 | _,_,_,_=>[]
theorem stepM_spec {cancel v:Int} {xs ps ts:List Int} (h1:xs.length=ps.length) (h2:ps.length=ts.length) (hx:Ws xs) (hp:Ws ps) (ht:Ws ts) (hne:ps≠[]) (hv:U64 v)
  (hc:(ps.headD 0*cancel+1)%18446744073709551616=0) (hb:val ts<val xs+val ps) (hxp:val xs<val ps) (h2p:2*val ps<=pw ps.length) :
  (stepM cancel xs ps ts v).length=ts.length/\Ws (stepM cancel xs ps ts v)/\val (stepM cancel xs ps ts v)<val xs+val ps /\
  ∃ m,18446744073709551616*val (stepM cancel xs ps ts v)=val xs*v+val ts+m*val ps:=by
 obtain⟨hv0,hv1⟩:=hv
 cases ps with
 | nil=>exact absurd rfl hne
 | cons p ps =>
 cases xs with
 | nil=>simp at h1
 | cons x xs =>
 cases ts with
 | nil=>simp at h2
 | cons t ts =>
  obtain⟨x0,x1⟩:=hx x (by simp)
  obtain⟨p0,p1⟩:=hp p (by simp)
  obtain⟨t0,t1⟩:=ht t (by simp)
  have hxv:0<=x*v:=Int.mul_nonneg x0 hv0
  simp only[stepM]
  generalize hu:x*v+t+0=u
  generalize hs:u%18446744073709551616=s
  generalize hm:s*cancel%18446744073709551616=m
  have hm0:0<=m/\m<18446744073709551616:=by omega
  have hmp:0<=m*p:=Int.mul_nonneg hm0.1 p0
  -- m p+s is a multiple of 2^64
  have hdiv:(m*p+s+0)%18446744073709551616=0:=by
   simp only[List.headD_cons] at hc
   have e1:(m*p+s)%18446744073709551616=(s*(p*cancel+1))%18446744073709551616:=by
    have hk:=Int.emod_add_mul_ediv (s*cancel) 18446744073709551616
    rw[hm] at hk
    rw[show m*p+s=s*(p*cancel+1)+18446744073709551616*(-(s*cancel/18446744073709551616*p)) from by grind]
    exact Int.add_mul_emod_self_left _ _ _
   rw[Int.add_zero,e1,Int.mul_emod,hc];simp
  generalize hz:m*p+s+0=z at *
  obtain⟨g1,g2,q,g3,g4⟩:=rowM_spec hv0 hm0.1 xs ps ts (u/18446744073709551616) (z/18446744073709551616) (by simpa using h1) (by simpa using h2) (fun y hy=>hx y (by simp[hy])) (fun y hy=>hp y (by simp[hy])) (fun y hy=>ht y (by simp[hy])) (by omega) (by omega)
  have hlen:xs.length+1=(p::ps).length:=by simpa using h1
  have n0:=val_nonneg g2
  have X0:=val_nonneg hx
  have P0:=val_nonneg hp
  -- the whole
  have whole:18446744073709551616*(val xs*v+val ts+m*val ps+u/18446744073709551616+z/18446744073709551616)=val (x::xs)*v+val (t::ts)+m*val (p::ps):=by
   simp only[val]
   rw[show (x+18446744073709551616*val xs)*v=x*v+18446744073709551616*(val xs*v) from by rw[Int.add_mul,Int.mul_assoc]]
   rw[show m*(p+18446744073709551616*val ps)=m*p+18446744073709551616*(m*val ps) from by rw[Int.mul_add,Int.mul_left_comm]]
   generalize val xs*v=C at *
   generalize m*val ps=D at *
   generalize x*v=G at *
   generalize m*p=H at *
   omega
  -- its bound
  have b1:val (x::xs)*v<=val (x::xs)*18446744073709551615:=Int.mul_le_mul_of_nonneg_left (by omega) X0
  have b2:m*val (p::ps)<=18446744073709551615*val (p::ps):=Int.mul_le_mul_of_nonneg_right (by omega) P0
  generalize val (x::xs)*v=XV at *
  generalize hMP:m*val (p::ps)=MP at *
  have bnd:val xs*v+val ts+m*val ps+u/18446744073709551616+z/18446744073709551616<val (x::xs)+val (p::ps):=by omega
  rw[hlen] at g4
  have hq:q=0:=by
   rcases Int.lt_or_le 0 q with h|h
   ·exfalso
    have:pw (p::ps).length*1<=pw (p::ps).length*q:=Int.mul_le_mul_of_nonneg_left (by omega) (Int.le_of_lt (pw_pos _))
    omega
   ·omega
  subst hq
  simp only[Int.mul_zero,Int.add_zero] at g4
  refine⟨by rw[g1];simp at h1 h2 ⊢;omega,g2,by rw[g4];exact bnd,m,?_⟩
  rw[g4,whole,hMP]
def foldM (cancel:Int) (xs ps:List Int):List Int->List Int->List Int
 | ts,[]=>ts
 | ts,v::vs=>foldM cancel xs ps (stepM cancel xs ps ts v) vs
theorem foldM_spec {cancel:Int} {xs ps:List Int} (h1:xs.length=ps.length) (hx:Ws xs) (hp:Ws ps) (hne:ps≠[])
  (hc:(ps.headD 0*cancel+1)%18446744073709551616=0) (hxp:val xs<val ps) (h2p:2*val ps<=pw ps.length):∀ (vs ts:List Int),Ws vs->ps.length=ts.length->Ws ts->val ts<val xs+val ps ->
  (foldM cancel xs ps ts vs).length=ps.length/\Ws (foldM cancel xs ps ts vs)/\val (foldM cancel xs ps ts vs)<val xs+val ps /\
  ∃ m,pw vs.length*val (foldM cancel xs ps ts vs)=val xs*val vs+val ts+m*val ps:=by
 intro vs
 induction vs with
 | nil=>intro ts _ h2 ht hb;exact⟨h2.symm,ht,hb,0,by simp[foldM,pw,val]⟩
 | cons v vs ih =>
  intro ts hvs h2 ht hb
  obtain⟨g1,g2,g3,m,g4⟩:=stepM_spec h1 h2 hx hp ht hne (hvs v (by simp)) hc hb hxp h2p
  obtain⟨k1,k2,k3,m2,k4⟩:=ih (stepM cancel xs ps ts v) (fun y hy=>hvs y (by simp[hy])) (by rw[g1];exact h2) g2 g3
  refine⟨k1,k2,k3,m+18446744073709551616*m2,?_⟩
  simp only[foldM,pw,val,List.length_cons]
  rw[Int.mul_assoc,k4,Int.mul_add,Int.mul_add,g4]
  grind
theorem mont_spec {cancel:Int} {xs ps ys:List Int} (h1:xs.length=ps.length) (h2:ys.length=ps.length) (hx:Ws xs) (hp:Ws ps) (hy:Ws ys) (hne:ps≠[])
  (hc:(ps.headD 0*cancel+1)%18446744073709551616=0) (hxp:val xs<val ps) (h2p:2*val ps<=pw ps.length) {rinv:Int} (hr:(pw ps.length*rinv)%val ps=1%val ps) :
  (foldM cancel xs ps (List.replicate ps.length 0) ys).length=ps.length/\Ws (foldM cancel xs ps (List.replicate ps.length 0) ys)/\val (foldM cancel xs ps (List.replicate ps.length 0) ys)<2*val ps /\
  val (foldM cancel xs ps (List.replicate ps.length 0) ys)%val ps=(val xs*val ys*rinv)%val ps:=by
 have z:∀ n,val (List.replicate n 0)=0:=by
  intro n
  induction n with
  | zero=>rfl
  | succ n ih=>simp[List.replicate_succ,val,ih]
 have zw:Ws (List.replicate ps.length 0):=by
  intro x hx;rw[(List.mem_replicate.1 hx).2];exact⟨by omega,by omega⟩
 have X0:=val_nonneg hx
 obtain⟨k1,k2,k3,m,k4⟩:=foldM_spec h1 hx hp hne hc hxp h2p ys (List.replicate ps.length 0) hy (by simp) zw (by rw[z];omega)
 refine⟨k1,k2,by omega,?_⟩
 rw[z,h2] at k4
 generalize val (foldM cancel xs ps (List.replicate ps.length 0) ys)=T at *
 have e1:(T*(pw ps.length*rinv))%val ps=T%val ps:=by
  rw[Int.mul_emod,hr,<- Int.mul_emod,Int.mul_one]
 rw[<- e1,show T*(pw ps.length*rinv)=(pw ps.length*T)*rinv from by rw[Int.mul_comm (pw ps.length) T,Int.mul_assoc],k4]
 rw[show (val xs*val ys+0+m*val ps)*rinv=val xs*val ys*rinv+(m*rinv)*val ps from by grind]
 exact Int.add_mul_emod_self_right _ _ _
end Cr
namespace Go.Proofs.YtbeeaekepmnfhaaGreatDoor.fp
noncomputable section
open Go Go.Eng Go.RowKit Cr
abbrev M:Int:=Mp
def ms:List Int:=[13402431016077863595,2210141511517208575,7435674573564081700,7239337960414712511,5412103778470702295,1873798617647539866]
abbrev rinv:Int:=Md.rinv Mp
theorem val_ms:val ms=M:=by decide
theorem ws_ms:Ws ms:=by intro x hx;simp[ms] at hx;rcases hx with rfl|rfl|rfl|rfl|rfl|rfl<;>exact⟨by decide,by decide⟩
theorem M_pos:0<M:=by decide
theorem M_two:2*M<=pw 6:=by decide
theorem pw_rinv:(pw 6*rinv)%M=1%M:=by decide
theorem ent_muladd:enters Tryz.prog 178 Tryz.f178:=ek
abbrev preMuladd:HL [.int .u64,.int .u64,.int .u64,.int .u64]->Prop:=fun (a,b,c,d,_)=>U64 a/\U64 b/\U64 c/\U64 d
abbrev outMuladd:HL [.int .u64,.int .u64,.int .u64,.int .u64]->HO [.val (.int .u64),.val (.int .u64)]:=fun (a,b,c,d,_)=>(((a:Int)*b+c+d)/18446744073709551616,(a*b+c+d)%18446744073709551616,())
theorem fn_muladd:FnOk Tryz.prog 178 [.int .u64,.int .u64,.int .u64,.int .u64] [.val (.int .u64),.val (.int .u64)] noG preMuladd outMuladd:=by
 refine fn_of_vc (sp:=sps [spMul64,spAdd64]) (spk (fok fn_mul64) (spk (fok fn_add64) snl)) mixed ent_muladd (by decide) (by decide) ?_
 rintro w M0 ⟨a,b,c,d,⟨⟩⟩ _ ⟨⟨ha0,ha⟩,⟨hb0,hb⟩,⟨hc0,hc⟩,hd0,hd⟩
 have hab:=mul_bd (m:=18446744073709551615) (n:=18446744073709551615) ha0 (by omega) hb0 (by omega)
 refine vcx (X:=(preMul64 (a,b,())/\preCarry (a*b%18446744073709551616,c,(0:Int),())/\preCarry ((a*b%18446744073709551616+c+0)%18446744073709551616,d,(0:Int),()) /\
   ((((a*b/18446744073709551616+(a*b%18446744073709551616+c+0)/18446744073709551616)%18446744073709551616+((a*b%18446744073709551616+c+0)%18446744073709551616+d+0)/18446744073709551616)%18446744073709551616,
    ((a*b%18446744073709551616+c+0)%18446744073709551616+d+0)%18446744073709551616,()):Int × Int × Unit)=outMuladd (a,b,c,d,()))) (by kernel_rfl) ?_
 refine⟨⟨⟨ha0,ha⟩,hb0,hb⟩,⟨⟨by omega,by omega⟩,⟨hc0,hc⟩,.inl rfl⟩,⟨⟨by omega,by omega⟩,⟨hd0,hd⟩,.inl rfl⟩,?_⟩
 simp only[outMuladd,Prod.mk.injEq,and_true]
 generalize (a:Int)*b=ab at *
 exact⟨by omega,by omega⟩
def spMuladd:Nat × Eng.Spec:=(178,fnSpec [.int .u64,.int .u64,.int .u64,.int .u64] [.val (.int .u64),.val (.int .u64)] preMuladd outMuladd)
abbrev pre2:HL [(.arr 6 (.int .u64)),(.arr 6 (.int .u64))]->Prop:=fun (xs,ys,_)=>Ws xs/\Ws ys
abbrev outMinus:HL [(.arr 6 (.int .u64)),(.arr 6 (.int .u64))]->HO [.val (.arr 6 (.int .u64)),.val (.int .u64)]:=fun (xs,ys,_)=>(lim 6 (val xs-val ys),if val xs<val ys then (1:Int) else 0,())
abbrev outPlus:HL [(.arr 6 (.int .u64)),(.arr 6 (.int .u64))]->HO [.val (.arr 6 (.int .u64))]:=fun (xs,ys,_)=>(lim 6 (val xs+val ys),())
theorem ent_minus:enters Tryz.prog 149 Tryz.f149:=ek
theorem fn_minus:FnOk Tryz.prog 149 [(.arr 6 (.int .u64)),(.arr 6 (.int .u64))] [.val (.arr 6 (.int .u64)),.val (.int .u64)] noG pre2 outMinus:=by
 refine fn_of_vc (sp:=sps [spSub64]) (spk (fok fn_sub64) snl) mixed ent_minus (by decide) (by decide) ?_
 rintro w M0 ⟨xs,ys,⟨⟩⟩ ⟨⟨h1,_⟩,⟨h2,_⟩,_⟩ ⟨hx,hy⟩
 match xs,ys,h1,h2,hx,hy with
 | [a0,a1,a2,a3,a4,a5],[b0,b1,b2,b3,b4,b5],_,_,hx,hy =>
  refine vcx (X:=subPre [a0,a1,a2,a3,a4,a5] [b0,b1,b2,b3,b4,b5] 0 (((subL [a0,a1,a2,a3,a4,a5] [b0,b1,b2,b3,b4,b5] 0).1,(subL [a0,a1,a2,a3,a4,a5] [b0,b1,b2,b3,b4,b5] 0).2,())=outMinus ([a0,a1,a2,a3,a4,a5],[b0,b1,b2,b3,b4,b5],()))) (by kernel_rfl) ?_
  refine subPre_ok _ _ 0 rfl hx hy (.inl rfl) ?_
  obtain⟨e1,e2⟩:=subL_eq (us:=[a0,a1,a2,a3,a4,a5]) (vs:=[b0,b1,b2,b3,b4,b5]) rfl hx hy
  rw[e1,e2]
  rfl
def spMinus:Nat × Eng.Spec:=(149,fnSpec [(.arr 6 (.int .u64)),(.arr 6 (.int .u64))] [.val (.arr 6 (.int .u64)),.val (.int .u64)] pre2 outMinus)
theorem ent_plus:enters Tryz.prog 104 Tryz.f104:=ek
theorem fn_plus:FnOk Tryz.prog 104 [(.arr 6 (.int .u64)),(.arr 6 (.int .u64))] [.val (.arr 6 (.int .u64))] noG pre2 outPlus:=by
 refine fn_of_vc (sp:=sps [spAdd64]) (spk (fok fn_add64) snl) mixed ent_plus (by decide) (by decide) ?_
 rintro w M0 ⟨xs,ys,⟨⟩⟩ ⟨⟨h1,_⟩,⟨h2,_⟩,_⟩ ⟨hx,hy⟩
 match xs,ys,h1,h2,hx,hy with
 | [a0,a1,a2,a3,a4,a5],[b0,b1,b2,b3,b4,b5],_,_,hx,hy =>
  refine vcx (X:=addPre [a0,a1,a2,a3,a4,a5] [b0,b1,b2,b3,b4,b5] 0 (((addL [a0,a1,a2,a3,a4,a5] [b0,b1,b2,b3,b4,b5] 0).1,())=outPlus ([a0,a1,a2,a3,a4,a5],[b0,b1,b2,b3,b4,b5],()))) (by kernel_rfl) ?_
  refine addPre_ok _ _ 0 rfl hx hy (.inl rfl) ?_
  rw[addL_eq (us:=[a0,a1,a2,a3,a4,a5]) (vs:=[b0,b1,b2,b3,b4,b5]) rfl hx hy]
  rfl
def spPlus:Nat × Eng.Spec:=(104,fnSpec [(.arr 6 (.int .u64)),(.arr 6 (.int .u64))] [.val (.arr 6 (.int .u64))] pre2 outPlus)
theorem ent_modulus:enters Tryz.prog 150 Tryz.f150:=ek
theorem fn_modulus:FnOk Tryz.prog 150 [] [.val (.arr 6 (.int .u64))] noG (fun _=>True) (fun _=>(ms,())):=by
 refine fn_of_vc (sp:=sps []) snl mixed ent_modulus (by decide) (by decide) ?_
 intro w M0 xs _ _
 exact vcx (X:=((ms,()):List Int × Unit)=(ms,())) (by kernel_rfl) rfl
def spModulus:Nat × Eng.Spec:=(150,fnSpec [] [.val (.arr 6 (.int .u64))] (fun _=>True) (fun _=>(ms,())))
abbrev preFit:HL [(.arr 6 (.int .u64))]->Prop:=fun (xs,_)=>Ws xs
abbrev outFit:HL [(.arr 6 (.int .u64))]->HO [.val (.arr 6 (.int .u64))]:=fun (xs,_)=>(if val xs<M then xs else lim 6 (val xs-M),())
theorem ent_fit:enters Tryz.prog 103 Tryz.f103:=ek
theorem fn_fit:FnOk Tryz.prog 103 [(.arr 6 (.int .u64))] [.val (.arr 6 (.int .u64))] noG preFit outFit:=by
 refine fn_of_vc (sp:=sps [spMinus,spModulus]) (spk (fok fn_minus) (spk (fok fn_modulus) snl)) mixed ent_fit (by decide) (by decide) ?_
 rintro w M0 ⟨xs,⟨⟩⟩ _ hx
 refine vcx (X:=(True/\(Ws xs/\Ws ms)/\((((if val xs<val ms then 1 else 0:Int) != 0)=true->((xs,()):List Int × Unit)=outFit (xs,()))/\(((if val xs<val ms then 1 else 0:Int) != 0)=false->((lim 6 (val xs-val ms),()):List Int × Unit)=outFit (xs,()))))) (by kernel_rfl) ?_
 refine⟨trivial,⟨hx,ws_ms⟩,?_⟩
 rw[val_ms]
 by_cases h:val xs<M
 ·simp[h,outFit]
 ·simp[h,outFit]
def spFit:Nat × Eng.Spec:=(103,fnSpec [(.arr 6 (.int .u64))] [.val (.arr 6 (.int .u64))] preFit outFit)
abbrev preTimes:HL [(.arr 6 (.int .u64)),(.arr 6 (.int .u64))]->Prop:=fun (xs,ys,_)=>Ws xs/\Ws ys/\val xs<M
abbrev outTimes:HL [(.arr 6 (.int .u64)),(.arr 6 (.int .u64))]->HO [.val (.arr 6 (.int .u64))]:=fun (xs,ys,_)=>(lim 6 (val xs*val ys*rinv%M),())
theorem ent_times:enters Tryz.prog 140 Tryz.f140:=ek
def timesI (xs ys:List Int) (g:Int × List Int):St :=
 mkSt Tryz.f140.ntmps 104 ([(2,.is (.one (.ptr 0 0))),(4,.is (.one (.ptr 16 0)))]++[(7,sI .u64 (g.2.getD 0 0)),(8,sI .u64 (g.2.getD 1 0)),(9,sI .u64 (g.2.getD 2 0)),(10,sI .u64 (g.2.getD 3 0)),(11,sI .u64 (g.2.getD 4 0)),(12,sI .u64 (g.2.getD 5 0))]++[(16,sA .u64 6 ys),(17,sI .i64 g.1)])
  [(0,[.ints .u64 6 xs]),(16,[.ints .u64 6 (zeros 6)])]
def timesO (g:Int × List Int):St:=mkSt Tryz.f140.ntmps 104 ([(4,.is (.one (.ptr 16 0)))]++[(7,sI .u64 (g.2.getD 0 0)),(8,sI .u64 (g.2.getD 1 0)),(9,sI .u64 (g.2.getD 2 0)),(10,sI .u64 (g.2.getD 3 0)),(11,sI .u64 (g.2.getD 4 0)),(12,sI .u64 (g.2.getD 5 0))]) [(16,[.ints .u64 6 (zeros 6)])]
def timesN (xs ys:List Int) (g:Int × List Int):Int × List Int:=(IntKind.i64.wrap (g.1+1),stepM 9940570264628428797 xs ms g.2 (ys.getD g.1.toNat 0))
def rowPre:List Int->List Int->List Int->Int->Int->Int->Int->Prop->Prop
 | x::xs,p::ps,t::ts,v,m,a,c,K =>
  preMuladd (x,v,t,a,())/\preMuladd (m,p,(x*v+t+a)%18446744073709551616,c,()) /\
   rowPre xs ps ts v m ((x*v+t+a)/18446744073709551616) ((m*p+(x*v+t+a)%18446744073709551616+c)/18446744073709551616) K
 | _,_,_,_,_,_,_,K=>K
theorem rowPre_ok {K:Prop} {v m:Int} (hv:U64 v) (hm:U64 m) (hK:K):∀ (xs ps ts:List Int) (a c:Int),Ws xs->Ws ps->Ws ts->U64 a->U64 c->rowPre xs ps ts v m a c K:=by
 intro xs
 induction xs with
 | nil=>intro ps ts a c _ _ _ _ _;exact hK
 | cons x xs ih =>
  intro ps ts a c hx hp ht ha hc
  cases ps with
  | nil=>exact hK
  | cons p ps =>
   cases ts with
   | nil=>exact hK
   | cons t ts =>
    have x1:=hx x (by simp)
    have p1:=hp p (by simp)
    have t1:=ht t (by simp)
    have hxv:=mul_bd (m:=18446744073709551615) (n:=18446744073709551615) x1.1 (by have:=x1.2;omega) hv.1 (by have:=hv.2;omega)
    have hmp:=mul_bd (m:=18446744073709551615) (n:=18446744073709551615) hm.1 (by have:=hm.2;omega) p1.1 (by have:=p1.2;omega)
    obtain⟨t2,t3⟩:=t1
    obtain⟨a2,a3⟩:=ha
    obtain⟨c2,c3⟩:=hc
    simp only[rowPre]
    generalize x*v=xv at *
    generalize m*p=mp at *
    refine⟨⟨x1,hv,⟨t2,t3⟩,a2,a3⟩,⟨hm,p1,⟨by omega,by omega⟩,c2,c3⟩,?_⟩
    exact ih ps ts _ _ (fun y hy=>hx y (by simp[hy])) (fun y hy=>hp y (by simp[hy])) (fun y hy=>ht y (by simp[hy])) ⟨by omega,by omega⟩ ⟨by omega,by omega⟩
def stepPre (xs ps ts:List Int) (v:Int) (K:Prop):Prop :=
 match xs,ps,ts with
 | x::xs,p::ps,t::ts =>
  preMuladd (x,v,t,(0:Int),())/\preMuladd (((x*v+t+0)%18446744073709551616)*9940570264628428797%18446744073709551616,p,(x*v+t+0)%18446744073709551616,(0:Int),()) /\
  rowPre xs ps ts v (((x*v+t+0)%18446744073709551616)*9940570264628428797%18446744073709551616) ((x*v+t+0)/18446744073709551616)
   (((((x*v+t+0)%18446744073709551616)*9940570264628428797%18446744073709551616)*p+(x*v+t+0)%18446744073709551616+0)/18446744073709551616) K
 | _,_,_=>K
theorem stepPre_ok {K:Prop} {v:Int} (hv:U64 v) (hK:K) {xs ps ts:List Int} (hx:Ws xs) (hp:Ws ps) (ht:Ws ts):stepPre xs ps ts v K:=by
 unfold stepPre
 split
 ·rename_i x xs p ps t ts
  have x1:=hx x (by simp)
  have p1:=hp p (by simp)
  have t1:=ht t (by simp)
  have hxv:=mul_bd (m:=18446744073709551615) (n:=18446744073709551615) x1.1 (by have:=x1.2;omega) hv.1 (by have:=hv.2;omega)
  obtain⟨t2,t3⟩:=t1
  generalize x*v=xv at *
  generalize hm:((xv+t+0)%18446744073709551616)*9940570264628428797%18446744073709551616=m
  have hm1:U64 m:=⟨by omega,by omega⟩
  have hmp:=mul_bd (m:=18446744073709551615) (n:=18446744073709551615) hm1.1 (by have:=hm1.2;omega) p1.1 (by have:=p1.2;omega)
  generalize m*p=mp at *
  refine⟨⟨x1,hv,⟨t2,t3⟩,by omega,by omega⟩,⟨hm1,p1,⟨by omega,by omega⟩,by omega,by omega⟩,?_⟩
  exact rowPre_ok hv hm1 hK xs ps ts _ _ (fun y hy=>hx y (by simp[hy])) (fun y hy=>hp y (by simp[hy])) (fun y hy=>ht y (by simp[hy])) ⟨by omega,by omega⟩ ⟨by omega,by omega⟩
 ·exact hK
def tsAt (xs ys:List Int) (k:Nat):List Int:=foldM 9940570264628428797 xs ms (List.replicate 6 0) (ys.take k)
def timesJ (xs ys:List Int) (g:Int × List Int):Prop:=∃ k:Nat,k<=6/\g=((k:Int),tsAt xs ys k)
theorem foldM_snoc {can:Int} {xs ps:List Int}:∀ (vs ts:List Int) (v:Int),foldM can xs ps ts (vs++[v])=stepM can xs ps (foldM can xs ps ts vs) v:=by
 intro vs
 induction vs with
 | nil=>intro ts v;rfl
 | cons u vs ih=>intro ts v;exact ih _ _
theorem fn_times:FnOk Tryz.prog 140 [(.arr 6 (.int .u64)),(.arr 6 (.int .u64))] [.val (.arr 6 (.int .u64))] noG preTimes outTimes:=by
 refine fn_of_tr (sp:=sps [spMuladd,spFit]) ent_times (by decide) (by decide) (by kernel_rfl) ?_
 have hsp:SpecsOk Tryz.prog (sps [spMuladd,spFit]):=spk (fok fn_muladd) (spk (fok fn_fit) snl)
 rintro w M0 ⟨xs,ys,⟨⟩⟩ ⟨⟨h1,_⟩,⟨h2,_⟩,_⟩ ⟨hx,hy,hxM⟩
 match xs,h1,hx,hxM with
 | [a0,a1,a2,a3,a4,a5],_,hx,hxM =>
  have hyl:List.length ys=6:=h2
  have hxl:[a0,a1,a2,a3,a4,a5].length=ms.length:=rfl
  have hfold:∀ k,(tsAt [a0,a1,a2,a3,a4,a5] ys k).length=ms.length/\Ws (tsAt [a0,a1,a2,a3,a4,a5] ys k)/\val (tsAt [a0,a1,a2,a3,a4,a5] ys k)<val [a0,a1,a2,a3,a4,a5]+val ms:=by
   intro k
   have:=foldM_spec (cancel:=9940570264628428797) hxl hx ws_ms (by simp[ms]) (by decide) (by rw[val_ms];exact hxM) (by rw[val_ms];exact M_two) (ys.take k) (List.replicate 6 0) (fun y hy'=>hy y (List.mem_of_mem_take hy')) (by rfl)
    (by intro x hx;rw[(List.mem_replicate.1 hx).2];exact⟨by omega,by omega⟩) (by rw[val_ms,show val (List.replicate 6 0)=0 from by decide];have:=val_nonneg hx;have:=M_pos;omega)
   exact⟨this.1,this.2.1,this.2.2.1⟩
  have hmont:=mont_spec (cancel:=9940570264628428797) (xs:=[a0,a1,a2,a3,a4,a5]) (ps:=ms) (ys:=ys) (rinv:=rinv) hxl hyl hx ws_ms hy (by simp[ms]) (by decide) (by rw[val_ms];exact hxM) (by rw[val_ms];exact M_two) (by rw[val_ms];exact pw_rinv)
  rw[val_ms] at hmont
  -- what holds at each round's head
  have J0:timesJ [a0,a1,a2,a3,a4,a5] ys (0,List.replicate 6 0):=⟨0,by omega,by simp[tsAt,foldM]⟩
  show Tr _ _ _ _ _ _ _
  refine tr_cut hsp mixed 3 (timesI [a0,a1,a2,a3,a4,a5] ys (0,List.replicate 6 0)) True ?_ (fun _=>?_)
  ·refine vcx (X:=(timesI [a0,a1,a2,a3,a4,a5] ys (0,List.replicate 6 0)).triv True) (by kernel_rfl) (tvi trivial)
  refine tr_loopN hsp mixed (timesI [a0,a1,a2,a3,a4,a5] ys) (timesJ [a0,a1,a2,a3,a4,a5] ys) (fun g=>(6-g.1).toNat) (timesN [a0,a1,a2,a3,a4,a5] ys) timesO (fun g=>g.2=tsAt [a0,a1,a2,a3,a4,a5] ys 6) (0,List.replicate 6 0) (c:=nthC (codeOf Tryz.f140) 3) (by kernel_rfl) (by kernel_rfl)
   (le_of_proj (by kernel_rfl) (by kernel_rfl) J0) ?_ ?_
  ·rintro g ⟨k,hk,rfl⟩
   obtain⟨f1,f2,f3⟩:=hfold k
   have hts:∃ t0 t1 t2 t3 t4 t5,tsAt [a0,a1,a2,a3,a4,a5] ys k=[t0,t1,t2,t3,t4,t5]:=by
    match tsAt [a0,a1,a2,a3,a4,a5] ys k,f1 with
    | [t0,t1,t2,t3,t4,t5],_=>exact⟨_,_,_,_,_,_,rfl⟩
   obtain⟨t0,t1,t2,t3,t4,t5,hts⟩:=hts
   rw[hts] at f2 ⊢
   refine vcx (X:=((decide ((k:Int)<6)=true->(0<=(k:Int)/\(k:Int)<(6:Nat))/\stepPre [a0,a1,a2,a3,a4,a5] ms [t0,t1,t2,t3,t4,t5] (ys.getD (k:Int).toNat 0) ((timesI [a0,a1,a2,a3,a4,a5] ys (timesN [a0,a1,a2,a3,a4,a5] ys ((k:Int),[t0,t1,t2,t3,t4,t5]))).triv (timesJ [a0,a1,a2,a3,a4,a5] ys (timesN [a0,a1,a2,a3,a4,a5] ys ((k:Int),[t0,t1,t2,t3,t4,t5]))/\(6-(timesN [a0,a1,a2,a3,a4,a5] ys ((k:Int),[t0,t1,t2,t3,t4,t5])).1).toNat<(6-(k:Int)).toNat)))
    /\ (decide ((k:Int)<6)=false->(timesO ((k:Int),[t0,t1,t2,t3,t4,t5])).triv ([t0,t1,t2,t3,t4,t5]=tsAt [a0,a1,a2,a3,a4,a5] ys 6)))) (by kernel_rfl) ?_
   constructor
   ·intro hlt
    have hlt:k<6:=by have:=of_decide_eq_true hlt;omega
    have hv:U64 (ys.getD (k:Int).toNat 0):=by
     rw[List.getD_eq_getElem?_getD,Int.toNat_natCast,List.getElem?_eq_getElem (by omega)]
     exact hy _ (List.getElem_mem _)
    refine⟨⟨by omega,by omega⟩,stepPre_ok hv (tvi ⟨⟨k+1,by omega,?_⟩,?_⟩) hx ws_ms f2⟩
    ·have e1:IntKind.i64.wrap ((k:Int)+1)=((k+1:Nat):Int):=by rw[wrap_i64 (by omega) (by omega)];omega
     have e2:tsAt [a0,a1,a2,a3,a4,a5] ys (k+1)=stepM 9940570264628428797 [a0,a1,a2,a3,a4,a5] ms (tsAt [a0,a1,a2,a3,a4,a5] ys k) (ys.getD (k:Int).toNat 0):=by
      unfold tsAt
      rw[List.take_succ_eq_append_getElem (by omega),foldM_snoc]
      rw[List.getD_eq_getElem?_getD,Int.toNat_natCast,List.getElem?_eq_getElem (by omega)]
      rfl
     show (IntKind.i64.wrap ((k:Int)+1),stepM 9940570264628428797 [a0,a1,a2,a3,a4,a5] ms [t0,t1,t2,t3,t4,t5] (ys.getD (k:Int).toNat 0))=_
     rw[e1,e2,hts]
    ·show (6-IntKind.i64.wrap ((k:Int)+1)).toNat<_
     rw[wrap_i64 (by omega) (by omega)];omega
   ·intro hge
    have hge:k=6:=by
     have:=of_decide_eq_false hge
     omega
    refine tvi ?_
    rw[<- hts,hge]
  ·rintro⟨i,ts⟩ hts
   have hts:ts=tsAt [a0,a1,a2,a3,a4,a5] ys 6:=hts
   obtain⟨f1,f2,f3⟩:=hfold 6
   have hall:ys.take 6=ys:=List.take_of_length_le (by omega)
   have hts2:∃ t0 t1 t2 t3 t4 t5,tsAt [a0,a1,a2,a3,a4,a5] ys 6=[t0,t1,t2,t3,t4,t5]:=by
    match tsAt [a0,a1,a2,a3,a4,a5] ys 6,f1 with
    | [t0,t1,t2,t3,t4,t5],_=>exact⟨_,_,_,_,_,_,rfl⟩
   obtain⟨t0,t1,t2,t3,t4,t5,hts2⟩:=hts2
   subst hts
   rw[hts2] at f2 ⊢
   refine tr_vc hsp mixed _ _ ?_
   refine vcx (X:=(Ws [t0,t1,t2,t3,t4,t5]/\((if val [t0,t1,t2,t3,t4,t5]<M then [t0,t1,t2,t3,t4,t5] else lim 6 (val [t0,t1,t2,t3,t4,t5]-M),()):List Int × Unit)=outTimes ([a0,a1,a2,a3,a4,a5],ys,()))) (by kernel_rfl) ?_
   refine⟨f2,?_⟩
   have e:foldM 9940570264628428797 [a0,a1,a2,a3,a4,a5] ms (List.replicate ms.length 0) ys=[t0,t1,t2,t3,t4,t5]:=by
    have:=hts2
    unfold tsAt at this
    rw[hall] at this
    exact this
   rw[e] at hmont
   obtain⟨m1,m2,m3,m4⟩:=hmont
   have m0:=val_nonneg m2
   have hM:=M_pos
   simp only[outTimes,Prod.mk.injEq,and_true]
   rw[<- m4]
   split
   ·rename_i hlt
    rw[Int.emod_eq_of_lt m0 hlt]
    exact (lim_val f2).symm
   ·rename_i hge
    rw[show val [t0,t1,t2,t3,t4,t5]%M=val [t0,t1,t2,t3,t4,t5]-M from by
     rw[<- Int.sub_emod_right,Int.emod_eq_of_lt (by omega) (by omega)]]
def spTimes:Nat × Eng.Spec:=(140,fnSpec [(.arr 6 (.int .u64)),(.arr 6 (.int .u64))] [.val (.arr 6 (.int .u64))] preTimes outTimes)
end
end Go.Proofs.YtbeeaekepmnfhaaGreatDoor.fp
namespace Go.Proofs.YtbeeaekepmnfhaaGreatDoor.fp
noncomputable section
open Go Go.Eng Go.RowKit Cr
theorem ent_mul:enters Tryz.prog 94 Tryz.f94:=ek
abbrev outMul:HL [.fp,.fp]->HO [.val .fp]:=fun (x,y,_)=>((x:Fp)*y,())
theorem fn_mul:FnOk Tryz.prog 94 [.fp,.fp] [.val .fp] noG (fun _=>True) outMul:=by
 refine fn_of_vc (sp:=sps [spTimes]) (spk (fok fn_times) snl) mixed ent_mul (by decide) (by decide) ?_
 rintro w M0 ⟨x,y,⟨⟩⟩ _ _
 refine vcx (X:=(preTimes (enc x,enc y,())/\Canon Mp (lim 6 (val (enc x)*val (enc y)*rinv%M))/\(dec (lim 6 (val (enc x)*val (enc y)*rinv%M)),())=outMul (x,y,()))) (by kernel_rfl) ?_
 rw[show lim 6 (val (enc x)*val (enc y)*rinv%M)=enc (x*y) from times_enc x y]
 exact⟨⟨enc_ws x,enc_ws y,(enc_canon x).2.2⟩,enc_canon _,by rw[dec_enc]⟩
def spMul:Nat × Eng.Spec:=(94,fnSpec [.fp,.fp] [.val .fp] (fun _=>True) outMul)
theorem ent_square:enters Tryz.prog 93 Tryz.f93:=ek
abbrev outSquare:HL [.fp]->HO [.val .fp]:=fun (x,_)=>((x:Fp)*x,())
theorem fn_square:FnOk Tryz.prog 93 [.fp] [.val .fp] noG (fun _=>True) outSquare:=by
 refine fn_of_vc (sp:=sps [spTimes]) (spk (fok fn_times) snl) mixed ent_square (by decide) (by decide) ?_
 rintro w M0 ⟨x,⟨⟩⟩ _ _
 refine vcx (X:=(preTimes (enc x,enc x,())/\Canon Mp (lim 6 (val (enc x)*val (enc x)*rinv%M))/\(dec (lim 6 (val (enc x)*val (enc x)*rinv%M)),())=outSquare (x,()))) (by kernel_rfl) ?_
 rw[show lim 6 (val (enc x)*val (enc x)*rinv%M)=enc (x*x) from times_enc x x]
 exact⟨⟨enc_ws x,enc_ws x,(enc_canon x).2.2⟩,enc_canon _,by rw[dec_enc]⟩
def spSquare:Nat × Eng.Spec:=(93,fnSpec [.fp] [.val .fp] (fun _=>True) outSquare)
theorem ent_add:enters Tryz.prog 62 Tryz.f62:=ek
abbrev outAdd:HL [.fp,.fp]->HO [.val .fp]:=fun (x,y,_)=>((x:Fp)+y,())
theorem fn_add:FnOk Tryz.prog 62 [.fp,.fp] [.val .fp] noG (fun _=>True) outAdd:=by
 refine fn_of_vc (sp:=sps [spFit,spPlus]) (spk (fok fn_fit) (spk (fok fn_plus) snl)) mixed ent_add (by decide) (by decide) ?_
 rintro w M0 ⟨x,y,⟨⟩⟩ _ _
 refine vcx (X:=(pre2 (enc x,enc y,())/\preFit (lim 6 (val (enc x)+val (enc y)),()) /\
  Canon Mp (if val (lim 6 (val (enc x)+val (enc y)))<M then lim 6 (val (enc x)+val (enc y)) else lim 6 (val (lim 6 (val (enc x)+val (enc y)))-M)) /\
  (dec (if val (lim 6 (val (enc x)+val (enc y)))<M then lim 6 (val (enc x)+val (enc y)) else lim 6 (val (lim 6 (val (enc x)+val (enc y)))-M)),())=outAdd (x,y,()))) (by kernel_rfl) ?_
 rw[show (if val (lim 6 (val (enc x)+val (enc y)))<M then lim 6 (val (enc x)+val (enc y)) else lim 6 (val (lim 6 (val (enc x)+val (enc y)))-M))=enc (x+y) from add_enc x y]
 exact⟨⟨enc_ws x,enc_ws y⟩,lim_ws _ _,enc_canon _,by rw[dec_enc]⟩
def spAdd:Nat × Eng.Spec:=(62,fnSpec [.fp,.fp] [.val .fp] (fun _=>True) outAdd)
theorem ent_sub:enters Tryz.prog 110 Tryz.f110:=ek
abbrev outSub:HL [.fp,.fp]->HO [.val .fp]:=fun (x,y,_)=>((x:Fp)-y,())
theorem fn_sub:FnOk Tryz.prog 110 [.fp,.fp] [.val .fp] noG (fun _=>True) outSub:=by
 refine fn_of_vc (sp:=sps [spMinus,spPlus,spModulus]) (spk (fok fn_minus) (spk (fok fn_plus) (spk (fok fn_modulus) snl))) mixed ent_sub (by decide) (by decide) ?_
 rintro w M0 ⟨x,y,⟨⟩⟩ _ _
 refine vcx (X:=(pre2 (enc x,enc y,()) /\
  ((((if val (enc x)<val (enc y) then 1 else 0:Int) != 0)=true->True/\pre2 (lim 6 (val (enc x)-val (enc y)),ms,())/\Canon Mp (lim 6 (val (lim 6 (val (enc x)-val (enc y)))+val ms))/\(dec (lim 6 (val (lim 6 (val (enc x)-val (enc y)))+val ms)),())=outSub (x,y,())) /\
   (((if val (enc x)<val (enc y) then 1 else 0:Int) != 0)=false->Canon Mp (lim 6 (val (enc x)-val (enc y)))/\(dec (lim 6 (val (enc x)-val (enc y))),())=outSub (x,y,()))))) (by kernel_rfl) ?_
 rw[val_ms]
 refine⟨⟨enc_ws x,enc_ws y⟩,?_⟩
 by_cases h:val (enc x)<val (enc y)
 ·rw[show lim 6 (val (lim 6 (val (enc x)-val (enc y)))+M)=enc (x-y) from sub_enc_lt h]
  exact⟨fun _=>⟨trivial,⟨lim_ws _ _,ws_ms⟩,enc_canon _,by rw[dec_enc]⟩,fun hf=>by simp[h] at hf⟩
 ·rw[show lim 6 (val (enc x)-val (enc y))=enc (x-y) from sub_enc_ge h]
  exact⟨fun hf=>by simp[h] at hf,fun _=>⟨enc_canon _,by rw[dec_enc]⟩⟩
def spSub:Nat × Eng.Spec:=(110,fnSpec [.fp,.fp] [.val .fp] (fun _=>True) outSub)
theorem ent_neg:enters Tryz.prog 142 Tryz.f142:=ek
abbrev outNeg:HL [.fp]->HO [.val .fp]:=fun (x,_)=>(-(x:Fp),())
theorem zero_sub' (x:Fp):0-x=-x:=Zm.ext (by rw[sub_v,neg_v,zero_v];simp)
theorem fn_neg:FnOk Tryz.prog 142 [.fp] [.val .fp] noG (fun _=>True) outNeg:=by
 refine fn_of_vc (sp:=sps [spSub]) (spk (fok fn_sub) snl) mixed ent_neg (by decide) (by decide) ?_
 rintro w M0 ⟨x,⟨⟩⟩ _ _
 refine vcx (X:=(True/\((0:Fp)-x,())=outNeg (x,()))) (by kernel_rfl) ?_
 exact⟨trivial,by rw[zero_sub']⟩
def spNeg:Nat × Eng.Spec:=(142,fnSpec [.fp] [.val .fp] (fun _=>True) outNeg)
theorem ent_zero:enters Tryz.prog 164 Tryz.f164:=ek
abbrev outZero:HL [.fp]->HO [.val .bool]:=fun (x,_)=>(decide ((x:Fp)=0),())
theorem fn_zero:FnOk Tryz.prog 164 [.fp] [.val .bool] noG (fun _=>True) outZero:=by
 refine fn_of_vc (sp:=sps []) snl mixed ent_zero (by decide) (by decide) ?_
 rintro w M0 ⟨x,⟨⟩⟩ _ _
 exact vcx (X:=((decide (x=(0:Fp)),())=outZero (x,()))) (by kernel_rfl) rfl
def spZero:Nat × Eng.Spec:=(164,fnSpec [.fp] [.val .bool] (fun _=>True) outZero)
theorem ent_one:enters Tryz.prog 179 Tryz.f179:=ek
theorem fn_one:FnOk Tryz.prog 179 [] [.val .fp] noG (fun _=>True) (fun _=>((1:Fp),())):=by
 refine fn_of_vc (sp:=sps []) snl mixed ent_one (by decide) (by decide) ?_
 rintro w M0 ⟨⟩ _ _
 refine vcx (X:=(Canon Mp [8505329371266088957,17002214543764226050,6865905132761471162,8632934651105793861,6631298214892334189,1582556514881692819]/\(dec [8505329371266088957,17002214543764226050,6865905132761471162,8632934651105793861,6631298214892334189,1582556514881692819],())=((1:Fp),()))) (by kernel_rfl) ?_
 refine⟨⟨rfl,?_,by decide⟩,?_⟩
 ·intro x hx;simp at hx;rcases hx with rfl|rfl|rfl|rfl|rfl|rfl<;>exact⟨by decide,by decide⟩
 ·rw[show (dec [8505329371266088957,17002214543764226050,6865905132761471162,8632934651105793861,6631298214892334189,1582556514881692819]:Fp)=1 from Zm.ext (by decide)]
def spOne:Nat × Eng.Spec:=(179,fnSpec [] [.val .fp] (fun _=>True) (fun _=>((1:Fp),())))
end
end Go.Proofs.YtbeeaekepmnfhaaGreatDoor.fp
namespace Go.Proofs.YtbeeaekepmnfhaaGreatDoor.fr
noncomputable section
open Go Go.Eng Go.RowKit Cr
abbrev M:Int:=Mr
def ms:List Int:=[18446744069414584321,6034159408538082302,3691218898639771653,8353516859464449352]
abbrev rinv:Int:=Md.rinv Mr
theorem val_ms:val ms=M:=by decide
theorem ws_ms:Ws ms:=by intro x hx;simp[ms] at hx;rcases hx with rfl|rfl|rfl|rfl<;>exact⟨by decide,by decide⟩
theorem M_pos:0<M:=by decide
theorem M_two:2*M<=pw 4:=by decide
theorem pw_rinv:(pw 4*rinv)%M=1%M:=by decide
theorem ent_muladd:enters Tryz.prog 83 Tryz.f83:=ek
abbrev preMuladd:HL [.int .u64,.int .u64,.int .u64,.int .u64]->Prop:=fun (a,b,c,d,_)=>U64 a/\U64 b/\U64 c/\U64 d
abbrev outMuladd:HL [.int .u64,.int .u64,.int .u64,.int .u64]->HO [.val (.int .u64),.val (.int .u64)]:=fun (a,b,c,d,_)=>(((a:Int)*b+c+d)/18446744073709551616,(a*b+c+d)%18446744073709551616,())
theorem fn_muladd:FnOk Tryz.prog 83 [.int .u64,.int .u64,.int .u64,.int .u64] [.val (.int .u64),.val (.int .u64)] noG preMuladd outMuladd:=by
 refine fn_of_vc (sp:=sps [spMul64,spAdd64]) (spk (fok fn_mul64) (spk (fok fn_add64) snl)) mixed ent_muladd (by decide) (by decide) ?_
 rintro w M0 ⟨a,b,c,d,⟨⟩⟩ _ ⟨⟨ha0,ha⟩,⟨hb0,hb⟩,⟨hc0,hc⟩,hd0,hd⟩
 have hab:=mul_bd (m:=18446744073709551615) (n:=18446744073709551615) ha0 (by omega) hb0 (by omega)
 refine vcx (X:=(preMul64 (a,b,())/\preCarry (a*b%18446744073709551616,c,(0:Int),())/\preCarry ((a*b%18446744073709551616+c+0)%18446744073709551616,d,(0:Int),()) /\
   ((((a*b/18446744073709551616+(a*b%18446744073709551616+c+0)/18446744073709551616)%18446744073709551616+((a*b%18446744073709551616+c+0)%18446744073709551616+d+0)/18446744073709551616)%18446744073709551616,
    ((a*b%18446744073709551616+c+0)%18446744073709551616+d+0)%18446744073709551616,()):Int × Int × Unit)=outMuladd (a,b,c,d,()))) (by kernel_rfl) ?_
 refine⟨⟨⟨ha0,ha⟩,hb0,hb⟩,⟨⟨by omega,by omega⟩,⟨hc0,hc⟩,.inl rfl⟩,⟨⟨by omega,by omega⟩,⟨hd0,hd⟩,.inl rfl⟩,?_⟩
 simp only[outMuladd,Prod.mk.injEq,and_true]
 generalize (a:Int)*b=ab at *
 exact⟨by omega,by omega⟩
def spMuladd:Nat × Eng.Spec:=(83,fnSpec [.int .u64,.int .u64,.int .u64,.int .u64] [.val (.int .u64),.val (.int .u64)] preMuladd outMuladd)
abbrev pre2:HL [(.arr 4 (.int .u64)),(.arr 4 (.int .u64))]->Prop:=fun (xs,ys,_)=>Ws xs/\Ws ys
abbrev outMinus:HL [(.arr 4 (.int .u64)),(.arr 4 (.int .u64))]->HO [.val (.arr 4 (.int .u64)),.val (.int .u64)]:=fun (xs,ys,_)=>(lim 4 (val xs-val ys),if val xs<val ys then (1:Int) else 0,())
abbrev outPlus:HL [(.arr 4 (.int .u64)),(.arr 4 (.int .u64))]->HO [.val (.arr 4 (.int .u64))]:=fun (xs,ys,_)=>(lim 4 (val xs+val ys),())
theorem ent_minus:enters Tryz.prog 127 Tryz.f127:=ek
theorem fn_minus:FnOk Tryz.prog 127 [(.arr 4 (.int .u64)),(.arr 4 (.int .u64))] [.val (.arr 4 (.int .u64)),.val (.int .u64)] noG pre2 outMinus:=by
 refine fn_of_vc (sp:=sps [spSub64]) (spk (fok fn_sub64) snl) mixed ent_minus (by decide) (by decide) ?_
 rintro w M0 ⟨xs,ys,⟨⟩⟩ ⟨⟨h1,_⟩,⟨h2,_⟩,_⟩ ⟨hx,hy⟩
 match xs,ys,h1,h2,hx,hy with
 | [a0,a1,a2,a3],[b0,b1,b2,b3],_,_,hx,hy =>
  refine vcx (X:=subPre [a0,a1,a2,a3] [b0,b1,b2,b3] 0 (((subL [a0,a1,a2,a3] [b0,b1,b2,b3] 0).1,(subL [a0,a1,a2,a3] [b0,b1,b2,b3] 0).2,())=outMinus ([a0,a1,a2,a3],[b0,b1,b2,b3],()))) (by kernel_rfl) ?_
  refine subPre_ok _ _ 0 rfl hx hy (.inl rfl) ?_
  obtain⟨e1,e2⟩:=subL_eq (us:=[a0,a1,a2,a3]) (vs:=[b0,b1,b2,b3]) rfl hx hy
  rw[e1,e2]
  rfl
def spMinus:Nat × Eng.Spec:=(127,fnSpec [(.arr 4 (.int .u64)),(.arr 4 (.int .u64))] [.val (.arr 4 (.int .u64)),.val (.int .u64)] pre2 outMinus)
theorem ent_plus:enters Tryz.prog 88 Tryz.f88:=ek
theorem fn_plus:FnOk Tryz.prog 88 [(.arr 4 (.int .u64)),(.arr 4 (.int .u64))] [.val (.arr 4 (.int .u64))] noG pre2 outPlus:=by
 refine fn_of_vc (sp:=sps [spAdd64]) (spk (fok fn_add64) snl) mixed ent_plus (by decide) (by decide) ?_
 rintro w M0 ⟨xs,ys,⟨⟩⟩ ⟨⟨h1,_⟩,⟨h2,_⟩,_⟩ ⟨hx,hy⟩
 match xs,ys,h1,h2,hx,hy with
 | [a0,a1,a2,a3],[b0,b1,b2,b3],_,_,hx,hy =>
  refine vcx (X:=addPre [a0,a1,a2,a3] [b0,b1,b2,b3] 0 (((addL [a0,a1,a2,a3] [b0,b1,b2,b3] 0).1,())=outPlus ([a0,a1,a2,a3],[b0,b1,b2,b3],()))) (by kernel_rfl) ?_
  refine addPre_ok _ _ 0 rfl hx hy (.inl rfl) ?_
  rw[addL_eq (us:=[a0,a1,a2,a3]) (vs:=[b0,b1,b2,b3]) rfl hx hy]
  rfl
def spPlus:Nat × Eng.Spec:=(88,fnSpec [(.arr 4 (.int .u64)),(.arr 4 (.int .u64))] [.val (.arr 4 (.int .u64))] pre2 outPlus)
theorem ent_modulus:enters Tryz.prog 128 Tryz.f128:=ek
theorem fn_modulus:FnOk Tryz.prog 128 [] [.val (.arr 4 (.int .u64))] noG (fun _=>True) (fun _=>(ms,())):=by
 refine fn_of_vc (sp:=sps []) snl mixed ent_modulus (by decide) (by decide) ?_
 intro w M0 xs _ _
 exact vcx (X:=((ms,()):List Int × Unit)=(ms,())) (by kernel_rfl) rfl
def spModulus:Nat × Eng.Spec:=(128,fnSpec [] [.val (.arr 4 (.int .u64))] (fun _=>True) (fun _=>(ms,())))
abbrev preFit:HL [(.arr 4 (.int .u64))]->Prop:=fun (xs,_)=>Ws xs
abbrev outFit:HL [(.arr 4 (.int .u64))]->HO [.val (.arr 4 (.int .u64))]:=fun (xs,_)=>(if val xs<M then xs else lim 4 (val xs-M),())
theorem ent_fit:enters Tryz.prog 84 Tryz.f84:=ek
theorem fn_fit:FnOk Tryz.prog 84 [(.arr 4 (.int .u64))] [.val (.arr 4 (.int .u64))] noG preFit outFit:=by
 refine fn_of_vc (sp:=sps [spMinus,spModulus]) (spk (fok fn_minus) (spk (fok fn_modulus) snl)) mixed ent_fit (by decide) (by decide) ?_
 rintro w M0 ⟨xs,⟨⟩⟩ _ hx
 refine vcx (X:=(True/\(Ws xs/\Ws ms)/\((((if val xs<val ms then 1 else 0:Int) != 0)=true->((xs,()):List Int × Unit)=outFit (xs,()))/\(((if val xs<val ms then 1 else 0:Int) != 0)=false->((lim 4 (val xs-val ms),()):List Int × Unit)=outFit (xs,()))))) (by kernel_rfl) ?_
 refine⟨trivial,⟨hx,ws_ms⟩,?_⟩
 rw[val_ms]
 by_cases h:val xs<M
 ·simp[h,outFit]
 ·simp[h,outFit]
def spFit:Nat × Eng.Spec:=(84,fnSpec [(.arr 4 (.int .u64))] [.val (.arr 4 (.int .u64))] preFit outFit)
abbrev preTimes:HL [(.arr 4 (.int .u64)),(.arr 4 (.int .u64))]->Prop:=fun (xs,ys,_)=>Ws xs/\Ws ys/\val xs<M
abbrev outTimes:HL [(.arr 4 (.int .u64)),(.arr 4 (.int .u64))]->HO [.val (.arr 4 (.int .u64))]:=fun (xs,ys,_)=>(lim 4 (val xs*val ys*rinv%M),())
theorem ent_times:enters Tryz.prog 43 Tryz.f43:=ek
def timesI (xs ys:List Int) (g:Int × List Int):St :=
 mkSt Tryz.f43.ntmps 88 ([(2,.is (.one (.ptr 0 0))),(4,.is (.one (.ptr 16 0)))]++[(7,sI .u64 (g.2.getD 0 0)),(8,sI .u64 (g.2.getD 1 0)),(9,sI .u64 (g.2.getD 2 0)),(10,sI .u64 (g.2.getD 3 0))]++[(14,sA .u64 4 ys),(15,sI .i64 g.1)])
  [(0,[.ints .u64 4 xs]),(16,[.ints .u64 4 (zeros 4)])]
def timesO (g:Int × List Int):St:=mkSt Tryz.f43.ntmps 88 ([(4,.is (.one (.ptr 16 0)))]++[(7,sI .u64 (g.2.getD 0 0)),(8,sI .u64 (g.2.getD 1 0)),(9,sI .u64 (g.2.getD 2 0)),(10,sI .u64 (g.2.getD 3 0))]) [(16,[.ints .u64 4 (zeros 4)])]
def timesN (xs ys:List Int) (g:Int × List Int):Int × List Int:=(IntKind.i64.wrap (g.1+1),stepM 18446744069414584319 xs ms g.2 (ys.getD g.1.toNat 0))
def rowPre:List Int->List Int->List Int->Int->Int->Int->Int->Prop->Prop
 | x::xs,p::ps,t::ts,v,m,a,c,K =>
  preMuladd (x,v,t,a,())/\preMuladd (m,p,(x*v+t+a)%18446744073709551616,c,()) /\
   rowPre xs ps ts v m ((x*v+t+a)/18446744073709551616) ((m*p+(x*v+t+a)%18446744073709551616+c)/18446744073709551616) K
 | _,_,_,_,_,_,_,K=>K
theorem rowPre_ok {K:Prop} {v m:Int} (hv:U64 v) (hm:U64 m) (hK:K):∀ (xs ps ts:List Int) (a c:Int),Ws xs->Ws ps->Ws ts->U64 a->U64 c->rowPre xs ps ts v m a c K:=by
 intro xs
 induction xs with
 | nil=>intro ps ts a c _ _ _ _ _;exact hK
 | cons x xs ih =>
  intro ps ts a c hx hp ht ha hc
  cases ps with
  | nil=>exact hK
  | cons p ps =>
   cases ts with
   | nil=>exact hK
   | cons t ts =>
    have x1:=hx x (by simp)
    have p1:=hp p (by simp)
    have t1:=ht t (by simp)
    have hxv:=mul_bd (m:=18446744073709551615) (n:=18446744073709551615) x1.1 (by have:=x1.2;omega) hv.1 (by have:=hv.2;omega)
    have hmp:=mul_bd (m:=18446744073709551615) (n:=18446744073709551615) hm.1 (by have:=hm.2;omega) p1.1 (by have:=p1.2;omega)
    obtain⟨t2,t3⟩:=t1
    obtain⟨a2,a3⟩:=ha
    obtain⟨c2,c3⟩:=hc
    simp only[rowPre]
    generalize x*v=xv at *
    generalize m*p=mp at *
    refine⟨⟨x1,hv,⟨t2,t3⟩,a2,a3⟩,⟨hm,p1,⟨by omega,by omega⟩,c2,c3⟩,?_⟩
    exact ih ps ts _ _ (fun y hy=>hx y (by simp[hy])) (fun y hy=>hp y (by simp[hy])) (fun y hy=>ht y (by simp[hy])) ⟨by omega,by omega⟩ ⟨by omega,by omega⟩
def stepPre (xs ps ts:List Int) (v:Int) (K:Prop):Prop :=
 match xs,ps,ts with
 | x::xs,p::ps,t::ts =>
  preMuladd (x,v,t,(0:Int),())/\preMuladd (((x*v+t+0)%18446744073709551616)*18446744069414584319%18446744073709551616,p,(x*v+t+0)%18446744073709551616,(0:Int),()) /\
  rowPre xs ps ts v (((x*v+t+0)%18446744073709551616)*18446744069414584319%18446744073709551616) ((x*v+t+0)/18446744073709551616)
   (((((x*v+t+0)%18446744073709551616)*18446744069414584319%18446744073709551616)*p+(x*v+t+0)%18446744073709551616+0)/18446744073709551616) K
 | _,_,_=>K
theorem stepPre_ok {K:Prop} {v:Int} (hv:U64 v) (hK:K) {xs ps ts:List Int} (hx:Ws xs) (hp:Ws ps) (ht:Ws ts):stepPre xs ps ts v K:=by
 unfold stepPre
 split
 ·rename_i x xs p ps t ts
  have x1:=hx x (by simp)
  have p1:=hp p (by simp)
  have t1:=ht t (by simp)
  have hxv:=mul_bd (m:=18446744073709551615) (n:=18446744073709551615) x1.1 (by have:=x1.2;omega) hv.1 (by have:=hv.2;omega)
  obtain⟨t2,t3⟩:=t1
  generalize x*v=xv at *
  generalize hm:((xv+t+0)%18446744073709551616)*18446744069414584319%18446744073709551616=m
  have hm1:U64 m:=⟨by omega,by omega⟩
  have hmp:=mul_bd (m:=18446744073709551615) (n:=18446744073709551615) hm1.1 (by have:=hm1.2;omega) p1.1 (by have:=p1.2;omega)
  generalize m*p=mp at *
  refine⟨⟨x1,hv,⟨t2,t3⟩,by omega,by omega⟩,⟨hm1,p1,⟨by omega,by omega⟩,by omega,by omega⟩,?_⟩
  exact rowPre_ok hv hm1 hK xs ps ts _ _ (fun y hy=>hx y (by simp[hy])) (fun y hy=>hp y (by simp[hy])) (fun y hy=>ht y (by simp[hy])) ⟨by omega,by omega⟩ ⟨by omega,by omega⟩
 ·exact hK
def tsAt (xs ys:List Int) (k:Nat):List Int:=foldM 18446744069414584319 xs ms (List.replicate 4 0) (ys.take k)
def timesJ (xs ys:List Int) (g:Int × List Int):Prop:=∃ k:Nat,k<=4/\g=((k:Int),tsAt xs ys k)
theorem foldM_snoc {can:Int} {xs ps:List Int}:∀ (vs ts:List Int) (v:Int),foldM can xs ps ts (vs++[v])=stepM can xs ps (foldM can xs ps ts vs) v:=by
 intro vs
 induction vs with
 | nil=>intro ts v;rfl
 | cons u vs ih=>intro ts v;exact ih _ _
theorem fn_times:FnOk Tryz.prog 43 [(.arr 4 (.int .u64)),(.arr 4 (.int .u64))] [.val (.arr 4 (.int .u64))] noG preTimes outTimes:=by
 refine fn_of_tr (sp:=sps [spMuladd,spFit]) ent_times (by decide) (by decide) (by kernel_rfl) ?_
 have hsp:SpecsOk Tryz.prog (sps [spMuladd,spFit]):=spk (fok fn_muladd) (spk (fok fn_fit) snl)
 rintro w M0 ⟨xs,ys,⟨⟩⟩ ⟨⟨h1,_⟩,⟨h2,_⟩,_⟩ ⟨hx,hy,hxM⟩
 match xs,h1,hx,hxM with
 | [a0,a1,a2,a3],_,hx,hxM =>
  have hyl:List.length ys=4:=h2
  have hxl:[a0,a1,a2,a3].length=ms.length:=rfl
  have hfold:∀ k,(tsAt [a0,a1,a2,a3] ys k).length=ms.length/\Ws (tsAt [a0,a1,a2,a3] ys k)/\val (tsAt [a0,a1,a2,a3] ys k)<val [a0,a1,a2,a3]+val ms:=by
   intro k
   have:=foldM_spec (cancel:=18446744069414584319) hxl hx ws_ms (by simp[ms]) (by decide) (by rw[val_ms];exact hxM) (by rw[val_ms];exact M_two) (ys.take k) (List.replicate 4 0) (fun y hy'=>hy y (List.mem_of_mem_take hy')) (by rfl)
    (by intro x hx;rw[(List.mem_replicate.1 hx).2];exact⟨by omega,by omega⟩) (by rw[val_ms,show val (List.replicate 4 0)=0 from by decide];have:=val_nonneg hx;have:=M_pos;omega)
   exact⟨this.1,this.2.1,this.2.2.1⟩
  have hmont:=mont_spec (cancel:=18446744069414584319) (xs:=[a0,a1,a2,a3]) (ps:=ms) (ys:=ys) (rinv:=rinv) hxl hyl hx ws_ms hy (by simp[ms]) (by decide) (by rw[val_ms];exact hxM) (by rw[val_ms];exact M_two) (by rw[val_ms];exact pw_rinv)
  rw[val_ms] at hmont
  -- what holds at each round's head
  have J0:timesJ [a0,a1,a2,a3] ys (0,List.replicate 4 0):=⟨0,by omega,by simp[tsAt,foldM]⟩
  show Tr _ _ _ _ _ _ _
  refine tr_cut hsp mixed 3 (timesI [a0,a1,a2,a3] ys (0,List.replicate 4 0)) True ?_ (fun _=>?_)
  ·refine vcx (X:=(timesI [a0,a1,a2,a3] ys (0,List.replicate 4 0)).triv True) (by kernel_rfl) (tvi trivial)
  refine tr_loopN hsp mixed (timesI [a0,a1,a2,a3] ys) (timesJ [a0,a1,a2,a3] ys) (fun g=>(4-g.1).toNat) (timesN [a0,a1,a2,a3] ys) timesO (fun g=>g.2=tsAt [a0,a1,a2,a3] ys 4) (0,List.replicate 4 0) (c:=nthC (codeOf Tryz.f43) 3) (by kernel_rfl) (by kernel_rfl)
   (le_of_proj (by kernel_rfl) (by kernel_rfl) J0) ?_ ?_
  ·rintro g ⟨k,hk,rfl⟩
   obtain⟨f1,f2,f3⟩:=hfold k
   have hts:∃ t0 t1 t2 t3,tsAt [a0,a1,a2,a3] ys k=[t0,t1,t2,t3]:=by
    match tsAt [a0,a1,a2,a3] ys k,f1 with
    | [t0,t1,t2,t3],_=>exact⟨_,_,_,_,rfl⟩
   obtain⟨t0,t1,t2,t3,hts⟩:=hts
   rw[hts] at f2 ⊢
   refine vcx (X:=((decide ((k:Int)<4)=true->(0<=(k:Int)/\(k:Int)<(4:Nat))/\stepPre [a0,a1,a2,a3] ms [t0,t1,t2,t3] (ys.getD (k:Int).toNat 0) ((timesI [a0,a1,a2,a3] ys (timesN [a0,a1,a2,a3] ys ((k:Int),[t0,t1,t2,t3]))).triv (timesJ [a0,a1,a2,a3] ys (timesN [a0,a1,a2,a3] ys ((k:Int),[t0,t1,t2,t3]))/\(4-(timesN [a0,a1,a2,a3] ys ((k:Int),[t0,t1,t2,t3])).1).toNat<(4-(k:Int)).toNat)))
    /\ (decide ((k:Int)<4)=false->(timesO ((k:Int),[t0,t1,t2,t3])).triv ([t0,t1,t2,t3]=tsAt [a0,a1,a2,a3] ys 4)))) (by kernel_rfl) ?_
   constructor
   ·intro hlt
    have hlt:k<4:=by have:=of_decide_eq_true hlt;omega
    have hv:U64 (ys.getD (k:Int).toNat 0):=by
     rw[List.getD_eq_getElem?_getD,Int.toNat_natCast,List.getElem?_eq_getElem (by omega)]
     exact hy _ (List.getElem_mem _)
    refine⟨⟨by omega,by omega⟩,stepPre_ok hv (tvi ⟨⟨k+1,by omega,?_⟩,?_⟩) hx ws_ms f2⟩
    ·have e1:IntKind.i64.wrap ((k:Int)+1)=((k+1:Nat):Int):=by rw[wrap_i64 (by omega) (by omega)];omega
     have e2:tsAt [a0,a1,a2,a3] ys (k+1)=stepM 18446744069414584319 [a0,a1,a2,a3] ms (tsAt [a0,a1,a2,a3] ys k) (ys.getD (k:Int).toNat 0):=by
      unfold tsAt
      rw[List.take_succ_eq_append_getElem (by omega),foldM_snoc]
      rw[List.getD_eq_getElem?_getD,Int.toNat_natCast,List.getElem?_eq_getElem (by omega)]
      rfl
     show (IntKind.i64.wrap ((k:Int)+1),stepM 18446744069414584319 [a0,a1,a2,a3] ms [t0,t1,t2,t3] (ys.getD (k:Int).toNat 0))=_
     rw[e1,e2,hts]
    ·show (4-IntKind.i64.wrap ((k:Int)+1)).toNat<_
     rw[wrap_i64 (by omega) (by omega)];omega
   ·intro hge
    have hge:k=4:=by
     have:=of_decide_eq_false hge
     omega
    refine tvi ?_
    rw[<- hts,hge]
  ·rintro⟨i,ts⟩ hts
   have hts:ts=tsAt [a0,a1,a2,a3] ys 4:=hts
   obtain⟨f1,f2,f3⟩:=hfold 4
   have hall:ys.take 4=ys:=List.take_of_length_le (by omega)
   have hts2:∃ t0 t1 t2 t3,tsAt [a0,a1,a2,a3] ys 4=[t0,t1,t2,t3]:=by
    match tsAt [a0,a1,a2,a3] ys 4,f1 with
    | [t0,t1,t2,t3],_=>exact⟨_,_,_,_,rfl⟩
   obtain⟨t0,t1,t2,t3,hts2⟩:=hts2
   subst hts
   rw[hts2] at f2 ⊢
   refine tr_vc hsp mixed _ _ ?_
   refine vcx (X:=(Ws [t0,t1,t2,t3]/\((if val [t0,t1,t2,t3]<M then [t0,t1,t2,t3] else lim 4 (val [t0,t1,t2,t3]-M),()):List Int × Unit)=outTimes ([a0,a1,a2,a3],ys,()))) (by kernel_rfl) ?_
   refine⟨f2,?_⟩
   have e:foldM 18446744069414584319 [a0,a1,a2,a3] ms (List.replicate ms.length 0) ys=[t0,t1,t2,t3]:=by
    have:=hts2
    unfold tsAt at this
    rw[hall] at this
    exact this
   rw[e] at hmont
   obtain⟨m1,m2,m3,m4⟩:=hmont
   have m0:=val_nonneg m2
   have hM:=M_pos
   simp only[outTimes,Prod.mk.injEq,and_true]
   rw[<- m4]
   split
   ·rename_i hlt
    rw[Int.emod_eq_of_lt m0 hlt]
    exact (lim_val f2).symm
   ·rename_i hge
    rw[show val [t0,t1,t2,t3]%M=val [t0,t1,t2,t3]-M from by
     rw[<- Int.sub_emod_right,Int.emod_eq_of_lt (by omega) (by omega)]]
def spTimes:Nat × Eng.Spec:=(43,fnSpec [(.arr 4 (.int .u64)),(.arr 4 (.int .u64))] [.val (.arr 4 (.int .u64))] preTimes outTimes)
end
end Go.Proofs.YtbeeaekepmnfhaaGreatDoor.fr
namespace Go.Proofs.YtbeeaekepmnfhaaGreatDoor.fr
noncomputable section
open Go Go.Eng Go.RowKit Cr
theorem ent_mul:enters Tryz.prog 46 Tryz.f46:=ek
abbrev outMul:HL [.fr,.fr]->HO [.val .fr]:=fun (x,y,_)=>((x:Fr)*y,())
theorem fn_mul:FnOk Tryz.prog 46 [.fr,.fr] [.val .fr] noG (fun _=>True) outMul:=by
 refine fn_of_vc (sp:=sps [spTimes]) (spk (fok fn_times) snl) mixed ent_mul (by decide) (by decide) ?_
 rintro w M0 ⟨x,y,⟨⟩⟩ _ _
 refine vcx (X:=(preTimes (enc x,enc y,())/\Canon Mr (lim 4 (val (enc x)*val (enc y)*rinv%M))/\(dec (lim 4 (val (enc x)*val (enc y)*rinv%M)),())=outMul (x,y,()))) (by kernel_rfl) ?_
 rw[show lim 4 (val (enc x)*val (enc y)*rinv%M)=enc (x*y) from times_enc x y]
 exact⟨⟨enc_ws x,enc_ws y,(enc_canon x).2.2⟩,enc_canon _,by rw[dec_enc]⟩
def spMul:Nat × Eng.Spec:=(46,fnSpec [.fr,.fr] [.val .fr] (fun _=>True) outMul)
theorem ent_square:enters Tryz.prog 86 Tryz.f86:=ek
abbrev outSquare:HL [.fr]->HO [.val .fr]:=fun (x,_)=>((x:Fr)*x,())
theorem fn_square:FnOk Tryz.prog 86 [.fr] [.val .fr] noG (fun _=>True) outSquare:=by
 refine fn_of_vc (sp:=sps [spTimes]) (spk (fok fn_times) snl) mixed ent_square (by decide) (by decide) ?_
 rintro w M0 ⟨x,⟨⟩⟩ _ _
 refine vcx (X:=(preTimes (enc x,enc x,())/\Canon Mr (lim 4 (val (enc x)*val (enc x)*rinv%M))/\(dec (lim 4 (val (enc x)*val (enc x)*rinv%M)),())=outSquare (x,()))) (by kernel_rfl) ?_
 rw[show lim 4 (val (enc x)*val (enc x)*rinv%M)=enc (x*x) from times_enc x x]
 exact⟨⟨enc_ws x,enc_ws x,(enc_canon x).2.2⟩,enc_canon _,by rw[dec_enc]⟩
def spSquare:Nat × Eng.Spec:=(86,fnSpec [.fr] [.val .fr] (fun _=>True) outSquare)
theorem ent_add:enters Tryz.prog 47 Tryz.f47:=ek
abbrev outAdd:HL [.fr,.fr]->HO [.val .fr]:=fun (x,y,_)=>((x:Fr)+y,())
theorem fn_add:FnOk Tryz.prog 47 [.fr,.fr] [.val .fr] noG (fun _=>True) outAdd:=by
 refine fn_of_vc (sp:=sps [spFit,spPlus]) (spk (fok fn_fit) (spk (fok fn_plus) snl)) mixed ent_add (by decide) (by decide) ?_
 rintro w M0 ⟨x,y,⟨⟩⟩ _ _
 refine vcx (X:=(pre2 (enc x,enc y,())/\preFit (lim 4 (val (enc x)+val (enc y)),()) /\
  Canon Mr (if val (lim 4 (val (enc x)+val (enc y)))<M then lim 4 (val (enc x)+val (enc y)) else lim 4 (val (lim 4 (val (enc x)+val (enc y)))-M)) /\
  (dec (if val (lim 4 (val (enc x)+val (enc y)))<M then lim 4 (val (enc x)+val (enc y)) else lim 4 (val (lim 4 (val (enc x)+val (enc y)))-M)),())=outAdd (x,y,()))) (by kernel_rfl) ?_
 rw[show (if val (lim 4 (val (enc x)+val (enc y)))<M then lim 4 (val (enc x)+val (enc y)) else lim 4 (val (lim 4 (val (enc x)+val (enc y)))-M))=enc (x+y) from add_enc x y]
 exact⟨⟨enc_ws x,enc_ws y⟩,lim_ws _ _,enc_canon _,by rw[dec_enc]⟩
def spAdd:Nat × Eng.Spec:=(47,fnSpec [.fr,.fr] [.val .fr] (fun _=>True) outAdd)
theorem ent_sub:enters Tryz.prog 111 Tryz.f111:=ek
abbrev outSub:HL [.fr,.fr]->HO [.val .fr]:=fun (x,y,_)=>((x:Fr)-y,())
theorem fn_sub:FnOk Tryz.prog 111 [.fr,.fr] [.val .fr] noG (fun _=>True) outSub:=by
 refine fn_of_vc (sp:=sps [spMinus,spPlus,spModulus]) (spk (fok fn_minus) (spk (fok fn_plus) (spk (fok fn_modulus) snl))) mixed ent_sub (by decide) (by decide) ?_
 rintro w M0 ⟨x,y,⟨⟩⟩ _ _
 refine vcx (X:=(pre2 (enc x,enc y,()) /\
  ((((if val (enc x)<val (enc y) then 1 else 0:Int) != 0)=true->True/\pre2 (lim 4 (val (enc x)-val (enc y)),ms,())/\Canon Mr (lim 4 (val (lim 4 (val (enc x)-val (enc y)))+val ms))/\(dec (lim 4 (val (lim 4 (val (enc x)-val (enc y)))+val ms)),())=outSub (x,y,())) /\
   (((if val (enc x)<val (enc y) then 1 else 0:Int) != 0)=false->Canon Mr (lim 4 (val (enc x)-val (enc y)))/\(dec (lim 4 (val (enc x)-val (enc y))),())=outSub (x,y,()))))) (by kernel_rfl) ?_
 rw[val_ms]
 refine⟨⟨enc_ws x,enc_ws y⟩,?_⟩
 by_cases h:val (enc x)<val (enc y)
 ·rw[show lim 4 (val (lim 4 (val (enc x)-val (enc y)))+M)=enc (x-y) from sub_enc_lt h]
  exact⟨fun _=>⟨trivial,⟨lim_ws _ _,ws_ms⟩,enc_canon _,by rw[dec_enc]⟩,fun hf=>by simp[h] at hf⟩
 ·rw[show lim 4 (val (enc x)-val (enc y))=enc (x-y) from sub_enc_ge h]
  exact⟨fun hf=>by simp[h] at hf,fun _=>⟨enc_canon _,by rw[dec_enc]⟩⟩
def spSub:Nat × Eng.Spec:=(111,fnSpec [.fr,.fr] [.val .fr] (fun _=>True) outSub)
theorem ent_neg:enters Tryz.prog 68 Tryz.f68:=ek
abbrev outNeg:HL [.fr]->HO [.val .fr]:=fun (x,_)=>(-(x:Fr),())
theorem zero_sub' (x:Fr):0-x=-x:=Zm.ext (by rw[sub_v,neg_v,zero_v];simp)
theorem fn_neg:FnOk Tryz.prog 68 [.fr] [.val .fr] noG (fun _=>True) outNeg:=by
 refine fn_of_vc (sp:=sps [spSub]) (spk (fok fn_sub) snl) mixed ent_neg (by decide) (by decide) ?_
 rintro w M0 ⟨x,⟨⟩⟩ _ _
 refine vcx (X:=(True/\((0:Fr)-x,())=outNeg (x,()))) (by kernel_rfl) ?_
 exact⟨trivial,by rw[zero_sub']⟩
def spNeg:Nat × Eng.Spec:=(68,fnSpec [.fr] [.val .fr] (fun _=>True) outNeg)
theorem ent_one:enters Tryz.prog 85 Tryz.f85:=ek
theorem fn_one:FnOk Tryz.prog 85 [] [.val .fr] noG (fun _=>True) (fun _=>((1:Fr),())):=by
 refine fn_of_vc (sp:=sps []) snl mixed ent_one (by decide) (by decide) ?_
 rintro w M0 ⟨⟩ _ _
 refine vcx (X:=(Canon Mr [8589934590,6378425256633387010,11064306276430008309,1739710354780652911]/\(dec [8589934590,6378425256633387010,11064306276430008309,1739710354780652911],())=((1:Fr),()))) (by kernel_rfl) ?_
 refine⟨⟨rfl,?_,by decide⟩,?_⟩
 ·intro x hx;simp at hx;rcases hx with rfl|rfl|rfl|rfl<;>exact⟨by decide,by decide⟩
 ·rw[show (dec [8589934590,6378425256633387010,11064306276430008309,1739710354780652911]:Fr)=1 from Zm.ext (by decide)]
def spOne:Nat × Eng.Spec:=(85,fnSpec [] [.val .fr] (fun _=>True) (fun _=>((1:Fr),())))
end
end Go.Proofs.YtbeeaekepmnfhaaGreatDoor.fr
