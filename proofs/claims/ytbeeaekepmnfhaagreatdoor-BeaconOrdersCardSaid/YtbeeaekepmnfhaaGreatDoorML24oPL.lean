import Derived.Test.YtbeeaekepmnfhaaGreatDoorProg
import Derived.Test.YtbeeaekepmnfhaaGreatDoorML24oPK
set_option maxRecDepth 100000
open Go.IntKind(i64 u64)
namespace Go.Proofs.YtbeeaekepmnfhaaGreatDoor
open Go Go.Eng Go.RowKit Cr
theorem mixed:Tryz.prog.follows .mixedOrders=true:=by kernel_rfl
theorem iZ {a:Int} (h0:0<=a) (h1:a<18446744073709551616):u64.wrap a=a:=by
 simp only[IntKind.wrap,IntKind.signed,IntKind.bits]
 simp only[Bool.false_and]
 exact Int.emod_eq_of_lt h0 (by simpa using h1)
theorem te (a:Int):u64.wrap a=a%18446744073709551616:=by
 simp[IntKind.wrap,IntKind.signed,IntKind.bits]
theorem wrap_i64 {a:Int} (h0 : -9223372036854775808<=a) (h1:a<9223372036854775808):i64.wrap a=a:=by
 have e:i64.wrap a=if (9223372036854775808:Int)<=a%18446744073709551616 then a%18446744073709551616-18446744073709551616 else a%18446744073709551616:=by
  simp[IntKind.wrap,IntKind.signed,IntKind.bits]
 rw[e]
 split<;>omega
theorem xl (n:Nat) (h:n<18446744073709551616):(BitVec.ofInt 64 (n:Int)).toNat=n:=by
 rw[show BitVec.ofInt 64 (n:Int)=BitVec.ofNat 64 n from by simp,BitVec.toNat_ofNat,Nat.mod_eq_of_lt (by omega)]
theorem Jq (n m:Nat) (hn:n<18446744073709551616) (hm:m<18446744073709551616):av .and .u64 n m=((n &&& m:Nat):Int):=by
 show u64.wrap ((BitVec.ofInt 64 n &&& BitVec.ofInt 64 m:BitVec 64).toNat:Int)=_
 rw[BitVec.toNat_and,xl n hn,xl m hm,iZ (by omega)]
 have:=Nat.and_le_left (n:=n) (m:=m)
 omega
theorem AH {a:Int} (h0:0<=a) (h1:a<18446744073709551616):av .and .u64 a 4294967295=a%4294967296:=by
 obtain⟨n,rfl⟩:=Int.eq_ofNat_of_zero_le h0
 have:=Jq n 4294967295 (by omega) (by omega)
 rw[show ((4294967295:Nat):Int)=4294967295 from rfl] at this
 rw[this]
 have h:=Nat.and_two_pow_sub_one_eq_mod n 32
 rw[show 2^32-1=4294967295 from rfl] at h
 rw[h]
 omega
theorem Pn (a1 a0 b1 b0:Int):(a1*4294967296+a0)*(b1*4294967296+b0)=a1*b1*18446744073709551616+(a1*b0)*4294967296+(a0*b1)*4294967296+a0*b0:=by
 grind
theorem jy {x y m n:Int} (hx0:0<=x) (hx:x<=m) (hy0:0<=y) (hy:y<=n):0<=x*y/\x*y<=m*n:=by
 refine⟨Int.mul_nonneg hx0 hy0,Int.mul_le_mul hx hy hy0 (by omega)⟩
def RO (a b:Int):Int :=
 let s:=fun x:Int=>Int.fdiv x (2^min (Int.toNat 32) u64.bits)
 let m:=fun x:Int=>av .and .u64 x 4294967295
 let W:=u64.wrap
 let t:=W (W (s a*m b)+s (W (m a*m b)))
 W (W (W (s a*s b)+s t)+s (W (m t+W (m a*s b))))
theorem Wa {a b:Int} (ha0:0<=a) (ha:a<18446744073709551616) (hb0:0<=b) (hb:b<18446744073709551616):RO a b=a*b/18446744073709551616:=by
 have hs:∀ x:Int,Int.fdiv x (2^min (Int.toNat 32) u64.bits)=x/4294967296:=by
  intro x
  rw[show (2:Int)^min (Int.toNat 32) u64.bits=4294967296 from by decide]
  exact Int.fdiv_eq_ediv_of_nonneg x (by decide)
 unfold RO
 simp only[hs,AH ha0 ha,AH hb0 hb]
 have ea:a=(a/4294967296)*4294967296+a%4294967296:=by omega
 have eb:b=(b/4294967296)*4294967296+b%4294967296:=by omega
 have key:=Pn (a/4294967296) (a%4294967296) (b/4294967296) (b%4294967296)
 rw[<- ea,<- eb] at key
 have d1:=jy (x:=a/4294967296) (y:=b/4294967296) (m:=4294967295) (n:=4294967295) (by omega) (by omega) (by omega) (by omega)
 have d2:=jy (x:=a/4294967296) (y:=b%4294967296) (m:=4294967295) (n:=4294967295) (by omega) (by omega) (by omega) (by omega)
 have d3:=jy (x:=a%4294967296) (y:=b/4294967296) (m:=4294967295) (n:=4294967295) (by omega) (by omega) (by omega) (by omega)
 have d4:=jy (x:=a%4294967296) (y:=b%4294967296) (m:=4294967295) (n:=4294967295) (by omega) (by omega) (by omega) (by omega)
 generalize a*b=ab at *
 generalize (a/4294967296)*(b/4294967296)=p11 at *
 generalize (a/4294967296)*(b%4294967296)=p10 at *
 generalize (a%4294967296)*(b/4294967296)=p01 at *
 generalize (a%4294967296)*(b%4294967296)=p00 at *
 rw[iZ (a:=p00) (by omega) (by omega),iZ (a:=p10) (by omega) (by omega),iZ (a:=p01) (by omega) (by omega),iZ (a:=p11) (by omega) (by omega)]
 rw[iZ (a:=p10+p00/4294967296) (by omega) (by omega)]
 rw[AH (a:=p10+p00/4294967296) (by omega) (by omega)]
 rw[iZ (a:=(p10+p00/4294967296)%4294967296+p01) (by omega) (by omega)]
 rw[iZ (a:=p11+(p10+p00/4294967296)/4294967296) (by omega) (by omega)]
 rw[iZ (by omega) (by omega)]
 omega
theorem Oa:enters Tryz.prog 125 Tryz.f125:=ek
abbrev wD:HL [.int .u64,.int .u64]->Prop:=fun (a,b,_)=>dF a/\dF b
abbrev Bb:HL [.int .u64,.int .u64]->HO [.val (.int .u64),.val (.int .u64)]:=fun (a,b,_)=>((a:Int)*b/18446744073709551616,(a:Int)*b%18446744073709551616,())
theorem Gq:aB Tryz.prog 125 [.int .u64,.int .u64] [.val (.int .u64),.val (.int .u64)] aM wD Bb:=by
 refine ax aR mixed Oa (by decide) (by decide) ?_
 rintro w M ⟨a,b,⟨⟩⟩ _ ⟨⟨ha0,ha⟩,hb0,hb⟩
 refine ao (X:=((0:Int)<=32/\(0:Int)<=32/\(0:Int)<=32/\(0:Int)<=32/\(0:Int)<=32/\(((RO a b,u64.wrap (a*b),()):Int × Int × Unit)=Bb (a,b,())))) (by kernel_rfl) ?_
 refine⟨by decide,by decide,by decide,by decide,by decide,?_⟩
 rw[Wa ha0 ha hb0 hb,te]
abbrev jP:HL [.int .u64,.int .u64,.int .u64]->Prop:=fun (a,b,c,_)=>dF a/\dF b/\((c:Int)=0\/(c:Int)=1)
abbrev Hh:HL [.int .u64,.int .u64,.int .u64]->HO [.val (.int .u64),.val (.int .u64)]:=fun (a,b,c,_)=>(((a:Int)+b+c)%18446744073709551616,((a:Int)+b+c)/18446744073709551616,())
abbrev Hl:HL [.int .u64,.int .u64,.int .u64]->HO [.val (.int .u64),.val (.int .u64)]:=fun (a,b,c,_)=>(((a:Int)-b-c)%18446744073709551616,(if (a:Int)<b+c then (1:Int) else 0),())
theorem EW (a b:Int) (w:World):(callFunc 126 #[.int .u64 a,.int .u64 b,.int .u64 0]).run Tryz.prog w=.ok (.value (.tuple #[.int .u64 (Int.ofNat ((a.toNat+b.toNat+0)%18446744073709551616)),.int .u64 (Int.ofNat ((a.toNat+b.toNat+0)/18446744073709551616))])) w /\
  (callFunc 126 #[.int .u64 a,.int .u64 b,.int .u64 1]).run Tryz.prog w=.ok (.value (.tuple #[.int .u64 (Int.ofNat ((a.toNat+b.toNat+1)%18446744073709551616)),.int .u64 (Int.ofNat ((a.toNat+b.toNat+1)/18446744073709551616))])) w:=by
 constructor<;>kernel_rfl
theorem EY (a b:Int) (w:World):(callFunc 171 #[.int .u64 a,.int .u64 b,.int .u64 0]).run Tryz.prog w=.ok (.value (.tuple #[.int .u64 (Int.ofNat ((a.toNat+18446744073709551616-b.toNat-0)%18446744073709551616)),.int .u64 (Int.ofNat (if a.toNat<b.toNat+0 then 1 else 0))])) w /\
  (callFunc 171 #[.int .u64 a,.int .u64 b,.int .u64 1]).run Tryz.prog w=.ok (.value (.tuple #[.int .u64 (Int.ofNat ((a.toNat+18446744073709551616-b.toNat-1)%18446744073709551616)),.int .u64 (Int.ofNat (if a.toNat<b.toNat+1 then 1 else 0))])) w:=by
 constructor<;>kernel_rfl
theorem vV:aB Tryz.prog 126 [.int .u64,.int .u64,.int .u64] [.val (.int .u64),.val (.int .u64)] aM jP Hh:=by
 rintro w M us ⟨a,b,c,⟨⟩⟩ _ _ ⟨u1,_,rfl,h1,u2,_,rfl,h2,u3,_,rfl,h3,rfl⟩ ⟨⟨ha0,ha⟩,⟨hb0,hb⟩,hc⟩
 have e1:u1=.int .u64 a:=by have:[u1]=[Value.int .u64 a]:=h1;simpa using this
 have e2:u2=.int .u64 b:=by have:[u2]=[Value.int .u64 b]:=h2;simpa using this
 have e3:u3=.int .u64 c:=by have:[u3]=[Value.int .u64 c]:=h3;simpa using this
 subst e1 e2 e3
 refine .inr ?_
 ·obtain⟨n,rfl⟩:=Int.eq_ofNat_of_zero_le ha0
  obtain⟨m,rfl⟩:=Int.eq_ofNat_of_zero_le hb0
  have e:∀ c:Nat,(Value.tuple #[.int .u64 (Int.ofNat (((n:Int).toNat+(m:Int).toNat+c)%18446744073709551616)),.int .u64 (Int.ofNat (((n:Int).toNat+(m:Int).toNat+c)/18446744073709551616))])=.tuple #[.int .u64 (((n:Int)+m+c)%18446744073709551616),.int .u64 (((n:Int)+m+c)/18446744073709551616)]:=by
   intro c;congr 3
  rcases hc with rfl|rfl
  ·exact⟨_,w,(EW n m w).1,[_,_],none,e 0,⟨_,_,rfl,rfl,_,_,rfl,rfl,rfl⟩,Below.refl _ _⟩
  ·exact⟨_,w,(EW n m w).2,[_,_],none,e 1,⟨_,_,rfl,rfl,_,_,rfl,rfl,rfl⟩,Below.refl _ _⟩
theorem Gt:aB Tryz.prog 171 [.int .u64,.int .u64,.int .u64] [.val (.int .u64),.val (.int .u64)] aM jP Hl:=by
 rintro w M us ⟨a,b,c,⟨⟩⟩ _ _ ⟨u1,_,rfl,h1,u2,_,rfl,h2,u3,_,rfl,h3,rfl⟩ ⟨⟨ha0,ha⟩,⟨hb0,hb⟩,hc⟩
 have e1:u1=.int .u64 a:=by have:[u1]=[Value.int .u64 a]:=h1;simpa using this
 have e2:u2=.int .u64 b:=by have:[u2]=[Value.int .u64 b]:=h2;simpa using this
 have e3:u3=.int .u64 c:=by have:[u3]=[Value.int .u64 c]:=h3;simpa using this
 subst e1 e2 e3
 refine .inr ?_
 ·obtain⟨n,rfl⟩:=Int.eq_ofNat_of_zero_le ha0
  obtain⟨m,rfl⟩:=Int.eq_ofNat_of_zero_le hb0
  have e:∀ c:Nat,c<=1->(Value.tuple #[.int .u64 (Int.ofNat (((n:Int).toNat+18446744073709551616-(m:Int).toNat-c)%18446744073709551616)),.int .u64 (Int.ofNat (if (n:Int).toNat<(m:Int).toNat+c then 1 else 0))])=.tuple #[.int .u64 (((n:Int)-m-c)%18446744073709551616),.int .u64 (if (n:Int)<m+c then 1 else 0)]:=by
   intro c hc
   have e1:(Int.ofNat (((n:Int).toNat+18446744073709551616-(m:Int).toNat-c)%18446744073709551616))=((n:Int)-m-c)%18446744073709551616:=by
    simp only[Int.toNat_natCast,Int.ofNat_eq_natCast];omega
   have e2:(Int.ofNat (if (n:Int).toNat<(m:Int).toNat+c then 1 else 0))=(if (n:Int)<m+c then 1 else 0):=by
    simp only[Int.toNat_natCast,Int.ofNat_eq_natCast]
    split<;>split<;>omega
   rw[e1,e2]
  rcases hc with rfl|rfl
  ·exact⟨_,w,(EY n m w).1,[_,_],none,e 0 (by omega),⟨_,_,rfl,rfl,_,_,rfl,rfl,rfl⟩,Below.refl _ _⟩
  ·exact⟨_,w,(EY n m w).2,[_,_],none,e 1 (by omega),⟨_,_,rfl,rfl,_,_,rfl,rfl,rfl⟩,Below.refl _ _⟩
noncomputable def La:Nat × Eng.Spec:=(125,ar [.int .u64,.int .u64] [.val (.int .u64),.val (.int .u64)] wD Bb)
noncomputable def zY:Nat × Eng.Spec:=(126,ar [.int .u64,.int .u64,.int .u64] [.val (.int .u64),.val (.int .u64)] jP Hh)
noncomputable def Lc:Nat × Eng.Spec:=(171,ar [.int .u64,.int .u64,.int .u64] [.val (.int .u64),.val (.int .u64)] jP Hl)
def CR:List Int->List Int->Int->Prop->Prop
 | a::us,b::vs,k,K=>jP (a,b,k,())/\CR us vs (if a<b+k then 1 else 0) K
 | _,_,_,K=>K
theorem E2 {K:Prop}:∀ (us vs:List Int) (k:Int),us.length=vs.length->Ws us->Ws vs->(k=0\/k=1)->K->CR us vs k K:=by
 intro us
 induction us with
 | nil=>intro vs k h _ _ _ hK;exact hK
 | cons a us ih =>
  intro vs k h ha hb hk hK
  cases vs with
  | nil=>simp at h
  | cons b vs=>exact⟨⟨ha a (by simp),hb b (by simp),hk⟩,ih vs _ (by simpa using h) (fun y hy=>ha y (by simp[hy])) (fun y hy=>hb y (by simp[hy])) (by split<;>simp) hK⟩
def BM:List Int->List Int->Int->Prop->Prop
 | a::us,b::vs,k,K=>jP (a,b,k,())/\BM us vs ((a+b+k)/18446744073709551616) K
 | _,_,_,K=>K
theorem Et {K:Prop}:∀ (us vs:List Int) (k:Int),us.length=vs.length->Ws us->Ws vs->(k=0\/k=1)->K->BM us vs k K:=by
 intro us
 induction us with
 | nil=>intro vs k h _ _ _ hK;exact hK
 | cons a us ih =>
  intro vs k h ha hb hk hK
  cases vs with
  | nil=>simp at h
  | cons b vs =>
   obtain⟨a0,a1⟩:=ha a (by simp)
   obtain⟨b0,b1⟩:=hb b (by simp)
   exact⟨⟨⟨a0,a1⟩,⟨b0,b1⟩,hk⟩,ih vs _ (by simpa using h) (fun y hy=>ha y (by simp[hy])) (fun y hy=>hb y (by simp[hy])) (by omega) hK⟩
end Go.Proofs.YtbeeaekepmnfhaaGreatDoor
namespace Cr
def yI:List Int->List Int->List Int->Int->Int->Int->Int->List Int
 | x::xs,p::ps,t::ts,v,m,a,c =>
  (m*p+(x*v+t+a)%18446744073709551616+c)%18446744073709551616 ::
   yI xs ps ts v m ((x*v+t+a)/18446744073709551616) ((m*p+(x*v+t+a)%18446744073709551616+c)/18446744073709551616)
 | _,_,_,_,_,a,c=>[(a+c)%18446744073709551616]
theorem PV {v m:Int} (hv:0<=v) (hm:0<=m):∀ (xs ps ts:List Int) (a c:Int),xs.length=ps.length->ps.length=ts.length->Ws xs->Ws ps->Ws ts->0<=a->0<=c ->
  (yI xs ps ts v m a c).length=xs.length+1/\Ws (yI xs ps ts v m a c) /\
  ∃ q,0<=q/\val (yI xs ps ts v m a c)+pw (xs.length+1)*q=val xs*v+val ts+m*val ps+a+c:=by
 intro xs
 induction xs with
 | nil =>
  intro ps ts a c h1 h2 _ _ _ ha hc
  have e1:ps=[]:=by cases ps with|nil=>rfl|cons _ _=>simp at h1
  subst e1
  have e2:ts=[]:=by cases ts with|nil=>rfl|cons _ _=>simp at h2
  subst e2
  refine⟨rfl,?_,(a+c)/18446744073709551616,by omega,?_⟩
  ·intro x hx
   simp only[yI,List.mem_singleton] at hx
   subst hx;exact⟨by omega,by omega⟩
  ·simp only[yI,val,pw,List.length_nil,Int.mul_zero];omega
 | cons x xs ih =>
  intro ps ts a c h1 h2 hx hp ht ha hc
  cases ps with
  | nil=>simp at h1
  | cons p ps =>
   cases ts with
   | nil=>simp at h2
   | cons t ts =>
    obtain⟨x0,x1⟩:=hx x (by simp)
    obtain⟨p0,p1⟩:=hp p (by simp)
    obtain⟨t0,t1⟩:=ht t (by simp)
    have hxv:0<=x*v:=Int.mul_nonneg x0 hv
    have cD:0<=m*p:=Int.mul_nonneg hm p0
    simp only[yI]
    generalize hu:x*v+t+a=u
    generalize hz:m*p+u%18446744073709551616+c=z
    obtain⟨g1,g2,q,g3,g4⟩:=ih ps ts (u/18446744073709551616) (z/18446744073709551616) (by simpa using h1) (by simpa using h2) (fun y hy=>hx y (by simp[hy])) (fun y hy=>hp y (by simp[hy])) (fun y hy=>ht y (by simp[hy])) (by omega) (by omega)
    refine⟨by simp[g1],?_,q,g3,?_⟩
    ·intro y hy
     simp only[List.mem_cons] at hy
     rcases hy with rfl|hy
     ·exact⟨by omega,by omega⟩
     ·exact g2 y hy
    ·simp only[val,List.length_cons]
     rw[show pw (xs.length+1+1)=18446744073709551616*pw (xs.length+1) from rfl,Int.mul_assoc]
     rw[show (x+18446744073709551616*val xs)*v=x*v+18446744073709551616*(val xs*v) from by rw[Int.add_mul,Int.mul_assoc]]
     rw[show m*(p+18446744073709551616*val ps)=m*p+18446744073709551616*(m*val ps) from by rw[Int.mul_add,Int.mul_left_comm]]
     generalize pw (xs.length+1)*q=A at *
     generalize val xs*v=C at *
     generalize m*val ps=D at *
     generalize x*v=G at *
     generalize m*p=H at *
     omega
def kT (cancel:Int):List Int->List Int->List Int->Int->List Int
 | x::xs,p::ps,t::ts,v =>
  yI xs ps ts v (((x*v+t+0)%18446744073709551616)*cancel%18446744073709551616) ((x*v+t+0)/18446744073709551616)
   (((((x*v+t+0)%18446744073709551616)*cancel%18446744073709551616)*p+(x*v+t+0)%18446744073709551616+0)/18446744073709551616)
 | _,_,_,_=>[]
theorem Ng {cancel v:Int} {xs ps ts:List Int} (h1:xs.length=ps.length) (h2:ps.length=ts.length) (hx:Ws xs) (hp:Ws ps) (ht:Ws ts) (hne:ps≠[]) (hv:dF v)
  (hc:(ps.headD 0*cancel+1)%18446744073709551616=0) (hb:val ts<val xs+val ps) (hxp:val xs<val ps) (h2p:2*val ps<=pw ps.length) :
  (kT cancel xs ps ts v).length=ts.length/\Ws (kT cancel xs ps ts v)/\val (kT cancel xs ps ts v)<val xs+val ps /\
  ∃ m,18446744073709551616*val (kT cancel xs ps ts v)=val xs*v+val ts+m*val ps:=by
 obtain⟨hv0,hv1⟩:=hv
 cases ps with
 | nil=>exact absurd rfl hne
 | cons p ps =>
 cases xs with
 | nil=>simp at h1
 | cons x xs =>
 cases ts with
 | nil=>simp at h2
 | cons t ts =>
  obtain⟨x0,x1⟩:=hx x (by simp)
  obtain⟨p0,p1⟩:=hp p (by simp)
  obtain⟨t0,t1⟩:=ht t (by simp)
  have hxv:0<=x*v:=Int.mul_nonneg x0 hv0
  simp only[kT]
  generalize hu:x*v+t+0=u
  generalize hs:u%18446744073709551616=s
  generalize hm:s*cancel%18446744073709551616=m
  have hm0:0<=m/\m<18446744073709551616:=by omega
  have cD:0<=m*p:=Int.mul_nonneg hm0.1 p0
  -- m p+s is a multiple of 2^64
  have hdiv:(m*p+s+0)%18446744073709551616=0:=by
   simp only[List.headD_cons] at hc
   have e1:(m*p+s)%18446744073709551616=(s*(p*cancel+1))%18446744073709551616:=by
    have hk:=Int.emod_add_mul_ediv (s*cancel) 18446744073709551616
    rw[hm] at hk
    rw[show m*p+s=s*(p*cancel+1)+18446744073709551616*(-(s*cancel/18446744073709551616*p)) from by grind]
    exact Int.add_mul_emod_self_left _ _ _
   rw[Int.add_zero,e1,Int.mul_emod,hc];simp
  generalize hz:m*p+s+0=z at *
  obtain⟨g1,g2,q,g3,g4⟩:=PV hv0 hm0.1 xs ps ts (u/18446744073709551616) (z/18446744073709551616) (by simpa using h1) (by simpa using h2) (fun y hy=>hx y (by simp[hy])) (fun y hy=>hp y (by simp[hy])) (fun y hy=>ht y (by simp[hy])) (by omega) (by omega)
  have hlen:xs.length+1=(p::ps).length:=by simpa using h1
  have n0:=dM g2
  have X0:=dM hx
  have P0:=dM hp
  -- the whole
  have whole:18446744073709551616*(val xs*v+val ts+m*val ps+u/18446744073709551616+z/18446744073709551616)=val (x::xs)*v+val (t::ts)+m*val (p::ps):=by
   simp only[val]
   rw[show (x+18446744073709551616*val xs)*v=x*v+18446744073709551616*(val xs*v) from by rw[Int.add_mul,Int.mul_assoc]]
   rw[show m*(p+18446744073709551616*val ps)=m*p+18446744073709551616*(m*val ps) from by rw[Int.mul_add,Int.mul_left_comm]]
   generalize val xs*v=C at *
   generalize m*val ps=D at *
   generalize x*v=G at *
   generalize m*p=H at *
   omega
  -- its bound
  have b1:val (x::xs)*v<=val (x::xs)*18446744073709551615:=Int.mul_le_mul_of_nonneg_left (by omega) X0
  have b2:m*val (p::ps)<=18446744073709551615*val (p::ps):=Int.mul_le_mul_of_nonneg_right (by omega) P0
  generalize val (x::xs)*v=XV at *
  generalize hMP:m*val (p::ps)=MP at *
  have bnd:val xs*v+val ts+m*val ps+u/18446744073709551616+z/18446744073709551616<val (x::xs)+val (p::ps):=by omega
  rw[hlen] at g4
  have hq:q=0:=by
   rcases Int.lt_or_le 0 q with h|h
   ·exfalso
    have:pw (p::ps).length*1<=pw (p::ps).length*q:=Int.mul_le_mul_of_nonneg_left (by omega) (Int.le_of_lt (sK _))
    omega
   ·omega
  subst hq
  simp only[Int.mul_zero,Int.add_zero] at g4
  refine⟨by rw[g1];simp at h1 h2 ⊢;omega,g2,by rw[g4];exact bnd,m,?_⟩
  rw[g4,whole,hMP]
def foldM (cancel:Int) (xs ps:List Int):List Int->List Int->List Int
 | ts,[]=>ts
 | ts,v::vs=>foldM cancel xs ps (kT cancel xs ps ts v) vs
theorem v5 {cancel:Int} {xs ps:List Int} (h1:xs.length=ps.length) (hx:Ws xs) (hp:Ws ps) (hne:ps≠[])
  (hc:(ps.headD 0*cancel+1)%18446744073709551616=0) (hxp:val xs<val ps) (h2p:2*val ps<=pw ps.length):∀ (vs ts:List Int),Ws vs->ps.length=ts.length->Ws ts->val ts<val xs+val ps ->
  (foldM cancel xs ps ts vs).length=ps.length/\Ws (foldM cancel xs ps ts vs)/\val (foldM cancel xs ps ts vs)<val xs+val ps /\
  ∃ m,pw vs.length*val (foldM cancel xs ps ts vs)=val xs*val vs+val ts+m*val ps:=by
 intro vs
 induction vs with
 | nil=>intro ts _ h2 ht hb;exact⟨h2.symm,ht,hb,0,by simp[foldM,pw,val]⟩
 | cons v vs ih =>
  intro ts hvs h2 ht hb
  obtain⟨g1,g2,g3,m,g4⟩:=Ng h1 h2 hx hp ht hne (hvs v (by simp)) hc hb hxp h2p
  obtain⟨k1,k2,k3,m2,k4⟩:=ih (kT cancel xs ps ts v) (fun y hy=>hvs y (by simp[hy])) (by rw[g1];exact h2) g2 g3
  refine⟨k1,k2,k3,m+18446744073709551616*m2,?_⟩
  simp only[foldM,pw,val,List.length_cons]
  rw[Int.mul_assoc,k4,Int.mul_add,Int.mul_add,g4]
  grind
theorem EI {cancel:Int} {xs ps ys:List Int} (h1:xs.length=ps.length) (h2:ys.length=ps.length) (hx:Ws xs) (hp:Ws ps) (hy:Ws ys) (hne:ps≠[])
  (hc:(ps.headD 0*cancel+1)%18446744073709551616=0) (hxp:val xs<val ps) (h2p:2*val ps<=pw ps.length) {rinv:Int} (hr:(pw ps.length*rinv)%val ps=1%val ps) :
  (foldM cancel xs ps (List.replicate ps.length 0) ys).length=ps.length/\Ws (foldM cancel xs ps (List.replicate ps.length 0) ys)/\val (foldM cancel xs ps (List.replicate ps.length 0) ys)<2*val ps /\
  val (foldM cancel xs ps (List.replicate ps.length 0) ys)%val ps=(val xs*val ys*rinv)%val ps:=by
 have z:∀ n,val (List.replicate n 0)=0:=by
  intro n
  induction n with
  | zero=>rfl
  | succ n ih=>simp[List.replicate_succ,val,ih]
 have zw:Ws (List.replicate ps.length 0):=by
  intro x hx;rw[(List.mem_replicate.1 hx).2];exact⟨by omega,by omega⟩
 have X0:=dM hx
 obtain⟨k1,k2,k3,m,k4⟩:=v5 h1 hx hp hne hc hxp h2p ys (List.replicate ps.length 0) hy (by simp) zw (by rw[z];omega)
 refine⟨k1,k2,by omega,?_⟩
 rw[z,h2] at k4
 generalize val (foldM cancel xs ps (List.replicate ps.length 0) ys)=T at *
 have e1:(T*(pw ps.length*rinv))%val ps=T%val ps:=by
  rw[Int.mul_emod,hr,<- Int.mul_emod,Int.mul_one]
 rw[<- e1,show T*(pw ps.length*rinv)=(pw ps.length*T)*rinv from by rw[Int.mul_comm (pw ps.length) T,Int.mul_assoc],k4]
 rw[show (val xs*val ys+0+m*val ps)*rinv=val xs*val ys*rinv+(m*rinv)*val ps from by grind]
 exact Int.add_mul_emod_self_right _ _ _
end Cr
namespace Go.Proofs.YtbeeaekepmnfhaaGreatDoor.fp
noncomputable section
open Go Go.Eng Go.RowKit Cr
abbrev M:Int:=Mp
def ms:List Int:=[13402431016077863595,2210141511517208575,7435674573564081700,7239337960414712511,5412103778470702295,1873798617647539866]
abbrev rinv:Int:=Md.rinv Mp
theorem fM:val ms=M:=by decide
theorem mW:Ws ms:=by intro x hx;simp[ms] at hx;rcases hx with rfl|rfl|rfl|rfl|rfl|rfl<;>exact⟨by decide,by decide⟩
theorem BI:0<M:=by decide
theorem BJ:2*M<=pw 6:=by decide
theorem D7:(pw 6*rinv)%M=1%M:=by decide
theorem vS:enters Tryz.prog 178 Tryz.f178:=ek
abbrev fX:HL [.int .u64,.int .u64,.int .u64,.int .u64]->Prop:=fun (a,b,c,d,_)=>dF a/\dF b/\dF c/\dF d
abbrev jA:HL [.int .u64,.int .u64,.int .u64,.int .u64]->HO [.val (.int .u64),.val (.int .u64)]:=fun (a,b,c,d,_)=>(((a:Int)*b+c+d)/18446744073709551616,(a*b+c+d)%18446744073709551616,())
theorem xY:aB Tryz.prog 178 [.int .u64,.int .u64,.int .u64,.int .u64] [.val (.int .u64),.val (.int .u64)] aM fX jA:=by
 refine ax (sp:=aF [La,zY]) (ai (ak Gq) (ai (ak vV) aR)) mixed vS (by decide) (by decide) ?_
 rintro w M0 ⟨a,b,c,d,⟨⟩⟩ _ ⟨⟨ha0,ha⟩,⟨hb0,hb⟩,⟨hc0,hc⟩,hd0,hd⟩
 have hab:=jy (m:=18446744073709551615) (n:=18446744073709551615) ha0 (by omega) hb0 (by omega)
 refine ao (X:=(wD (a,b,())/\jP (a*b%18446744073709551616,c,0,())/\jP ((a*b%18446744073709551616+c+0)%18446744073709551616,d,0,()) /\
   ((((a*b/18446744073709551616+(a*b%18446744073709551616+c+0)/18446744073709551616)%18446744073709551616+((a*b%18446744073709551616+c+0)%18446744073709551616+d+0)/18446744073709551616)%18446744073709551616,
    ((a*b%18446744073709551616+c+0)%18446744073709551616+d+0)%18446744073709551616,()):Int × Int × Unit)=jA (a,b,c,d,()))) (by kernel_rfl) ?_
 refine⟨⟨⟨ha0,ha⟩,hb0,hb⟩,⟨⟨by omega,by omega⟩,⟨hc0,hc⟩,.inl rfl⟩,⟨⟨by omega,by omega⟩,⟨hd0,hd⟩,.inl rfl⟩,?_⟩
 simp only[jA,Prod.mk.injEq,and_true]
 generalize (a:Int)*b=ab at *
 exact⟨by omega,by omega⟩
def sV:Nat × Eng.Spec:=(178,ar [.int .u64,.int .u64,.int .u64,.int .u64] [.val (.int .u64),.val (.int .u64)] fX jA)
abbrev lT:HL [(.arr 6 (.int .u64)),(.arr 6 (.int .u64))]->Prop:=fun (xs,ys,_)=>Ws xs/\Ws ys
abbrev m9:HL [(.arr 6 (.int .u64)),(.arr 6 (.int .u64))]->HO [.val (.arr 6 (.int .u64)),.val (.int .u64)]:=fun (xs,ys,_)=>(aK 6 (val xs-val ys),if val xs<val ys then (1:Int) else 0,())
abbrev pL:HL [(.arr 6 (.int .u64)),(.arr 6 (.int .u64))]->HO [.val (.arr 6 (.int .u64))]:=fun (xs,ys,_)=>(aK 6 (val xs+val ys),())
theorem xN:enters Tryz.prog 149 Tryz.f149:=ek
theorem mZ:aB Tryz.prog 149 [(.arr 6 (.int .u64)),(.arr 6 (.int .u64))] [.val (.arr 6 (.int .u64)),.val (.int .u64)] aM lT m9:=by
 refine ax (sp:=aF [Lc]) (ai (ak Gt) aR) mixed xN (by decide) (by decide) ?_
 rintro w M0 ⟨xs,ys,⟨⟩⟩ ⟨⟨h1,_⟩,⟨h2,_⟩,_⟩ ⟨hx,hy⟩
 match xs,ys,h1,h2,hx,hy with
 | [a0,a1,a2,a3,a4,a5],[b0,b1,b2,b3,b4,b5],_,_,hx,hy =>
  refine ao (X:=CR [a0,a1,a2,a3,a4,a5] [b0,b1,b2,b3,b4,b5] 0 (((kU [a0,a1,a2,a3,a4,a5] [b0,b1,b2,b3,b4,b5] 0).1,(kU [a0,a1,a2,a3,a4,a5] [b0,b1,b2,b3,b4,b5] 0).2,())=m9 ([a0,a1,a2,a3,a4,a5],[b0,b1,b2,b3,b4,b5],()))) (by kernel_rfl) ?_
  refine E2 _ _ 0 rfl hx hy (.inl rfl) ?_
  obtain⟨e1,e2⟩:=Lf (us:=[a0,a1,a2,a3,a4,a5]) (vs:=[b0,b1,b2,b3,b4,b5]) rfl hx hy
  rw[e1,e2]
  rfl
def pW:Nat × Eng.Spec:=(149,ar [(.arr 6 (.int .u64)),(.arr 6 (.int .u64))] [.val (.arr 6 (.int .u64)),.val (.int .u64)] lT m9)
theorem r7:enters Tryz.prog 104 Tryz.f104:=ek
theorem pA:aB Tryz.prog 104 [(.arr 6 (.int .u64)),(.arr 6 (.int .u64))] [.val (.arr 6 (.int .u64))] aM lT pL:=by
 refine ax (sp:=aF [zY]) (ai (ak vV) aR) mixed r7 (by decide) (by decide) ?_
 rintro w M0 ⟨xs,ys,⟨⟩⟩ ⟨⟨h1,_⟩,⟨h2,_⟩,_⟩ ⟨hx,hy⟩
 match xs,ys,h1,h2,hx,hy with
 | [a0,a1,a2,a3,a4,a5],[b0,b1,b2,b3,b4,b5],_,_,hx,hy =>
  refine ao (X:=BM [a0,a1,a2,a3,a4,a5] [b0,b1,b2,b3,b4,b5] 0 (((gY [a0,a1,a2,a3,a4,a5] [b0,b1,b2,b3,b4,b5] 0).1,())=pL ([a0,a1,a2,a3,a4,a5],[b0,b1,b2,b3,b4,b5],()))) (by kernel_rfl) ?_
  refine Et _ _ 0 rfl hx hy (.inl rfl) ?_
  rw[Jk (us:=[a0,a1,a2,a3,a4,a5]) (vs:=[b0,b1,b2,b3,b4,b5]) rfl hx hy]
  rfl
def qI:Nat × Eng.Spec:=(104,ar [(.arr 6 (.int .u64)),(.arr 6 (.int .u64))] [.val (.arr 6 (.int .u64))] lT pL)
theorem uk:enters Tryz.prog 150 Tryz.f150:=ek
theorem md:aB Tryz.prog 150 [] [.val (.arr 6 (.int .u64))] aM (fun _=>True) (fun _=>(ms,())):=by
 refine ax (sp:=aF []) aR mixed uk (by decide) (by decide) ?_
 intro w M0 xs _ _
 exact ao (X:=((ms,()):List Int × Unit)=(ms,())) (by kernel_rfl) rfl
def nu:Nat × Eng.Spec:=(150,ar [] [.val (.arr 6 (.int .u64))] (fun _=>True) (fun _=>(ms,())))
abbrev sF:HL [(.arr 6 (.int .u64))]->Prop:=fun (xs,_)=>Ws xs
abbrev kh:HL [(.arr 6 (.int .u64))]->HO [.val (.arr 6 (.int .u64))]:=fun (xs,_)=>(if val xs<M then xs else aK 6 (val xs-M),())
theorem Dt:enters Tryz.prog 103 Tryz.f103:=ek
theorem xX:aB Tryz.prog 103 [(.arr 6 (.int .u64))] [.val (.arr 6 (.int .u64))] aM sF kh:=by
 refine ax (sp:=aF [pW,nu]) (ai (ak mZ) (ai (ak md) aR)) mixed Dt (by decide) (by decide) ?_
 rintro w M0 ⟨xs,⟨⟩⟩ _ hx
 refine ao (X:=(True/\(Ws xs/\Ws ms)/\((((if val xs<val ms then 1 else 0:Int) != 0)=true->((xs,()):List Int × Unit)=kh (xs,()))/\(((if val xs<val ms then 1 else 0:Int) != 0)=false->((aK 6 (val xs-val ms),()):List Int × Unit)=kh (xs,()))))) (by kernel_rfl) ?_
 refine⟨trivial,⟨hx,mW⟩,?_⟩
 rw[fM]
 by_cases h:val xs<M
 ·simp[h,kh]
 ·simp[h,kh]
def wQ:Nat × Eng.Spec:=(103,ar [(.arr 6 (.int .u64))] [.val (.arr 6 (.int .u64))] sF kh)
abbrev bX:HL [(.arr 6 (.int .u64)),(.arr 6 (.int .u64))]->Prop:=fun (xs,ys,_)=>Ws xs/\Ws ys/\val xs<M
abbrev fb:HL [(.arr 6 (.int .u64)),(.arr 6 (.int .u64))]->HO [.val (.arr 6 (.int .u64))]:=fun (xs,ys,_)=>(aK 6 (val xs*val ys*rinv%M),())
theorem lI:enters Tryz.prog 140 Tryz.f140:=ek
def oL (xs ys:List Int) (g:Int × List Int):St :=
 aY Tryz.f140.ntmps 104 ([(2,.is (.one (.ptr 0 0))),(4,.is (.one (.ptr 16 0)))]++[(7,sI .u64 (g.2.getD 0 0)),(8,sI .u64 (g.2.getD 1 0)),(9,sI .u64 (g.2.getD 2 0)),(10,sI .u64 (g.2.getD 3 0)),(11,sI .u64 (g.2.getD 4 0)),(12,sI .u64 (g.2.getD 5 0))]++[(16,sA .u64 6 ys),(17,sI .i64 g.1)])
  [(0,[.ints .u64 6 xs]),(16,[.ints .u64 6 (ub 6)])]
def yX (g:Int × List Int):St:=aY Tryz.f140.ntmps 104 ([(4,.is (.one (.ptr 16 0)))]++[(7,sI .u64 (g.2.getD 0 0)),(8,sI .u64 (g.2.getD 1 0)),(9,sI .u64 (g.2.getD 2 0)),(10,sI .u64 (g.2.getD 3 0)),(11,sI .u64 (g.2.getD 4 0)),(12,sI .u64 (g.2.getD 5 0))]) [(16,[.ints .u64 6 (ub 6)])]
def oM (xs ys:List Int) (g:Int × List Int):Int × List Int:=(IntKind.i64.wrap (g.1+1),kT 9940570264628428797 xs ms g.2 (ys.getD g.1.toNat 0))
def oo:List Int->List Int->List Int->Int->Int->Int->Int->Prop->Prop
 | x::xs,p::ps,t::ts,v,m,a,c,K =>
  fX (x,v,t,a,())/\fX (m,p,(x*v+t+a)%18446744073709551616,c,()) /\
   oo xs ps ts v m ((x*v+t+a)/18446744073709551616) ((m*p+(x*v+t+a)%18446744073709551616+c)/18446744073709551616) K
 | _,_,_,_,_,_,_,K=>K
theorem yJ {K:Prop} {v m:Int} (hv:dF v) (hm:dF m) (hK:K):∀ (xs ps ts:List Int) (a c:Int),Ws xs->Ws ps->Ws ts->dF a->dF c->oo xs ps ts v m a c K:=by
 intro xs
 induction xs with
 | nil=>intro ps ts a c _ _ _ _ _;exact hK
 | cons x xs ih =>
  intro ps ts a c hx hp ht ha hc
  cases ps with
  | nil=>exact hK
  | cons p ps =>
   cases ts with
   | nil=>exact hK
   | cons t ts =>
    have x1:=hx x (by simp)
    have p1:=hp p (by simp)
    have t1:=ht t (by simp)
    have hxv:=jy (m:=18446744073709551615) (n:=18446744073709551615) x1.1 (by have:=x1.2;omega) hv.1 (by have:=hv.2;omega)
    have cD:=jy (m:=18446744073709551615) (n:=18446744073709551615) hm.1 (by have:=hm.2;omega) p1.1 (by have:=p1.2;omega)
    obtain⟨t2,t3⟩:=t1
    obtain⟨a2,a3⟩:=ha
    obtain⟨c2,c3⟩:=hc
    simp only[oo]
    generalize x*v=xv at *
    generalize m*p=mp at *
    refine⟨⟨x1,hv,⟨t2,t3⟩,a2,a3⟩,⟨hm,p1,⟨by omega,by omega⟩,c2,c3⟩,?_⟩
    exact ih ps ts _ _ (fun y hy=>hx y (by simp[hy])) (fun y hy=>hp y (by simp[hy])) (fun y hy=>ht y (by simp[hy])) ⟨by omega,by omega⟩ ⟨by omega,by omega⟩
def pZ (xs ps ts:List Int) (v:Int) (K:Prop):Prop :=
 match xs,ps,ts with
 | x::xs,p::ps,t::ts =>
  fX (x,v,t,(0:Int),())/\fX (((x*v+t+0)%18446744073709551616)*9940570264628428797%18446744073709551616,p,(x*v+t+0)%18446744073709551616,(0:Int),()) /\
  oo xs ps ts v (((x*v+t+0)%18446744073709551616)*9940570264628428797%18446744073709551616) ((x*v+t+0)/18446744073709551616)
   (((((x*v+t+0)%18446744073709551616)*9940570264628428797%18446744073709551616)*p+(x*v+t+0)%18446744073709551616+0)/18446744073709551616) K
 | _,_,_=>K
theorem wW {K:Prop} {v:Int} (hv:dF v) (hK:K) {xs ps ts:List Int} (hx:Ws xs) (hp:Ws ps) (ht:Ws ts):pZ xs ps ts v K:=by
 unfold pZ
 split
 ·rename_i x xs p ps t ts
  have x1:=hx x (by simp)
  have p1:=hp p (by simp)
  have t1:=ht t (by simp)
  have hxv:=jy (m:=18446744073709551615) (n:=18446744073709551615) x1.1 (by have:=x1.2;omega) hv.1 (by have:=hv.2;omega)
  obtain⟨t2,t3⟩:=t1
  generalize x*v=xv at *
  generalize hm:((xv+t+0)%18446744073709551616)*9940570264628428797%18446744073709551616=m
  have hm1:dF m:=⟨by omega,by omega⟩
  have cD:=jy (m:=18446744073709551615) (n:=18446744073709551615) hm1.1 (by have:=hm1.2;omega) p1.1 (by have:=p1.2;omega)
  generalize m*p=mp at *
  refine⟨⟨x1,hv,⟨t2,t3⟩,by omega,by omega⟩,⟨hm1,p1,⟨by omega,by omega⟩,by omega,by omega⟩,?_⟩
  exact yJ hv hm1 hK xs ps ts _ _ (fun y hy=>hx y (by simp[hy])) (fun y hy=>hp y (by simp[hy])) (fun y hy=>ht y (by simp[hy])) ⟨by omega,by omega⟩ ⟨by omega,by omega⟩
 ·exact hK
def fE (xs ys:List Int) (k:Nat):List Int:=foldM 9940570264628428797 xs ms (List.replicate 6 0) (ys.take k)
def s9 (xs ys:List Int) (g:Int × List Int):Prop:=∃ k:Nat,k<=6/\g=((k:Int),fE xs ys k)
theorem vZ {can:Int} {xs ps:List Int}:∀ (vs ts:List Int) (v:Int),foldM can xs ps ts (vs++[v])=kT can xs ps (foldM can xs ps ts vs) v:=by
 intro vs
 induction vs with
 | nil=>intro ts v;rfl
 | cons u vs ih=>intro ts v;exact ih _ _
theorem eF:aB Tryz.prog 140 [(.arr 6 (.int .u64)),(.arr 6 (.int .u64))] [.val (.arr 6 (.int .u64))] aM bX fb:=by
 refine bh (sp:=aF [sV,wQ]) lI (by decide) (by decide) (by kernel_rfl) ?_
 have hsp:aN Tryz.prog (aF [sV,wQ]):=ai (ak xY) (ai (ak xX) aR)
 rintro w M0 ⟨xs,ys,⟨⟩⟩ ⟨⟨h1,_⟩,⟨h2,_⟩,_⟩ ⟨hx,hy,hxM⟩
 match xs,h1,hx,hxM with
 | [a0,a1,a2,a3,a4,a5],_,hx,hxM =>
  have hyl:List.length ys=6:=h2
  have hxl:[a0,a1,a2,a3,a4,a5].length=ms.length:=rfl
  have hfold:∀ k,(fE [a0,a1,a2,a3,a4,a5] ys k).length=ms.length/\Ws (fE [a0,a1,a2,a3,a4,a5] ys k)/\val (fE [a0,a1,a2,a3,a4,a5] ys k)<val [a0,a1,a2,a3,a4,a5]+val ms:=by
   intro k
   have:=v5 (cancel:=9940570264628428797) hxl hx mW (by simp[ms]) (by decide) (by rw[fM];exact hxM) (by rw[fM];exact BJ) (ys.take k) (List.replicate 6 0) (fun y hy'=>hy y (List.mem_of_mem_take hy')) (by rfl)
    (by intro x hx;rw[(List.mem_replicate.1 hx).2];exact⟨by omega,by omega⟩) (by rw[fM,show val (List.replicate 6 0)=0 from by decide];have:=dM hx;have:=BI;omega)
   exact⟨this.1,this.2.1,this.2.2.1⟩
  have hmont:=EI (cancel:=9940570264628428797) (xs:=[a0,a1,a2,a3,a4,a5]) (ps:=ms) (ys:=ys) (rinv:=rinv) hxl hyl hx mW hy (by simp[ms]) (by decide) (by rw[fM];exact hxM) (by rw[fM];exact BJ) (by rw[fM];exact D7)
  rw[fM] at hmont
  -- what holds at each round's head
  have J0:s9 [a0,a1,a2,a3,a4,a5] ys (0,List.replicate 6 0):=⟨0,by omega,by simp[fE,foldM]⟩
  show Tr _ _ _ _ _ _ _
  refine aP hsp mixed 3 (oL [a0,a1,a2,a3,a4,a5] ys (0,List.replicate 6 0)) True ?_ (fun _=>?_)
  ·refine ao (X:=(oL [a0,a1,a2,a3,a4,a5] ys (0,List.replicate 6 0)).ah True) (by kernel_rfl) (aA trivial)
  refine It hsp mixed (oL [a0,a1,a2,a3,a4,a5] ys) (s9 [a0,a1,a2,a3,a4,a5] ys) (fun g=>(6-g.1).toNat) (oM [a0,a1,a2,a3,a4,a5] ys) yX (fun g=>g.2=fE [a0,a1,a2,a3,a4,a5] ys 6) (0,List.replicate 6 0) (c:=aI (aJ Tryz.f140) 3) (by kernel_rfl) (by kernel_rfl)
   (aC (by kernel_rfl) (by kernel_rfl) J0) ?_ ?_
  ·rintro g ⟨k,hk,rfl⟩
   obtain⟨f1,f2,f3⟩:=hfold k
   have hts:∃ t0 t1 t2 t3 t4 t5,fE [a0,a1,a2,a3,a4,a5] ys k=[t0,t1,t2,t3,t4,t5]:=by
    match fE [a0,a1,a2,a3,a4,a5] ys k,f1 with
    | [t0,t1,t2,t3,t4,t5],_=>exact⟨_,_,_,_,_,_,rfl⟩
   obtain⟨t0,t1,t2,t3,t4,t5,hts⟩:=hts
   rw[hts] at f2 ⊢
   refine ao (X:=((decide ((k:Int)<6)=true->(0<=(k:Int)/\(k:Int)<6)/\pZ [a0,a1,a2,a3,a4,a5] ms [t0,t1,t2,t3,t4,t5] (ys.getD (k:Int).toNat 0) ((oL [a0,a1,a2,a3,a4,a5] ys (oM [a0,a1,a2,a3,a4,a5] ys ((k:Int),[t0,t1,t2,t3,t4,t5]))).ah (s9 [a0,a1,a2,a3,a4,a5] ys (oM [a0,a1,a2,a3,a4,a5] ys ((k:Int),[t0,t1,t2,t3,t4,t5]))/\(6-(oM [a0,a1,a2,a3,a4,a5] ys ((k:Int),[t0,t1,t2,t3,t4,t5])).1).toNat<(6-(k:Int)).toNat)))
    /\ (decide ((k:Int)<6)=false->(yX ((k:Int),[t0,t1,t2,t3,t4,t5])).ah ([t0,t1,t2,t3,t4,t5]=fE [a0,a1,a2,a3,a4,a5] ys 6)))) (by kernel_rfl) ?_
   constructor
   ·intro hlt
    have hlt:k<6:=by have:=Odt hlt;omega
    have hv:dF (ys.getD (k:Int).toNat 0):=by
     rw[List.getD_eq_getElem?_getD,Int.toNat_natCast,List.getElem?_eq_getElem (by omega)]
     exact hy _ (List.getElem_mem _)
    refine⟨⟨by omega,by omega⟩,wW hv (aA ⟨⟨k+1,by omega,?_⟩,?_⟩) hx mW f2⟩
    ·have e1:IntKind.i64.wrap ((k:Int)+1)=((k+1:Nat):Int):=by rw[wrap_i64 (by omega) (by omega)];omega
     have e2:fE [a0,a1,a2,a3,a4,a5] ys (k+1)=kT 9940570264628428797 [a0,a1,a2,a3,a4,a5] ms (fE [a0,a1,a2,a3,a4,a5] ys k) (ys.getD (k:Int).toNat 0):=by
      unfold fE
      rw[List.take_succ_eq_append_getElem (by omega),vZ]
      rw[List.getD_eq_getElem?_getD,Int.toNat_natCast,List.getElem?_eq_getElem (by omega)]
      rfl
     show (IntKind.i64.wrap ((k:Int)+1),kT 9940570264628428797 [a0,a1,a2,a3,a4,a5] ms [t0,t1,t2,t3,t4,t5] (ys.getD (k:Int).toNat 0))=_
     rw[e1,e2,hts]
    ·show (6-IntKind.i64.wrap ((k:Int)+1)).toNat<_
     rw[wrap_i64 (by omega) (by omega)];omega
   ·intro hge
    have hge:k=6:=by
     have:=Odf hge
     omega
    refine aA ?_
    rw[<- hts,hge]
  ·rintro⟨i,ts⟩ hts
   have hts:ts=fE [a0,a1,a2,a3,a4,a5] ys 6:=hts
   obtain⟨f1,f2,f3⟩:=hfold 6
   have hall:ys.take 6=ys:=List.take_of_length_le (by omega)
   have hts2:∃ t0 t1 t2 t3 t4 t5,fE [a0,a1,a2,a3,a4,a5] ys 6=[t0,t1,t2,t3,t4,t5]:=by
    match fE [a0,a1,a2,a3,a4,a5] ys 6,f1 with
    | [t0,t1,t2,t3,t4,t5],_=>exact⟨_,_,_,_,_,_,rfl⟩
   obtain⟨t0,t1,t2,t3,t4,t5,hts2⟩:=hts2
   subst hts
   rw[hts2] at f2 ⊢
   refine bf hsp mixed _ _ ?_
   refine ao (X:=(Ws [t0,t1,t2,t3,t4,t5]/\((if val [t0,t1,t2,t3,t4,t5]<M then [t0,t1,t2,t3,t4,t5] else aK 6 (val [t0,t1,t2,t3,t4,t5]-M),()):List Int × Unit)=fb ([a0,a1,a2,a3,a4,a5],ys,()))) (by kernel_rfl) ?_
   refine⟨f2,?_⟩
   have e:foldM 9940570264628428797 [a0,a1,a2,a3,a4,a5] ms (List.replicate ms.length 0) ys=[t0,t1,t2,t3,t4,t5]:=by
    have:=hts2
    unfold fE at this
    rw[hall] at this
    exact this
   rw[e] at hmont
   obtain⟨m1,m2,m3,m4⟩:=hmont
   have m0:=dM m2
   have hM:=BI
   simp only[fb,Prod.mk.injEq,and_true]
   rw[<- m4]
   split
   ·rename_i hlt
    rw[Int.emod_eq_of_lt m0 hlt]
    exact (pF f2).symm
   ·rename_i hge
    rw[show val [t0,t1,t2,t3,t4,t5]%M=val [t0,t1,t2,t3,t4,t5]-M from by
     rw[<- Int.sub_emod_right,Int.emod_eq_of_lt (by omega) (by omega)]]
def fy:Nat × Eng.Spec:=(140,ar [(.arr 6 (.int .u64)),(.arr 6 (.int .u64))] [.val (.arr 6 (.int .u64))] bX fb)
end
end Go.Proofs.YtbeeaekepmnfhaaGreatDoor.fp
namespace Cr
section
variable {M:Int} [Md M]
theorem tV (x y:Zm M):aK (Md.n M) (val (enc x)*val (enc y)*Md.rinv M%M)=enc (x*y):=by
 rw[<- Vh,dt,dt]
theorem mv (x:Zm M):0<=val (enc x)/\val (enc x)<M:=⟨dM (ef x),(b7 x).2.2⟩
theorem o5 {n:Nat} {a:Int} (h0:0<=a) (h1:a<pw n):val (aK n a)=a:=by
 rw[p9,Int.emod_eq_of_lt h0 h1]
theorem Jn (x y:Zm M):(if val (aK (Md.n M) (val (enc x)+val (enc y)))<M then aK (Md.n M) (val (enc x)+val (enc y)) else aK (Md.n M) (val (aK (Md.n M) (val (enc x)+val (enc y)))-M))=enc (x+y):=by
 have hx:=mv x
 have hy:=mv y
 have hb:=Md.big (M:=M)
 have e:enc (x+y)=aK (Md.n M) ((val (enc x)+val (enc y))%M):=by rw[<- Vg,dt,dt]
 rw[o5 (by omega) (by omega),e]
 split
 ·rename_i h;rw[Int.emod_eq_of_lt (by omega) h]
 ·rename_i h;rw[<- Int.sub_emod_right,Int.emod_eq_of_lt (by omega) (by omega)]
theorem Kx (n:Nat) (a:Int):aK n (a%pw n)=aK n a:=by
 have h1:=p9 n a
 have h2:=p9 n (a%pw n)
 rw[Int.emod_emod] at h2
 exact val_inj (iB _ _) (iB _ _) (by rw[n6,n6]) (by rw[h1,h2])
theorem CT {x y:Zm M} (h:val (enc x)<val (enc y)):aK (Md.n M) (val (aK (Md.n M) (val (enc x)-val (enc y)))+M)=enc (x-y):=by
 have hx:=mv x
 have hy:=mv y
 have e:enc (x-y)=aK (Md.n M) ((val (enc x)-val (enc y))%M):=by rw[<- JQ,dt,dt]
 rw[e,p9,<- Kx _ (_+M),Int.emod_add_emod,Kx]
 congr 1
 rw[<- Int.add_emod_right,Int.emod_eq_of_lt (by omega) (by omega)]
theorem CS {x y:Zm M} (h:¬ val (enc x)<val (enc y)):aK (Md.n M) (val (enc x)-val (enc y))=enc (x-y):=by
 have hx:=mv x
 have hy:=mv y
 have e:enc (x-y)=aK (Md.n M) ((val (enc x)-val (enc y))%M):=by rw[<- JQ,dt,dt]
 rw[e,Int.emod_eq_of_lt (by omega) (by omega)]
theorem EO (x:Zm M) {u:List Int} (hu:val u=1):aK (Md.n M) (val (enc x)*val u*Md.rinv M%M)=aK (Md.n M) x.v:=by
 congr 1
 rw[hu,Int.mul_one,z8]
 show ((x.v*(pw (Md.n M)%M))%M)*Md.rinv M%M=_
 have h:=Md.inv (M:=M)
 have:(x.v*(pw (Md.n M)%M)%M)*Md.rinv M%M=x.v*(pw (Md.n M)*Md.rinv M)%M:=by
  rw[Int.mul_emod,Int.emod_emod,<- Int.mul_emod,Int.mul_assoc,Int.mul_emod,Int.mul_emod (pw (Md.n M)%M),Int.emod_emod,<- Int.mul_emod (pw (Md.n M)),<- Int.mul_emod]
 rw[this,Int.mul_emod,h,Int.mul_one,Int.emod_emod,Np]
theorem l5 {ys:List Int}:aK (Md.n M) (val (enc (R2:Zm M))*val ys*Md.rinv M%M)=enc (zm (val ys):Zm M):=by
 rw[Yf,z8]
 congr 1
 have h:=Md.inv (M:=M)
 show ((pw (Md.n M)%M)*(pw (Md.n M)%M)%M)*val ys*Md.rinv M%M=_
 rw[<- Int.mul_emod]
 have e:(pw (Md.n M)*pw (Md.n M)%M)*val ys*Md.rinv M%M=(pw (Md.n M)*pw (Md.n M))*(val ys*Md.rinv M)%M:=by
  rw[Int.mul_assoc,Int.mul_emod,Int.emod_emod,<- Int.mul_emod]
 rw[e,show pw (Md.n M)*pw (Md.n M)*(val ys*Md.rinv M)=(val ys*pw (Md.n M))*(pw (Md.n M)*Md.rinv M) by
  rw[Int.mul_assoc,Int.mul_comm (val ys) (pw (Md.n M)),Int.mul_assoc,Int.mul_left_comm (pw (Md.n M)) (val ys)],Int.mul_emod,h,Int.mul_one,Int.emod_emod]
end
end Cr
namespace Go.Proofs.YtbeeaekepmnfhaaGreatDoor.fp
noncomputable section
open Go Go.Eng Go.RowKit Cr
theorem pk:enters Tryz.prog 94 Tryz.f94:=ek
abbrev iT:HL [.fp,.fp]->HO [.val .fp]:=fun (x,y,_)=>((x:Fp)*y,())
theorem cL:aB Tryz.prog 94 [.fp,.fp] [.val .fp] aM (fun _=>True) iT:=by
 refine ax (sp:=aF [fy]) (ai (ak eF) aR) mixed pk (by decide) (by decide) ?_
 rintro w M0 ⟨x,y,⟨⟩⟩ _ _
 refine ao (X:=(bX (enc x,enc y,())/\Canon Mp (aK 6 (val (enc x)*val (enc y)*rinv%M))/\(dec (aK 6 (val (enc x)*val (enc y)*rinv%M)),())=iT (x,y,()))) (by kernel_rfl) ?_
 rw[show aK 6 (val (enc x)*val (enc y)*rinv%M)=enc (x*y) from tV x y]
 exact⟨⟨ef x,ef y,(b7 x).2.2⟩,b7 _,by rw[dt]⟩
def cK:Nat × Eng.Spec:=(94,ar [.fp,.fp] [.val .fp] (fun _=>True) iT)
theorem kK:enters Tryz.prog 93 Tryz.f93:=ek
abbrev e9:HL [.fp]->HO [.val .fp]:=fun (x,_)=>((x:Fp)*x,())
theorem b9:aB Tryz.prog 93 [.fp] [.val .fp] aM (fun _=>True) e9:=by
 refine ax (sp:=aF [fy]) (ai (ak eF) aR) mixed kK (by decide) (by decide) ?_
 rintro w M0 ⟨x,⟨⟩⟩ _ _
 refine ao (X:=(bX (enc x,enc x,())/\Canon Mp (aK 6 (val (enc x)*val (enc x)*rinv%M))/\(dec (aK 6 (val (enc x)*val (enc x)*rinv%M)),())=e9 (x,()))) (by kernel_rfl) ?_
 rw[show aK 6 (val (enc x)*val (enc x)*rinv%M)=enc (x*x) from tV x x]
 exact⟨⟨ef x,ef x,(b7 x).2.2⟩,b7 _,by rw[dt]⟩
def bJ:Nat × Eng.Spec:=(93,ar [.fp] [.val .fp] (fun _=>True) e9)
theorem j9:enters Tryz.prog 62 Tryz.f62:=ek
abbrev dO:HL [.fp,.fp]->HO [.val .fp]:=fun (x,y,_)=>((x:Fp)+y,())
theorem cC:aB Tryz.prog 62 [.fp,.fp] [.val .fp] aM (fun _=>True) dO:=by
 refine ax (sp:=aF [wQ,qI]) (ai (ak xX) (ai (ak pA) aR)) mixed j9 (by decide) (by decide) ?_
 rintro w M0 ⟨x,y,⟨⟩⟩ _ _
 refine ao (X:=(lT (enc x,enc y,())/\sF (aK 6 (val (enc x)+val (enc y)),()) /\
  Canon Mp (if val (aK 6 (val (enc x)+val (enc y)))<M then aK 6 (val (enc x)+val (enc y)) else aK 6 (val (aK 6 (val (enc x)+val (enc y)))-M)) /\
  (dec (if val (aK 6 (val (enc x)+val (enc y)))<M then aK 6 (val (enc x)+val (enc y)) else aK 6 (val (aK 6 (val (enc x)+val (enc y)))-M)),())=dO (x,y,()))) (by kernel_rfl) ?_
 rw[show (if val (aK 6 (val (enc x)+val (enc y)))<M then aK 6 (val (enc x)+val (enc y)) else aK 6 (val (aK 6 (val (enc x)+val (enc y)))-M))=enc (x+y) from Jn x y]
 exact⟨⟨ef x,ef y⟩,iB _ _,b7 _,by rw[dt]⟩
def cv:Nat × Eng.Spec:=(62,ar [.fp,.fp] [.val .fp] (fun _=>True) dO)
theorem uU:enters Tryz.prog 110 Tryz.f110:=ek
abbrev kj:HL [.fp,.fp]->HO [.val .fp]:=fun (x,y,_)=>((x:Fp)-y,())
theorem gn:aB Tryz.prog 110 [.fp,.fp] [.val .fp] aM (fun _=>True) kj:=by
 refine ax (sp:=aF [pW,qI,nu]) (ai (ak mZ) (ai (ak pA) (ai (ak md) aR))) mixed uU (by decide) (by decide) ?_
 rintro w M0 ⟨x,y,⟨⟩⟩ _ _
 refine ao (X:=(lT (enc x,enc y,()) /\
  ((((if val (enc x)<val (enc y) then 1 else 0:Int) != 0)=true->True/\lT (aK 6 (val (enc x)-val (enc y)),ms,())/\Canon Mp (aK 6 (val (aK 6 (val (enc x)-val (enc y)))+val ms))/\(dec (aK 6 (val (aK 6 (val (enc x)-val (enc y)))+val ms)),())=kj (x,y,())) /\
   (((if val (enc x)<val (enc y) then 1 else 0:Int) != 0)=false->Canon Mp (aK 6 (val (enc x)-val (enc y)))/\(dec (aK 6 (val (enc x)-val (enc y))),())=kj (x,y,()))))) (by kernel_rfl) ?_
 rw[fM]
 refine⟨⟨ef x,ef y⟩,?_⟩
 by_cases h:val (enc x)<val (enc y)
 ·rw[show aK 6 (val (aK 6 (val (enc x)-val (enc y)))+M)=enc (x-y) from CT h]
  exact⟨fun _=>⟨trivial,⟨iB _ _,mW⟩,b7 _,by rw[dt]⟩,fun hf=>by simp[h] at hf⟩
 ·rw[show aK 6 (val (enc x)-val (enc y))=enc (x-y) from CS h]
  exact⟨fun hf=>by simp[h] at hf,fun _=>⟨b7 _,by rw[dt]⟩⟩
def iI:Nat × Eng.Spec:=(110,ar [.fp,.fp] [.val .fp] (fun _=>True) kj)
theorem uS:enters Tryz.prog 142 Tryz.f142:=ek
abbrev lR:HL [.fp]->HO [.val .fp]:=fun (x,_)=>(-(x:Fp),())
theorem jF (x:Fp):0-x=-x:=Zm.ext (by rw[Nh,Cn,ma];simp)
theorem iA:aB Tryz.prog 142 [.fp] [.val .fp] aM (fun _=>True) lR:=by
 refine ax (sp:=aF [iI]) (ai (ak gn) aR) mixed uS (by decide) (by decide) ?_
 rintro w M0 ⟨x,⟨⟩⟩ _ _
 refine ao (X:=(True/\((0:Fp)-x,())=lR (x,()))) (by kernel_rfl) ?_
 exact⟨trivial,by rw[jF]⟩
def jb:Nat × Eng.Spec:=(142,ar [.fp] [.val .fp] (fun _=>True) lR)
theorem AV:enters Tryz.prog 164 Tryz.f164:=ek
abbrev pO:HL [.fp]->HO [.val .bool]:=fun (x,_)=>(decide ((x:Fp)=0),())
theorem jh:aB Tryz.prog 164 [.fp] [.val .bool] aM (fun _=>True) pO:=by
 refine ax (sp:=aF []) aR mixed AV (by decide) (by decide) ?_
 rintro w M0 ⟨x,⟨⟩⟩ _ _
 exact ao (X:=((decide (x=(0:Fp)),())=pO (x,()))) (by kernel_rfl) rfl
def k9:Nat × Eng.Spec:=(164,ar [.fp] [.val .bool] (fun _=>True) pO)
theorem uT:enters Tryz.prog 179 Tryz.f179:=ek
theorem nM:aB Tryz.prog 179 [] [.val .fp] aM (fun _=>True) (fun _=>((1:Fp),())):=by
 refine ax (sp:=aF []) aR mixed uT (by decide) (by decide) ?_
 rintro w M0 ⟨⟩ _ _
 refine ao (X:=(Canon Mp [8505329371266088957,17002214543764226050,6865905132761471162,8632934651105793861,6631298214892334189,1582556514881692819]/\(dec [8505329371266088957,17002214543764226050,6865905132761471162,8632934651105793861,6631298214892334189,1582556514881692819],())=((1:Fp),()))) (by kernel_rfl) ?_
 refine⟨⟨rfl,?_,by decide⟩,?_⟩
 ·intro x hx;simp at hx;rcases hx with rfl|rfl|rfl|rfl|rfl|rfl<;>exact⟨by decide,by decide⟩
 ·rw[show (dec [8505329371266088957,17002214543764226050,6865905132761471162,8632934651105793861,6631298214892334189,1582556514881692819]:Fp)=1 from Zm.ext (by decide)]
def kS:Nat × Eng.Spec:=(179,ar [] [.val .fp] (fun _=>True) (fun _=>((1:Fp),())))
end
end Go.Proofs.YtbeeaekepmnfhaaGreatDoor.fp
namespace Go.Proofs.YtbeeaekepmnfhaaGreatDoor.fr
noncomputable section
open Go Go.Eng Go.RowKit Cr
abbrev M:Int:=Mr
def ms:List Int:=[18446744069414584321,6034159408538082302,3691218898639771653,8353516859464449352]
abbrev rinv:Int:=Md.rinv Mr
theorem fM:val ms=M:=by decide
theorem mW:Ws ms:=by intro x hx;simp[ms] at hx;rcases hx with rfl|rfl|rfl|rfl<;>exact⟨by decide,by decide⟩
theorem BI:0<M:=by decide
theorem BJ:2*M<=pw 4:=by decide
theorem D7:(pw 4*rinv)%M=1%M:=by decide
theorem vS:enters Tryz.prog 83 Tryz.f83:=ek
abbrev fX:HL [.int .u64,.int .u64,.int .u64,.int .u64]->Prop:=fun (a,b,c,d,_)=>dF a/\dF b/\dF c/\dF d
abbrev jA:HL [.int .u64,.int .u64,.int .u64,.int .u64]->HO [.val (.int .u64),.val (.int .u64)]:=fun (a,b,c,d,_)=>(((a:Int)*b+c+d)/18446744073709551616,(a*b+c+d)%18446744073709551616,())
theorem xY:aB Tryz.prog 83 [.int .u64,.int .u64,.int .u64,.int .u64] [.val (.int .u64),.val (.int .u64)] aM fX jA:=by
 refine ax (sp:=aF [La,zY]) (ai (ak Gq) (ai (ak vV) aR)) mixed vS (by decide) (by decide) ?_
 rintro w M0 ⟨a,b,c,d,⟨⟩⟩ _ ⟨⟨ha0,ha⟩,⟨hb0,hb⟩,⟨hc0,hc⟩,hd0,hd⟩
 have hab:=jy (m:=18446744073709551615) (n:=18446744073709551615) ha0 (by omega) hb0 (by omega)
 refine ao (X:=(wD (a,b,())/\jP (a*b%18446744073709551616,c,0,())/\jP ((a*b%18446744073709551616+c+0)%18446744073709551616,d,0,()) /\
   ((((a*b/18446744073709551616+(a*b%18446744073709551616+c+0)/18446744073709551616)%18446744073709551616+((a*b%18446744073709551616+c+0)%18446744073709551616+d+0)/18446744073709551616)%18446744073709551616,
    ((a*b%18446744073709551616+c+0)%18446744073709551616+d+0)%18446744073709551616,()):Int × Int × Unit)=jA (a,b,c,d,()))) (by kernel_rfl) ?_
 refine⟨⟨⟨ha0,ha⟩,hb0,hb⟩,⟨⟨by omega,by omega⟩,⟨hc0,hc⟩,.inl rfl⟩,⟨⟨by omega,by omega⟩,⟨hd0,hd⟩,.inl rfl⟩,?_⟩
 simp only[jA,Prod.mk.injEq,and_true]
 generalize (a:Int)*b=ab at *
 exact⟨by omega,by omega⟩
def sV:Nat × Eng.Spec:=(83,ar [.int .u64,.int .u64,.int .u64,.int .u64] [.val (.int .u64),.val (.int .u64)] fX jA)
abbrev lT:HL [(.arr 4 (.int .u64)),(.arr 4 (.int .u64))]->Prop:=fun (xs,ys,_)=>Ws xs/\Ws ys
abbrev m9:HL [(.arr 4 (.int .u64)),(.arr 4 (.int .u64))]->HO [.val (.arr 4 (.int .u64)),.val (.int .u64)]:=fun (xs,ys,_)=>(aK 4 (val xs-val ys),if val xs<val ys then (1:Int) else 0,())
abbrev pL:HL [(.arr 4 (.int .u64)),(.arr 4 (.int .u64))]->HO [.val (.arr 4 (.int .u64))]:=fun (xs,ys,_)=>(aK 4 (val xs+val ys),())
theorem xN:enters Tryz.prog 127 Tryz.f127:=ek
theorem mZ:aB Tryz.prog 127 [(.arr 4 (.int .u64)),(.arr 4 (.int .u64))] [.val (.arr 4 (.int .u64)),.val (.int .u64)] aM lT m9:=by
 refine ax (sp:=aF [Lc]) (ai (ak Gt) aR) mixed xN (by decide) (by decide) ?_
 rintro w M0 ⟨xs,ys,⟨⟩⟩ ⟨⟨h1,_⟩,⟨h2,_⟩,_⟩ ⟨hx,hy⟩
 match xs,ys,h1,h2,hx,hy with
 | [a0,a1,a2,a3],[b0,b1,b2,b3],_,_,hx,hy =>
  refine ao (X:=CR [a0,a1,a2,a3] [b0,b1,b2,b3] 0 (((kU [a0,a1,a2,a3] [b0,b1,b2,b3] 0).1,(kU [a0,a1,a2,a3] [b0,b1,b2,b3] 0).2,())=m9 ([a0,a1,a2,a3],[b0,b1,b2,b3],()))) (by kernel_rfl) ?_
  refine E2 _ _ 0 rfl hx hy (.inl rfl) ?_
  obtain⟨e1,e2⟩:=Lf (us:=[a0,a1,a2,a3]) (vs:=[b0,b1,b2,b3]) rfl hx hy
  rw[e1,e2]
  rfl
def pW:Nat × Eng.Spec:=(127,ar [(.arr 4 (.int .u64)),(.arr 4 (.int .u64))] [.val (.arr 4 (.int .u64)),.val (.int .u64)] lT m9)
theorem r7:enters Tryz.prog 88 Tryz.f88:=ek
theorem pA:aB Tryz.prog 88 [(.arr 4 (.int .u64)),(.arr 4 (.int .u64))] [.val (.arr 4 (.int .u64))] aM lT pL:=by
 refine ax (sp:=aF [zY]) (ai (ak vV) aR) mixed r7 (by decide) (by decide) ?_
 rintro w M0 ⟨xs,ys,⟨⟩⟩ ⟨⟨h1,_⟩,⟨h2,_⟩,_⟩ ⟨hx,hy⟩
 match xs,ys,h1,h2,hx,hy with
 | [a0,a1,a2,a3],[b0,b1,b2,b3],_,_,hx,hy =>
  refine ao (X:=BM [a0,a1,a2,a3] [b0,b1,b2,b3] 0 (((gY [a0,a1,a2,a3] [b0,b1,b2,b3] 0).1,())=pL ([a0,a1,a2,a3],[b0,b1,b2,b3],()))) (by kernel_rfl) ?_
  refine Et _ _ 0 rfl hx hy (.inl rfl) ?_
  rw[Jk (us:=[a0,a1,a2,a3]) (vs:=[b0,b1,b2,b3]) rfl hx hy]
  rfl
def qI:Nat × Eng.Spec:=(88,ar [(.arr 4 (.int .u64)),(.arr 4 (.int .u64))] [.val (.arr 4 (.int .u64))] lT pL)
theorem uk:enters Tryz.prog 128 Tryz.f128:=ek
theorem md:aB Tryz.prog 128 [] [.val (.arr 4 (.int .u64))] aM (fun _=>True) (fun _=>(ms,())):=by
 refine ax (sp:=aF []) aR mixed uk (by decide) (by decide) ?_
 intro w M0 xs _ _
 exact ao (X:=((ms,()):List Int × Unit)=(ms,())) (by kernel_rfl) rfl
def nu:Nat × Eng.Spec:=(128,ar [] [.val (.arr 4 (.int .u64))] (fun _=>True) (fun _=>(ms,())))
abbrev sF:HL [(.arr 4 (.int .u64))]->Prop:=fun (xs,_)=>Ws xs
abbrev kh:HL [(.arr 4 (.int .u64))]->HO [.val (.arr 4 (.int .u64))]:=fun (xs,_)=>(if val xs<M then xs else aK 4 (val xs-M),())
theorem Dt:enters Tryz.prog 84 Tryz.f84:=ek
theorem xX:aB Tryz.prog 84 [(.arr 4 (.int .u64))] [.val (.arr 4 (.int .u64))] aM sF kh:=by
 refine ax (sp:=aF [pW,nu]) (ai (ak mZ) (ai (ak md) aR)) mixed Dt (by decide) (by decide) ?_
 rintro w M0 ⟨xs,⟨⟩⟩ _ hx
 refine ao (X:=(True/\(Ws xs/\Ws ms)/\((((if val xs<val ms then 1 else 0:Int) != 0)=true->((xs,()):List Int × Unit)=kh (xs,()))/\(((if val xs<val ms then 1 else 0:Int) != 0)=false->((aK 4 (val xs-val ms),()):List Int × Unit)=kh (xs,()))))) (by kernel_rfl) ?_
 refine⟨trivial,⟨hx,mW⟩,?_⟩
 rw[fM]
 by_cases h:val xs<M
 ·simp[h,kh]
 ·simp[h,kh]
def wQ:Nat × Eng.Spec:=(84,ar [(.arr 4 (.int .u64))] [.val (.arr 4 (.int .u64))] sF kh)
abbrev bX:HL [(.arr 4 (.int .u64)),(.arr 4 (.int .u64))]->Prop:=fun (xs,ys,_)=>Ws xs/\Ws ys/\val xs<M
abbrev fb:HL [(.arr 4 (.int .u64)),(.arr 4 (.int .u64))]->HO [.val (.arr 4 (.int .u64))]:=fun (xs,ys,_)=>(aK 4 (val xs*val ys*rinv%M),())
theorem lI:enters Tryz.prog 43 Tryz.f43:=ek
def oL (xs ys:List Int) (g:Int × List Int):St :=
 aY Tryz.f43.ntmps 88 ([(2,.is (.one (.ptr 0 0))),(4,.is (.one (.ptr 16 0)))]++[(7,sI .u64 (g.2.getD 0 0)),(8,sI .u64 (g.2.getD 1 0)),(9,sI .u64 (g.2.getD 2 0)),(10,sI .u64 (g.2.getD 3 0))]++[(14,sA .u64 4 ys),(15,sI .i64 g.1)])
  [(0,[.ints .u64 4 xs]),(16,[.ints .u64 4 (ub 4)])]
def yX (g:Int × List Int):St:=aY Tryz.f43.ntmps 88 ([(4,.is (.one (.ptr 16 0)))]++[(7,sI .u64 (g.2.getD 0 0)),(8,sI .u64 (g.2.getD 1 0)),(9,sI .u64 (g.2.getD 2 0)),(10,sI .u64 (g.2.getD 3 0))]) [(16,[.ints .u64 4 (ub 4)])]
def oM (xs ys:List Int) (g:Int × List Int):Int × List Int:=(IntKind.i64.wrap (g.1+1),kT 18446744069414584319 xs ms g.2 (ys.getD g.1.toNat 0))
def oo:List Int->List Int->List Int->Int->Int->Int->Int->Prop->Prop
 | x::xs,p::ps,t::ts,v,m,a,c,K =>
  fX (x,v,t,a,())/\fX (m,p,(x*v+t+a)%18446744073709551616,c,()) /\
   oo xs ps ts v m ((x*v+t+a)/18446744073709551616) ((m*p+(x*v+t+a)%18446744073709551616+c)/18446744073709551616) K
 | _,_,_,_,_,_,_,K=>K
theorem yJ {K:Prop} {v m:Int} (hv:dF v) (hm:dF m) (hK:K):∀ (xs ps ts:List Int) (a c:Int),Ws xs->Ws ps->Ws ts->dF a->dF c->oo xs ps ts v m a c K:=by
 intro xs
 induction xs with
 | nil=>intro ps ts a c _ _ _ _ _;exact hK
 | cons x xs ih =>
  intro ps ts a c hx hp ht ha hc
  cases ps with
  | nil=>exact hK
  | cons p ps =>
   cases ts with
   | nil=>exact hK
   | cons t ts =>
    have x1:=hx x (by simp)
    have p1:=hp p (by simp)
    have t1:=ht t (by simp)
    have hxv:=jy (m:=18446744073709551615) (n:=18446744073709551615) x1.1 (by have:=x1.2;omega) hv.1 (by have:=hv.2;omega)
    have cD:=jy (m:=18446744073709551615) (n:=18446744073709551615) hm.1 (by have:=hm.2;omega) p1.1 (by have:=p1.2;omega)
    obtain⟨t2,t3⟩:=t1
    obtain⟨a2,a3⟩:=ha
    obtain⟨c2,c3⟩:=hc
    simp only[oo]
    generalize x*v=xv at *
    generalize m*p=mp at *
    refine⟨⟨x1,hv,⟨t2,t3⟩,a2,a3⟩,⟨hm,p1,⟨by omega,by omega⟩,c2,c3⟩,?_⟩
    exact ih ps ts _ _ (fun y hy=>hx y (by simp[hy])) (fun y hy=>hp y (by simp[hy])) (fun y hy=>ht y (by simp[hy])) ⟨by omega,by omega⟩ ⟨by omega,by omega⟩
def pZ (xs ps ts:List Int) (v:Int) (K:Prop):Prop :=
 match xs,ps,ts with
 | x::xs,p::ps,t::ts =>
  fX (x,v,t,(0:Int),())/\fX (((x*v+t+0)%18446744073709551616)*18446744069414584319%18446744073709551616,p,(x*v+t+0)%18446744073709551616,(0:Int),()) /\
  oo xs ps ts v (((x*v+t+0)%18446744073709551616)*18446744069414584319%18446744073709551616) ((x*v+t+0)/18446744073709551616)
   (((((x*v+t+0)%18446744073709551616)*18446744069414584319%18446744073709551616)*p+(x*v+t+0)%18446744073709551616+0)/18446744073709551616) K
 | _,_,_=>K
theorem wW {K:Prop} {v:Int} (hv:dF v) (hK:K) {xs ps ts:List Int} (hx:Ws xs) (hp:Ws ps) (ht:Ws ts):pZ xs ps ts v K:=by
 unfold pZ
 split
 ·rename_i x xs p ps t ts
  have x1:=hx x (by simp)
  have p1:=hp p (by simp)
  have t1:=ht t (by simp)
  have hxv:=jy (m:=18446744073709551615) (n:=18446744073709551615) x1.1 (by have:=x1.2;omega) hv.1 (by have:=hv.2;omega)
  obtain⟨t2,t3⟩:=t1
  generalize x*v=xv at *
  generalize hm:((xv+t+0)%18446744073709551616)*18446744069414584319%18446744073709551616=m
  have hm1:dF m:=⟨by omega,by omega⟩
  have cD:=jy (m:=18446744073709551615) (n:=18446744073709551615) hm1.1 (by have:=hm1.2;omega) p1.1 (by have:=p1.2;omega)
  generalize m*p=mp at *
  refine⟨⟨x1,hv,⟨t2,t3⟩,by omega,by omega⟩,⟨hm1,p1,⟨by omega,by omega⟩,by omega,by omega⟩,?_⟩
  exact yJ hv hm1 hK xs ps ts _ _ (fun y hy=>hx y (by simp[hy])) (fun y hy=>hp y (by simp[hy])) (fun y hy=>ht y (by simp[hy])) ⟨by omega,by omega⟩ ⟨by omega,by omega⟩
 ·exact hK
def fE (xs ys:List Int) (k:Nat):List Int:=foldM 18446744069414584319 xs ms (List.replicate 4 0) (ys.take k)
def s9 (xs ys:List Int) (g:Int × List Int):Prop:=∃ k:Nat,k<=4/\g=((k:Int),fE xs ys k)
theorem vZ {can:Int} {xs ps:List Int}:∀ (vs ts:List Int) (v:Int),foldM can xs ps ts (vs++[v])=kT can xs ps (foldM can xs ps ts vs) v:=by
 intro vs
 induction vs with
 | nil=>intro ts v;rfl
 | cons u vs ih=>intro ts v;exact ih _ _
theorem eF:aB Tryz.prog 43 [(.arr 4 (.int .u64)),(.arr 4 (.int .u64))] [.val (.arr 4 (.int .u64))] aM bX fb:=by
 refine bh (sp:=aF [sV,wQ]) lI (by decide) (by decide) (by kernel_rfl) ?_
 have hsp:aN Tryz.prog (aF [sV,wQ]):=ai (ak xY) (ai (ak xX) aR)
 rintro w M0 ⟨xs,ys,⟨⟩⟩ ⟨⟨h1,_⟩,⟨h2,_⟩,_⟩ ⟨hx,hy,hxM⟩
 match xs,h1,hx,hxM with
 | [a0,a1,a2,a3],_,hx,hxM =>
  have hyl:List.length ys=4:=h2
  have hxl:[a0,a1,a2,a3].length=ms.length:=rfl
  have hfold:∀ k,(fE [a0,a1,a2,a3] ys k).length=ms.length/\Ws (fE [a0,a1,a2,a3] ys k)/\val (fE [a0,a1,a2,a3] ys k)<val [a0,a1,a2,a3]+val ms:=by
   intro k
   have:=v5 (cancel:=18446744069414584319) hxl hx mW (by simp[ms]) (by decide) (by rw[fM];exact hxM) (by rw[fM];exact BJ) (ys.take k) (List.replicate 4 0) (fun y hy'=>hy y (List.mem_of_mem_take hy')) (by rfl)
    (by intro x hx;rw[(List.mem_replicate.1 hx).2];exact⟨by omega,by omega⟩) (by rw[fM,show val (List.replicate 4 0)=0 from by decide];have:=dM hx;have:=BI;omega)
   exact⟨this.1,this.2.1,this.2.2.1⟩
  have hmont:=EI (cancel:=18446744069414584319) (xs:=[a0,a1,a2,a3]) (ps:=ms) (ys:=ys) (rinv:=rinv) hxl hyl hx mW hy (by simp[ms]) (by decide) (by rw[fM];exact hxM) (by rw[fM];exact BJ) (by rw[fM];exact D7)
  rw[fM] at hmont
  -- what holds at each round's head
  have J0:s9 [a0,a1,a2,a3] ys (0,List.replicate 4 0):=⟨0,by omega,by simp[fE,foldM]⟩
  show Tr _ _ _ _ _ _ _
  refine aP hsp mixed 3 (oL [a0,a1,a2,a3] ys (0,List.replicate 4 0)) True ?_ (fun _=>?_)
  ·refine ao (X:=(oL [a0,a1,a2,a3] ys (0,List.replicate 4 0)).ah True) (by kernel_rfl) (aA trivial)
  refine It hsp mixed (oL [a0,a1,a2,a3] ys) (s9 [a0,a1,a2,a3] ys) (fun g=>(4-g.1).toNat) (oM [a0,a1,a2,a3] ys) yX (fun g=>g.2=fE [a0,a1,a2,a3] ys 4) (0,List.replicate 4 0) (c:=aI (aJ Tryz.f43) 3) (by kernel_rfl) (by kernel_rfl)
   (aC (by kernel_rfl) (by kernel_rfl) J0) ?_ ?_
  ·rintro g ⟨k,hk,rfl⟩
   obtain⟨f1,f2,f3⟩:=hfold k
   have hts:∃ t0 t1 t2 t3,fE [a0,a1,a2,a3] ys k=[t0,t1,t2,t3]:=by
    match fE [a0,a1,a2,a3] ys k,f1 with
    | [t0,t1,t2,t3],_=>exact⟨_,_,_,_,rfl⟩
   obtain⟨t0,t1,t2,t3,hts⟩:=hts
   rw[hts] at f2 ⊢
   refine ao (X:=((decide ((k:Int)<4)=true->(0<=(k:Int)/\(k:Int)<4)/\pZ [a0,a1,a2,a3] ms [t0,t1,t2,t3] (ys.getD (k:Int).toNat 0) ((oL [a0,a1,a2,a3] ys (oM [a0,a1,a2,a3] ys ((k:Int),[t0,t1,t2,t3]))).ah (s9 [a0,a1,a2,a3] ys (oM [a0,a1,a2,a3] ys ((k:Int),[t0,t1,t2,t3]))/\(4-(oM [a0,a1,a2,a3] ys ((k:Int),[t0,t1,t2,t3])).1).toNat<(4-(k:Int)).toNat)))
    /\ (decide ((k:Int)<4)=false->(yX ((k:Int),[t0,t1,t2,t3])).ah ([t0,t1,t2,t3]=fE [a0,a1,a2,a3] ys 4)))) (by kernel_rfl) ?_
   constructor
   ·intro hlt
    have hlt:k<4:=by have:=Odt hlt;omega
    have hv:dF (ys.getD (k:Int).toNat 0):=by
     rw[List.getD_eq_getElem?_getD,Int.toNat_natCast,List.getElem?_eq_getElem (by omega)]
     exact hy _ (List.getElem_mem _)
    refine⟨⟨by omega,by omega⟩,wW hv (aA ⟨⟨k+1,by omega,?_⟩,?_⟩) hx mW f2⟩
    ·have e1:IntKind.i64.wrap ((k:Int)+1)=((k+1:Nat):Int):=by rw[wrap_i64 (by omega) (by omega)];omega
     have e2:fE [a0,a1,a2,a3] ys (k+1)=kT 18446744069414584319 [a0,a1,a2,a3] ms (fE [a0,a1,a2,a3] ys k) (ys.getD (k:Int).toNat 0):=by
      unfold fE
      rw[List.take_succ_eq_append_getElem (by omega),vZ]
      rw[List.getD_eq_getElem?_getD,Int.toNat_natCast,List.getElem?_eq_getElem (by omega)]
      rfl
     show (IntKind.i64.wrap ((k:Int)+1),kT 18446744069414584319 [a0,a1,a2,a3] ms [t0,t1,t2,t3] (ys.getD (k:Int).toNat 0))=_
     rw[e1,e2,hts]
    ·show (4-IntKind.i64.wrap ((k:Int)+1)).toNat<_
     rw[wrap_i64 (by omega) (by omega)];omega
   ·intro hge
    have hge:k=4:=by
     have:=Odf hge
     omega
    refine aA ?_
    rw[<- hts,hge]
  ·rintro⟨i,ts⟩ hts
   have hts:ts=fE [a0,a1,a2,a3] ys 4:=hts
   obtain⟨f1,f2,f3⟩:=hfold 4
   have hall:ys.take 4=ys:=List.take_of_length_le (by omega)
   have hts2:∃ t0 t1 t2 t3,fE [a0,a1,a2,a3] ys 4=[t0,t1,t2,t3]:=by
    match fE [a0,a1,a2,a3] ys 4,f1 with
    | [t0,t1,t2,t3],_=>exact⟨_,_,_,_,rfl⟩
   obtain⟨t0,t1,t2,t3,hts2⟩:=hts2
   subst hts
   rw[hts2] at f2 ⊢
   refine bf hsp mixed _ _ ?_
   refine ao (X:=(Ws [t0,t1,t2,t3]/\((if val [t0,t1,t2,t3]<M then [t0,t1,t2,t3] else aK 4 (val [t0,t1,t2,t3]-M),()):List Int × Unit)=fb ([a0,a1,a2,a3],ys,()))) (by kernel_rfl) ?_
   refine⟨f2,?_⟩
   have e:foldM 18446744069414584319 [a0,a1,a2,a3] ms (List.replicate ms.length 0) ys=[t0,t1,t2,t3]:=by
    have:=hts2
    unfold fE at this
    rw[hall] at this
    exact this
   rw[e] at hmont
   obtain⟨m1,m2,m3,m4⟩:=hmont
   have m0:=dM m2
   have hM:=BI
   simp only[fb,Prod.mk.injEq,and_true]
   rw[<- m4]
   split
   ·rename_i hlt
    rw[Int.emod_eq_of_lt m0 hlt]
    exact (pF f2).symm
   ·rename_i hge
    rw[show val [t0,t1,t2,t3]%M=val [t0,t1,t2,t3]-M from by
     rw[<- Int.sub_emod_right,Int.emod_eq_of_lt (by omega) (by omega)]]
def fy:Nat × Eng.Spec:=(43,ar [(.arr 4 (.int .u64)),(.arr 4 (.int .u64))] [.val (.arr 4 (.int .u64))] bX fb)
end
end Go.Proofs.YtbeeaekepmnfhaaGreatDoor.fr
namespace Go.Proofs.YtbeeaekepmnfhaaGreatDoor.fr
noncomputable section
open Go Go.Eng Go.RowKit Cr
theorem pk:enters Tryz.prog 46 Tryz.f46:=ek
abbrev iT:HL [.fr,.fr]->HO [.val .fr]:=fun (x,y,_)=>((x:Fr)*y,())
theorem cL:aB Tryz.prog 46 [.fr,.fr] [.val .fr] aM (fun _=>True) iT:=by
 refine ax (sp:=aF [fy]) (ai (ak eF) aR) mixed pk (by decide) (by decide) ?_
 rintro w M0 ⟨x,y,⟨⟩⟩ _ _
 refine ao (X:=(bX (enc x,enc y,())/\Canon Mr (aK 4 (val (enc x)*val (enc y)*rinv%M))/\(dec (aK 4 (val (enc x)*val (enc y)*rinv%M)),())=iT (x,y,()))) (by kernel_rfl) ?_
 rw[show aK 4 (val (enc x)*val (enc y)*rinv%M)=enc (x*y) from tV x y]
 exact⟨⟨ef x,ef y,(b7 x).2.2⟩,b7 _,by rw[dt]⟩
def cK:Nat × Eng.Spec:=(46,ar [.fr,.fr] [.val .fr] (fun _=>True) iT)
theorem kK:enters Tryz.prog 86 Tryz.f86:=ek
abbrev e9:HL [.fr]->HO [.val .fr]:=fun (x,_)=>((x:Fr)*x,())
theorem b9:aB Tryz.prog 86 [.fr] [.val .fr] aM (fun _=>True) e9:=by
 refine ax (sp:=aF [fy]) (ai (ak eF) aR) mixed kK (by decide) (by decide) ?_
 rintro w M0 ⟨x,⟨⟩⟩ _ _
 refine ao (X:=(bX (enc x,enc x,())/\Canon Mr (aK 4 (val (enc x)*val (enc x)*rinv%M))/\(dec (aK 4 (val (enc x)*val (enc x)*rinv%M)),())=e9 (x,()))) (by kernel_rfl) ?_
 rw[show aK 4 (val (enc x)*val (enc x)*rinv%M)=enc (x*x) from tV x x]
 exact⟨⟨ef x,ef x,(b7 x).2.2⟩,b7 _,by rw[dt]⟩
def bJ:Nat × Eng.Spec:=(86,ar [.fr] [.val .fr] (fun _=>True) e9)
theorem j9:enters Tryz.prog 47 Tryz.f47:=ek
abbrev dO:HL [.fr,.fr]->HO [.val .fr]:=fun (x,y,_)=>((x:Fr)+y,())
theorem cC:aB Tryz.prog 47 [.fr,.fr] [.val .fr] aM (fun _=>True) dO:=by
 refine ax (sp:=aF [wQ,qI]) (ai (ak xX) (ai (ak pA) aR)) mixed j9 (by decide) (by decide) ?_
 rintro w M0 ⟨x,y,⟨⟩⟩ _ _
 refine ao (X:=(lT (enc x,enc y,())/\sF (aK 4 (val (enc x)+val (enc y)),()) /\
  Canon Mr (if val (aK 4 (val (enc x)+val (enc y)))<M then aK 4 (val (enc x)+val (enc y)) else aK 4 (val (aK 4 (val (enc x)+val (enc y)))-M)) /\
  (dec (if val (aK 4 (val (enc x)+val (enc y)))<M then aK 4 (val (enc x)+val (enc y)) else aK 4 (val (aK 4 (val (enc x)+val (enc y)))-M)),())=dO (x,y,()))) (by kernel_rfl) ?_
 rw[show (if val (aK 4 (val (enc x)+val (enc y)))<M then aK 4 (val (enc x)+val (enc y)) else aK 4 (val (aK 4 (val (enc x)+val (enc y)))-M))=enc (x+y) from Jn x y]
 exact⟨⟨ef x,ef y⟩,iB _ _,b7 _,by rw[dt]⟩
def cv:Nat × Eng.Spec:=(47,ar [.fr,.fr] [.val .fr] (fun _=>True) dO)
theorem uU:enters Tryz.prog 111 Tryz.f111:=ek
abbrev kj:HL [.fr,.fr]->HO [.val .fr]:=fun (x,y,_)=>((x:Fr)-y,())
theorem gn:aB Tryz.prog 111 [.fr,.fr] [.val .fr] aM (fun _=>True) kj:=by
 refine ax (sp:=aF [pW,qI,nu]) (ai (ak mZ) (ai (ak pA) (ai (ak md) aR))) mixed uU (by decide) (by decide) ?_
 rintro w M0 ⟨x,y,⟨⟩⟩ _ _
 refine ao (X:=(lT (enc x,enc y,()) /\
  ((((if val (enc x)<val (enc y) then 1 else 0:Int) != 0)=true->True/\lT (aK 4 (val (enc x)-val (enc y)),ms,())/\Canon Mr (aK 4 (val (aK 4 (val (enc x)-val (enc y)))+val ms))/\(dec (aK 4 (val (aK 4 (val (enc x)-val (enc y)))+val ms)),())=kj (x,y,())) /\
   (((if val (enc x)<val (enc y) then 1 else 0:Int) != 0)=false->Canon Mr (aK 4 (val (enc x)-val (enc y)))/\(dec (aK 4 (val (enc x)-val (enc y))),())=kj (x,y,()))))) (by kernel_rfl) ?_
 rw[fM]
 refine⟨⟨ef x,ef y⟩,?_⟩
 by_cases h:val (enc x)<val (enc y)
 ·rw[show aK 4 (val (aK 4 (val (enc x)-val (enc y)))+M)=enc (x-y) from CT h]
  exact⟨fun _=>⟨trivial,⟨iB _ _,mW⟩,b7 _,by rw[dt]⟩,fun hf=>by simp[h] at hf⟩
 ·rw[show aK 4 (val (enc x)-val (enc y))=enc (x-y) from CS h]
  exact⟨fun hf=>by simp[h] at hf,fun _=>⟨b7 _,by rw[dt]⟩⟩
def iI:Nat × Eng.Spec:=(111,ar [.fr,.fr] [.val .fr] (fun _=>True) kj)
theorem uS:enters Tryz.prog 68 Tryz.f68:=ek
abbrev lR:HL [.fr]->HO [.val .fr]:=fun (x,_)=>(-(x:Fr),())
theorem jF (x:Fr):0-x=-x:=Zm.ext (by rw[Nh,Cn,ma];simp)
theorem iA:aB Tryz.prog 68 [.fr] [.val .fr] aM (fun _=>True) lR:=by
 refine ax (sp:=aF [iI]) (ai (ak gn) aR) mixed uS (by decide) (by decide) ?_
 rintro w M0 ⟨x,⟨⟩⟩ _ _
 refine ao (X:=(True/\((0:Fr)-x,())=lR (x,()))) (by kernel_rfl) ?_
 exact⟨trivial,by rw[jF]⟩
def jb:Nat × Eng.Spec:=(68,ar [.fr] [.val .fr] (fun _=>True) lR)
theorem uT:enters Tryz.prog 85 Tryz.f85:=ek
theorem nM:aB Tryz.prog 85 [] [.val .fr] aM (fun _=>True) (fun _=>((1:Fr),())):=by
 refine ax (sp:=aF []) aR mixed uT (by decide) (by decide) ?_
 rintro w M0 ⟨⟩ _ _
 refine ao (X:=(Canon Mr [8589934590,6378425256633387010,11064306276430008309,1739710354780652911]/\(dec [8589934590,6378425256633387010,11064306276430008309,1739710354780652911],())=((1:Fr),()))) (by kernel_rfl) ?_
 refine⟨⟨rfl,?_,by decide⟩,?_⟩
 ·intro x hx;simp at hx;rcases hx with rfl|rfl|rfl|rfl<;>exact⟨by decide,by decide⟩
 ·rw[show (dec [8589934590,6378425256633387010,11064306276430008309,1739710354780652911]:Fr)=1 from Zm.ext (by decide)]
def kS:Nat × Eng.Spec:=(85,ar [] [.val .fr] (fun _=>True) (fun _=>((1:Fr),())))
end
end Go.Proofs.YtbeeaekepmnfhaaGreatDoor.fr
