import Derived.Test.YtbeeaekepmnfhaaGreatDoorML24oPQ
set_option maxRecDepth 100000
namespace Go.Proofs.YtbeeaekepmnfhaaGreatDoor.g1
noncomputable section
open Go Go.Eng Go.RowKit Cr
theorem cg:b4≠0:=by decide
def gG:Fp × Fp:=cr (gx,gy)
def dR (p q:Fp × Fp):Fp × Fp:=cr (cZ (F:=Fp) (mz [p,q] 2))
def iE (p:Fp × Fp):Fp × Fp:=cr (aX (F:=Fp) p)
def eY (p:Fp × Fp) (k:List Int):Fp × Fp:=cr (CW p k)
def a6 (p:Fp × Fp) (k:Fr):Fp × Fp:=cr (lE p k)
theorem Gw:aB Tryz.prog 41 [] [.val bo] aM (fun _=>True) (fun _=>(gG,())):=YL.out fun _=>by show (gG,())=((gx,gy),());rw[gG,ay]
theorem se:aB Tryz.prog 106 [bo,bo] [.val bo] aM (fun _=>True) (fun (p,q,_)=>(dR p q,())):=DB.out fun (p,q,_)=>by show (dR p q,())=(_,());rw[dR,ay]
theorem Ca:aB Tryz.prog 96 [bo] [.val bo] aM (fun _=>True) (fun (p,_)=>(iE p,())):=zr.out fun (p,_)=>by show (iE p,())=(_,());rw[iE,ay]
theorem A0:aB Tryz.prog 82 [bo,.sl (.int .u8)] [.val bo] aM bX (fun (p,k,_)=>(eY p k,())):=eF.out fun (p,k,_)=>by show (eY p k,())=(_,());rw[eY,ay];rfl
theorem B9:aB Tryz.prog 42 [bo,.fr] [.val bo] aM (fun _=>True) (fun (p,k,_)=>(a6 p k,())):=zq.out fun (p,k,_)=>by show (a6 p k,())=(_,());rw[a6,ay]
def FC:Nat × Eng.Spec:=(41,ar [] [.val bo] (fun _=>True) (fun _=>(gG,())))
def oy:Nat × Eng.Spec:=(106,ar [bo,bo] [.val bo] (fun _=>True) (fun (p,q,_)=>(dR p q,())))
def CN:Nat × Eng.Spec:=(96,ar [bo] [.val bo] (fun _=>True) (fun (p,_)=>(iE p,())))
def zX:Nat × Eng.Spec:=(82,ar [bo,.sl (.int .u8)] [.val bo] bX (fun (p,k,_)=>(eY p k,())))
def zW:Nat × Eng.Spec:=(42,ar [bo,.fr] [.val bo] (fun _=>True) (fun (p,k,_)=>(a6 p k,())))
abbrev mE (p:Fp × Fp):Prop:=aV b4 p
theorem lz:gG=(gx,gy):=ay _
theorem me:mE gG:=by rw[lz];exact (v9 _).1 (by decide +kernel)
theorem pE {p q:Fp × Fp} (hp:mE p) (hq:mE q):dR p q=ae p q:=by rw[dR,ay];exact add_eq cg hp hq
theorem va (p:Fp × Fp):iE p=aX p:=ay _
theorem zA {p:Fp × Fp} (hp:mE p) {k:List Int} (hk:Bs k):eY p k=aq p (num k).toNat:=by rw[eY,ay];exact wZ cg hp hk
theorem eh {p:Fp × Fp} (hp:mE p) (k:Fr):a6 p k=aq p k.v.toNat:=by
 rw[a6,ay,lE,CW,wZ cg hp (kt _ _),wq 32 _ k.nn (Int.lt_trans k.lt (by decide))]
end
end Go.Proofs.YtbeeaekepmnfhaaGreatDoor.g1
namespace Cr
open Rg Fd
structure Ev (F:Type) [Fd F] where
 V:Type
 φ:V->F
 add:V->V->V
 sub:V->V->V
 mul:V->V->V
 isz:V->Bool
 zero:V
 force:{α:Type}->V->(V->α)->α
 add_φ:∀ a b,φ (add a b)=φ a+φ b
 sub_φ:∀ a b,φ (sub a b)=φ a-φ b
 mul_φ:∀ a b,φ (mul a b)=φ a*φ b
 isz_φ:∀ a,isz a=true↔φ a=0
 zero_φ:φ zero=0
 force_eq:∀ {α:Type} (a:V) (k:V->α),force a k=k a
section
variable {F:Type} [Fd F] (E:Ev F)
abbrev Ev.J:=E.V × E.V × E.V
def Ev.φ3 (a:E.J):Jc F:=(E.φ a.1,E.φ a.2.1,E.φ a.2.2)
def Ev.EB (a:E.J):E.J:=match E.isz a.2.2 with
 | true=>(E.zero,E.zero,E.zero)
 | false =>
  E.force (E.mul a.1 a.1) fun xx=>E.force (E.mul a.2.1 a.2.1) fun yy=>E.force (E.add (E.add xx xx) xx) fun sl =>
  E.force (E.mul a.1 yy) fun m1=>E.force (E.add m1 m1) fun m2=>E.force (E.add m2 m2) fun mid =>
  E.force (E.add yy yy) fun y2=>E.force (E.mul y2 y2) fun fall =>
  E.force (E.sub (E.sub (E.mul sl sl) mid) mid) fun x =>
  E.force (E.sub (E.sub (E.mul sl (E.sub mid x)) fall) fall) fun y =>
  E.force (E.mul a.2.1 a.2.2) fun z1=>E.force (E.add z1 z1) fun z=>(x,y,z)
theorem Ev.Tw (a:E.J):E.φ3 (E.EB a)=iF (E.φ3 a):=by
 unfold Ev.EB iF
 cases h:E.isz a.2.2 with
 | true =>
  have:(E.φ3 a).2.2=0:=(E.isz_φ _).1 h
  rw[if_pos this]
  show (E.φ E.zero,E.φ E.zero,E.φ E.zero)=_
  rw[E.zero_φ]
 | false =>
  have:(E.φ3 a).2.2≠0:=fun e=>by have:=(E.isz_φ a.2.2).2 e;rw[h] at this;cases this
  rw[if_neg this]
  simp only[E.force_eq]
  simp only[Ev.φ3,DK,Ks,E.add_φ,E.sub_φ,E.mul_φ]
def Ev.fC (a c:E.J):E.J:=match E.isz a.2.2 with
 | true=>c
 | false=>match E.isz c.2.2 with
  | true=>a
  | false =>
   E.force (E.mul a.2.2 a.2.2) fun aa=>E.force (E.mul c.2.2 c.2.2) fun bb =>
   E.force (E.mul a.1 bb) fun left=>E.force (E.mul c.1 aa) fun right =>
   E.force (E.mul (E.mul a.2.1 bb) c.2.2) fun low=>E.force (E.mul (E.mul c.2.1 aa) a.2.2) fun high =>
   E.force (E.sub right left) fun wide=>E.force (E.sub high low) fun rise =>
   match E.isz wide with
   | true=>match E.isz rise with
    | true=>E.EB a
    | false=>(E.zero,E.zero,E.zero)
   | false =>
    E.force (E.mul wide wide) fun sq=>E.force (E.mul sq wide) fun cube=>E.force (E.mul left sq) fun l2 =>
    E.force (E.sub (E.sub (E.sub (E.mul rise rise) cube) l2) l2) fun x =>
    E.force (E.sub (E.mul rise (E.sub l2 x)) (E.mul low cube)) fun y =>
    E.force (E.mul (E.mul a.2.2 c.2.2) wide) fun z=>(x,y,z)
theorem Ev.GV (a c:E.J):E.φ3 (E.fC a c)=Cr.fC (E.φ3 a) (E.φ3 c):=by
 have nz:∀ v:E.V,E.isz v=false->E.φ v≠0:=fun v h e=>by have:=(E.isz_φ v).2 e;rw[h] at this;cases this
 unfold Ev.fC Cr.fC
 cases h:E.isz a.2.2 with
 | true=>rw[if_pos (show (E.φ3 a).2.2=0 from (E.isz_φ _).1 h)]
 | false =>
  rw[if_neg (show (E.φ3 a).2.2≠0 from nz _ h)]
  cases h2:E.isz c.2.2 with
  | true=>rw[if_pos (show (E.φ3 c).2.2=0 from (E.isz_φ _).1 h2)]
  | false =>
   rw[if_neg (show (E.φ3 c).2.2≠0 from nz _ h2)]
   simp only[E.force_eq]
   have ew:E.φ (E.sub (E.mul c.1 (E.mul a.2.2 a.2.2)) (E.mul a.1 (E.mul c.2.2 c.2.2)))=(E.φ3 c).1*((E.φ3 a).2.2*(E.φ3 a).2.2)-(E.φ3 a).1*((E.φ3 c).2.2*(E.φ3 c).2.2):=by simp only[Ev.φ3,E.sub_φ,E.mul_φ]
   have er:E.φ (E.sub (E.mul (E.mul c.2.1 (E.mul a.2.2 a.2.2)) a.2.2) (E.mul (E.mul a.2.1 (E.mul c.2.2 c.2.2)) c.2.2))=(E.φ3 c).2.1*((E.φ3 a).2.2*(E.φ3 a).2.2)*(E.φ3 a).2.2-(E.φ3 a).2.1*((E.φ3 c).2.2*(E.φ3 c).2.2)*(E.φ3 c).2.2:=by simp only[Ev.φ3,E.sub_φ,E.mul_φ]
   cases h3:E.isz (E.sub (E.mul c.1 (E.mul a.2.2 a.2.2)) (E.mul a.1 (E.mul c.2.2 c.2.2))) with
   | true =>
    have:=(E.isz_φ _).1 h3
    rw[ew] at this
    rw[if_pos this]
    cases h4:E.isz (E.sub (E.mul (E.mul c.2.1 (E.mul a.2.2 a.2.2)) a.2.2) (E.mul (E.mul a.2.1 (E.mul c.2.2 c.2.2)) c.2.2)) with
    | true =>
     have:=(E.isz_φ _).1 h4
     rw[er] at this
     rw[if_pos this]
     exact E.Tw a
    | false =>
     have:=nz _ h4
     rw[er] at this
     rw[if_neg this]
     show (E.φ E.zero,E.φ E.zero,E.φ E.zero)=_
     rw[E.zero_φ]
   | false =>
    have:=nz _ h3
    rw[ew] at this
    rw[if_neg this]
    simp only[Ev.φ3,DL,GU,E.sub_φ,E.mul_φ]
def Ev.gK (o:E.J):Nat->Nat->E.J
 | 0,_=>(E.zero,E.zero,E.zero)
 | f+1,n=>match Nat.beq n 0 with
  | true=>(E.zero,E.zero,E.zero)
  | false=>match Nat.beq (n%2) 1 with
   | true=>E.fC (E.EB (Ev.gK o f (n/2))) o
   | false=>E.EB (Ev.gK o f (n/2))
variable {E} in
theorem Ev.wg {b:F} (hb:b≠0) {o:E.J} {P:F × F} (ho:du b (E.φ3 o) P):∀ f n,n<2^f->du b (E.φ3 (E.gK o f n)) (aq P n):=by
 have h0:du b (E.φ3 (E.zero,E.zero,E.zero)) (O2:F × F):=.inl ⟨E.zero_φ,rfl⟩
 intro f
 induction f with
 | zero=>intro n h;have:n=0:=by simp at h;exact h
         subst this;exact h0
 | succ f ih =>
  intro n h
  unfold Ev.gK
  split
  ·rename_i hn;have:=Nat.eq_of_beq_eq_true hn;subst this;exact h0
  ·have hr:=ih (n/2) (by rw[Nat.pow_succ] at h;omega)
   have hd:=zU hb hr
   rw[<- E.Tw,<- cn hb ho.on] at hd
   split
   ·rename_i h1
    have h1:=Nat.eq_of_beq_eq_true h1
    have ha:=pV hb hd ho
    rw[<- E.GV] at ha
    have e:n=n/2+n/2+1:=by omega
    have:aq P n=ae (aq P (n/2+n/2)) P:=by
     conv=>lhs;rw[e]
     rfl
    rw[this]
    exact ha
   ·rename_i h1
    have h1:n%2≠1:=fun h2=>by rw[h2] at h1;exact absurd h1 (by decide)
    have e:n=n/2+n/2:=by omega
    have:aq P n=aq P (n/2+n/2):=by conv=>lhs;rw[e]
    rw[this]
    exact hd
end
end Cr
namespace Cr
open Rg Fd
def fc {α:Type} (n:Nat) (k:Nat->α):α:=Nat.rec (k 0) (fun m _=>k (m+1)) n
theorem zp {α:Type} (n:Nat) (k:Nat->α):fc n k=k n:=by cases n<;>rfl
def pN:Nat:=4002409555221667393417789825735904156556882819939007885332058136124031650490837864442687629129015664037894272559787
theorem C3 (n:Nat):(zm ((n%pN:Nat):Int):Fp)=zm (n:Int):=UW (by rw[Int.natCast_emod];exact Int.emod_emod_of_dvd _ (Int.dvd_refl _))
noncomputable def vT:Ev Fp where
 V:=Nat
 φ n:=zm (n:Int)
 add a b:=(a+b)%pN
 sub a b:=(a+(pN-b%pN))%pN
 mul a b:=(a*b)%pN
 isz a:=Nat.beq (a%pN) 0
 zero:=0
 force:=fc
 add_φ a b:=by rw[C3,o7,Int.natCast_add]
 sub_φ a b:=by
  rw[C3,y8]
  refine UW ?_
  have h:=Nat.mod_lt b (show 0<pN by decide)
  have e:((a+(pN-b%pN):Nat):Int)=(a:Int)-b+(pN:Int)*(1+(b:Int)/pN):=by
   have h2:=Int.emod_add_mul_ediv (b:Int) (pN:Int)
   rw[Int.mul_add,Int.mul_one]
   omega
  rw[e]
  exact Int.add_mul_emod_self_left _ _ _
 mul_φ a b:=by rw[C3,mN,Int.natCast_mul]
 isz_φ a:=by
  constructor
  ·intro h
   have h:=Nat.eq_of_beq_eq_true h
   rw[<- C3,h];rfl
  ·intro h
   have h:(zm (a:Int):Fp).v=0:=by rw[h,ma]
   have h:(a:Int)%(pN:Int)=0:=h
   have:a%pN=0:=by omega
   rw[this];rfl
 zero_φ:=rfl
 force_eq:=zp
def TD:Nat:=0x17f1d3a73197d7942695638c4fa9ac0fc3688c4f9774b905a14e3a3f171bac586c55e83ff97a1aeffb3af00adb22c6bb
def TE:Nat:=0x08b3f481e3aaa0f1a09e30ed741d8ae4fcf5e095d5d00af600db18cb2c04b3edd03cc744a2888ae40caa232946c5e7e1
theorem acG:vT.isz (vT.gK (TD,TE,(1:Nat)) 256 52435875175126190479447740508185965837690552500527637822603658699938581184513).2.2=true:=by kernel_rfl
end Cr
namespace Go.Proofs.YtbeeaekepmnfhaaGreatDoor.g1
open Go Go.Eng Go.RowKit Cr
theorem v7:gG≠O2:=by rw[lz];decide
def rN:Nat:=52435875175126190479447740508185965837690552500527637822603658699938581184513
theorem Gy:aq gG rN=O2:=by
 have h1:du b4 (vT.φ3 (TD,TE,(1:Nat))) gG:=by
  have h:=sL me
  unfold df at h
  rw[if_neg v7,lz] at h
  rw[lz]
  exact h
 have h2:=Ev.wg cg h1 256 rN (by decide)
 have h3:=(vT.isz_φ _).1 acG
 rcases h2 with ⟨_,h⟩|⟨h,_⟩
 ·exact h
 ·exact absurd h3 h
def Sub (p:Fp × Fp):Prop:=mE p/\aq p rN=O2
theorem lG:Sub gG:=⟨me,Gy⟩
theorem wY {p:Fp × Fp} (h:Sub p) (n:Nat):Sub (aq p n):=by
 refine⟨a7 cg h.1 n,?_⟩
 rw[bu cg h.1,Nat.mul_comm,<- bu cg h.1,h.2,fV]
theorem gQ {p:Fp × Fp} (h:Sub p) (k:Fr):Sub (a6 p k):=by rw[eh h.1];exact wY h _
theorem A8 {p:Fp × Fp} (h:Sub p) (m:Nat):aq p m=aq p (m%rN):=by
 conv=>lhs;rw[<- Nat.div_add_mod m rN]
 rw[cn cg h.1,<- bu cg h.1,h.2,fV,ct]
theorem qW (x:Fr):∃ n:Nat,x.v=(n:Int)/\n<rN:=by
 obtain⟨n,hn⟩:=Int.eq_ofNat_of_zero_le x.nn
 exact⟨n,hn,by have:=x.lt;have e:Mr=(rN:Int):=rfl;omega⟩
theorem qB {p:Fp × Fp} (h:Sub p) {x:Fr} {m:Nat} (hx:x.v=(m:Int)%(rN:Int)):a6 p x=aq p m:=by
 rw[eh h.1,hx,A8 h m,<- Int.natCast_emod,Int.toNat_natCast]
theorem mul_add {p:Fp × Fp} (h:Sub p) (x y:Fr):a6 p (x+y)=ae (a6 p x) (a6 p y):=by
 obtain⟨m,hm,_⟩:=qW x
 obtain⟨n,hn,_⟩:=qW y
 rw[qB h (x:=x+y) (m:=m+n) (by rw[ze,hm,hn,Int.natCast_add];rfl),eh h.1,eh h.1,hm,hn,Int.toNat_natCast,Int.toNat_natCast,cn cg h.1]
theorem pJ {p:Fp × Fp} (h:Sub p) (x y:Fr):a6 p (x*y)=a6 (a6 p x) y:=by
 obtain⟨m,hm,_⟩:=qW x
 obtain⟨n,hn,_⟩:=qW y
 rw[qB h (x:=x*y) (m:=m*n) (by rw[n9,hm,hn,Int.natCast_mul];rfl),eh (gQ h x).1,eh h.1,hm,hn,Int.toNat_natCast,Int.toNat_natCast,bu cg h.1]
theorem mul_zero {p:Fp × Fp} (h:Sub p):a6 p 0=O2:=by
 rw[eh h.1,ma];rfl
theorem mul_one {p:Fp × Fp} (h:Sub p):a6 p 1=p:=by
 rw[eh h.1,tH];exact gv
theorem mul_neg {p:Fp × Fp} (h:Sub p) (x:Fr):a6 p (-x)=aX (a6 p x):=by
 have e:ae (a6 p x) (a6 p (-x))=O2:=by rw[<- mul_add h,Rg.add_neg,mul_zero h]
 have hx:=(gQ h x).1
 have hn:=(gQ h (-x)).1
 have:=cancel cg hx hn
 rw[e,dD] at this
 exact this.symm
end Go.Proofs.YtbeeaekepmnfhaaGreatDoor.g1
