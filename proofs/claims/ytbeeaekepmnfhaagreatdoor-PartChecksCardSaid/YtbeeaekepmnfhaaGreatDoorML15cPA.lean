import Derived.KernelRfl
set_option maxRecDepth 100000
namespace Cr
class Rg (F:Type) extends Add F,Mul F,Neg F,Sub F,Zero F,One F where
 add_comm:∀ a b:F,a+b=b+a
 add_assoc:∀ a b c:F,a+b+c=a+(b+c)
 zero_add:∀ a:F,0+a=a
 neg_add:∀ a:F,-a+a=0
 sub_def:∀ a b:F,a-b=a + -b
 mul_comm:∀ a b:F,a*b=b*a
 mul_assoc:∀ a b c:F,a*b*c=a*(b*c)
 one_mul:∀ a:F,1*a=a
 add_mul:∀ a b c:F,(a+b)*c=a*c+b*c
namespace Rg
variable {F:Type} [Rg F]
theorem add_zero (a:F):a+0=a:=by rw[add_comm,zero_add]
theorem add_neg (a:F):a + -a=0:=by rw[add_comm,neg_add]
theorem mul_one (a:F):a*1=a:=by rw[mul_comm,one_mul]
theorem mul_add (a b c:F):a*(b+c)=a*b+a*c:=by rw[mul_comm,add_mul,mul_comm b,mul_comm c]
theorem add_left {a b c:F} (h:a+b=a+c):b=c:=by
 have:=congrArg (fun x => -a+x) h
 simpa only[<- add_assoc,neg_add,zero_add] using this
theorem zero_mul (a:F):0*a=0:=by
 have h:0*a+0*a=0*a+0:=by rw[<- add_mul,add_zero,add_zero]
 exact add_left h
theorem mul_zero (a:F):a*0=0:=by rw[mul_comm,zero_mul]
theorem neg_eq {a b:F} (h:a+b=0) : -a=b:=by
 have : -a+(a+b)=-a+0:=by rw[h]
 rw[<- add_assoc,neg_add,zero_add,add_zero] at this
 exact this.symm
theorem neg_mul (a b:F) : -a*b=-(a*b):=by
 refine (neg_eq ?_).symm
 rw[<- add_mul,add_neg,zero_mul]
theorem mul_neg (a b:F):a * -b=-(a*b):=by rw[mul_comm,neg_mul,mul_comm]
theorem neg_neg (a:F) : - -a=a:=neg_eq (neg_add a)
theorem neg_zero : -(0:F)=0:=neg_eq (zero_add 0)
theorem neg_add_rev (a b:F) : -(a+b)=-a + -b:=by
 refine neg_eq ?_
 rw[add_assoc,<- add_assoc b,add_comm b,add_assoc (-a),add_neg,add_zero,add_neg]
theorem sub_self (a:F):a-a=0:=by rw[sub_def,add_neg]
theorem eq_of_sub {a b:F} (h:a-b=0):a=b:=by
 rw[sub_def,add_comm] at h
 have:=neg_eq h
 rw[neg_neg] at this
 exact this.symm
theorem sub_of_eq {a b:F} (h:a=b):a-b=0:=by rw[h,sub_self]
theorem add_add_add (a b c d:F):a+b+(c+d)=a+c+(b+d):=by
 rw[add_assoc,add_assoc,<- add_assoc b,add_comm b c,add_assoc c]
def nc:Nat->F
 | 0=>0
 | n+1=>nc n+1
theorem nc_add (m n:Nat):nc (m+n)=(nc m+nc n:F):=by
 induction n with
 | zero=>exact (add_zero _).symm
 | succ n ih=>show nc (m+n)+1=nc m+(nc n+1);rw[ih,add_assoc]
theorem nc_mul (m n:Nat):nc (m*n)=(nc m*nc n:F):=by
 induction n with
 | zero=>exact (mul_zero _).symm
 | succ n ih=>show nc (m*n+m)=nc m*(nc n+1);rw[nc_add,ih,mul_add,mul_one]
def ic (a:Int):F:=nc a.toNat + -nc (-a).toNat
theorem ic_of {a:Int} {x y:Nat} (h:a=(x:Int)-y):ic a=(nc x + -nc y:F):=by
 unfold ic
 have e:a.toNat+y=x+(-a).toNat:=by omega
 have e2:(nc a.toNat+nc y:F)=nc x+nc (-a).toNat:=by rw[<- nc_add,<- nc_add,e]
 generalize (nc a.toNat:F)=p at *
 generalize (nc (-a).toNat:F)=q at *
 generalize (nc x:F)=u at *
 generalize (nc y:F)=v at *
 have:p=u+q + -v:=by rw[<- e2,add_assoc,add_neg,add_zero]
 rw[this,add_assoc,add_assoc,add_comm (-v),<- add_assoc q,add_neg,zero_add]
theorem ic_split (a:Int):a=(a.toNat:Int)-((-a).toNat:Nat):=by omega
theorem ic_add (a b:Int):ic (a+b)=(ic a+ic b:F):=by
 rw[ic_of (a:=a+b) (x:=a.toNat+b.toNat) (y:=(-a).toNat+(-b).toNat) (by omega),nc_add,nc_add,neg_add_rev]
 exact add_add_add _ _ _ _
theorem ic_mul (a b:Int):ic (a*b)=(ic a*ic b:F):=by
 have h:a*b=((a.toNat*b.toNat+(-a).toNat*(-b).toNat:Nat):Int)-((a.toNat*(-b).toNat+(-a).toNat*b.toNat:Nat):Int):=by
  conv=>lhs;rw[ic_split a,ic_split b]
  simp only[Int.natCast_add,Int.natCast_mul,Int.sub_mul,Int.mul_sub]
  omega
 rw[ic_of h]
 unfold ic
 generalize hp:(nc a.toNat:F)=p
 generalize hq:(nc (-a).toNat:F)=q
 generalize hu:(nc b.toNat:F)=u
 generalize hv:(nc (-b).toNat:F)=v
 rw[nc_add,nc_add,nc_mul,nc_mul,nc_mul,nc_mul,hp,hq,hu,hv,add_mul,mul_add,mul_add,mul_neg,neg_mul,neg_mul,mul_neg,neg_neg,neg_add_rev]
 rw[add_add_add (p*u) (q*v),add_comm (q*v)]
theorem ic_one:ic 1=(1:F):=by
 show (0+1:F) + -0=1
 rw[zero_add,neg_zero,add_zero]
theorem ic_zero:ic 0=(0:F):=by
 show (0:F) + -0=0
 rw[zero_add,neg_zero]
theorem ic_neg_one:ic (-1)=(-1:F):=by
 show (0:F) + -(0+1)=-1
 rw[zero_add,zero_add]
end Rg
inductive PE
 | v (i:Nat)
 | one
 | zero
 | add (a b:PE)
 | mul (a b:PE)
 | sub (a b:PE)
 | neg (a:PE)
instance : Add PE := ⟨.add⟩
instance : Mul PE := ⟨.mul⟩
instance : Sub PE := ⟨.sub⟩
instance : Neg PE := ⟨.neg⟩
instance : One PE := ⟨.one⟩
instance : Zero PE := ⟨.zero⟩
def nth {F:Type} [Zero F]:List F->Nat->F
 | [],_=>0
 | x::_,0=>x
 | _::l,n+1=>nth l n
def PE.ev {F:Type} [Rg F] (l:List F):PE->F
 | .v i=>nth l i
 | .one=>1
 | .zero=>0
 | .add a b=>a.ev l+b.ev l
 | .mul a b=>a.ev l*b.ev l
 | .sub a b=>a.ev l-b.ev l
 | .neg a => -a.ev l
abbrev Mo:=List Nat
abbrev Po:=List (Mo × Int)
def insM (i:Nat):Mo->Mo
 | []=>[i]
 | j::l=>match Nat.ble i j with
  | true=>i::j::l
  | false=>j::insM i l
def mulM:Mo->Mo->Mo
 | [],m=>m
 | i::l,m=>insM i (mulM l m)
def eqM:Mo->Mo->Bool
 | [],[]=>true
 | i::l,j::m=>match Nat.beq i j with
  | true=>eqM l m
  | false=>false
 | _,_=>false
def ltM:Mo->Mo->Bool
 | [],[]=>false
 | [],_=>true
 | _,[]=>false
 | i::l,j::m=>match Nat.beq i j with
  | true=>ltM l m
  | false=>Nat.blt i j
def addT (m:Mo) (c:Int):Po->Po
 | []=>[(m,c)]
 | t::p=>match eqM m t.1 with
  | true=>(m,c+t.2)::p
  | false=>match ltM m t.1 with
   | true=>(m,c)::t::p
   | false=>t::addT m c p
def addP:Po->Po->Po
 | [],q=>q
 | t::p,q=>addT t.1 t.2 (addP p q)
def mulT (m:Mo) (c:Int):Po->Po->Po
 | [],acc=>acc
 | t::q,acc=>addT (mulM m t.1) (c*t.2) (mulT m c q acc)
def mulP:Po->Po->Po
 | [],_=>[]
 | t::p,q=>mulT t.1 t.2 q (mulP p q)
def scP (c:Int):Po->Po
 | []=>[]
 | t::p=>(t.1,c*t.2)::scP c p
def PE.nf:PE->Po
 | .v i=>[([i],1)]
 | .one=>[([],1)]
 | .zero=>[]
 | .add a b=>addP a.nf b.nf
 | .mul a b=>mulP a.nf b.nf
 | .sub a b=>addP (scP (-1) b.nf) a.nf
 | .neg a=>scP (-1) a.nf
def isZ:Po->Bool
 | []=>true
 | t::p=>match t.2 with
  | .ofNat 0=>isZ p
  | _=>false
section
variable {F:Type} [Rg F] (l:List F)
open Rg
def evM:Mo->F
 | []=>1
 | i::m=>nth l i*evM m
def evP:Po->F
 | []=>0
 | t::p=>ic t.2*evM l t.1+evP p
theorem insM_ev (i:Nat):∀ m:Mo,evM l (insM i m)=nth l i*evM l m:=by
 intro m
 induction m with
 | nil=>rfl
 | cons j m ih =>
  unfold insM
  split
  ·rfl
  ·show nth l j*evM l (insM i m)=nth l i*(nth l j*evM l m)
   rw[ih,<- mul_assoc,<- mul_assoc,mul_comm (nth l j)]
theorem mulM_ev:∀ a m:Mo,evM l (mulM a m)=evM l a*evM l m:=by
 intro a
 induction a with
 | nil=>intro m;exact (one_mul _).symm
 | cons i a ih=>intro m;show evM l (insM i (mulM a m))=nth l i*evM l a*evM l m;rw[insM_ev,ih,mul_assoc]
theorem eqM_eq:∀ {a b:Mo},eqM a b=true->a=b:=by
 intro a
 induction a with
 | nil=>intro b h;cases b with
  | nil=>rfl
  | cons j m=>simp[eqM] at h
 | cons i a ih=>intro b h;cases b with
  | nil=>simp[eqM] at h
  | cons j m =>
   unfold eqM at h
   split at h
   ·rename_i hb;rw[Nat.eq_of_beq_eq_true hb,ih h]
   ·cases h
theorem addT_ev (m:Mo) (c:Int):∀ p:Po,evP l (addT m c p)=ic c*evM l m+evP l p:=by
 intro p
 induction p with
 | nil=>rfl
 | cons t p ih =>
  unfold addT
  split
  ·rename_i h
   show ic (c+t.2)*evM l m+evP l p=ic c*evM l m+(ic t.2*evM l t.1+evP l p)
   rw[eqM_eq h,ic_add,add_mul,add_assoc]
  ·split
   ·rfl
   ·show ic t.2*evM l t.1+evP l (addT m c p)=ic c*evM l m+(ic t.2*evM l t.1+evP l p)
    rw[ih,<- add_assoc,<- add_assoc,add_comm (ic t.2*evM l t.1)]
theorem addP_ev:∀ p q:Po,evP l (addP p q)=evP l p+evP l q:=by
 intro p
 induction p with
 | nil=>intro q;exact (zero_add _).symm
 | cons t p ih=>intro q;show evP l (addT t.1 t.2 (addP p q))=_;rw[addT_ev,ih];exact (add_assoc _ _ _).symm
theorem mulT_ev (m:Mo) (c:Int):∀ q acc:Po,evP l (mulT m c q acc)=ic c*evM l m*evP l q+evP l acc:=by
 intro q
 induction q with
 | nil=>intro acc;show evP l acc=ic c*evM l m*0+evP l acc;rw[mul_zero,zero_add]
 | cons t q ih =>
  intro acc
  show evP l (addT (mulM m t.1) (c*t.2) (mulT m c q acc))=ic c*evM l m*(ic t.2*evM l t.1+evP l q)+evP l acc
  rw[addT_ev,ih,mulM_ev,ic_mul,mul_add,add_assoc]
  congr 1
  rw[mul_assoc,mul_assoc,<- mul_assoc (ic t.2),mul_comm (ic t.2),mul_assoc (evM l m)]
theorem mulP_ev:∀ p q:Po,evP l (mulP p q)=evP l p*evP l q:=by
 intro p
 induction p with
 | nil=>intro q;exact (zero_mul _).symm
 | cons t p ih=>intro q;show evP l (mulT t.1 t.2 q (mulP p q))=(ic t.2*evM l t.1+evP l p)*evP l q;rw[mulT_ev,ih,add_mul]
theorem scP_ev (c:Int):∀ p:Po,evP l (scP c p)=ic c*evP l p:=by
 intro p
 induction p with
 | nil=>exact (mul_zero _).symm
 | cons t p ih=>show ic (c*t.2)*evM l t.1+evP l (scP c p)=ic c*(ic t.2*evM l t.1+evP l p);rw[ih,ic_mul,mul_add,mul_assoc]
theorem nf_ev:∀ e:PE,evP l e.nf=e.ev l:=by
 intro e
 induction e with
 | v i=>show ic 1*(nth l i*1)+0=nth l i;rw[ic_one,add_zero,one_mul,mul_one]
 | one=>show ic 1*1+0=(1:F);rw[ic_one,add_zero,one_mul]
 | zero=>rfl
 | add a b iha ihb=>show evP l (addP a.nf b.nf)=a.ev l+b.ev l;rw[addP_ev,iha,ihb]
 | mul a b iha ihb=>show evP l (mulP a.nf b.nf)=a.ev l*b.ev l;rw[mulP_ev,iha,ihb]
 | sub a b iha ihb=>show evP l (addP (scP (-1) b.nf) a.nf)=a.ev l-b.ev l;rw[addP_ev,scP_ev,iha,ihb,ic_neg_one,neg_mul,one_mul,sub_def,add_comm]
 | neg a iha=>show evP l (scP (-1) a.nf)=-a.ev l;rw[scP_ev,iha,ic_neg_one,neg_mul,one_mul]
theorem isZ_ev:∀ {p:Po},isZ p=true->evP l p=0:=by
 intro p
 induction p with
 | nil=>intro _;rfl
 | cons t p ih =>
  intro h
  obtain⟨m,c⟩:=t
  unfold isZ at h
  split at h
  ·rename_i hc
   have hc:c=0:=hc
   show ic c*evM l m+evP l p=0
   rw[hc,ic_zero,zero_mul,zero_add,ih h]
  ·cases h
theorem rid (a b:PE) (h:isZ (PE.nf (.sub a b))=true):a.ev l=b.ev l:=by
 have:=isZ_ev l h
 rw[nf_ev] at this
 exact eq_of_sub this
end
class Fd (F:Type) extends Rg F where
 deq:DecidableEq F
 inv:F->F
 mul_inv:∀ a:F,a≠0->a*inv a=1
 one_ne:(1:F)≠0
 two_ne:(1+1:F)≠0
 three_ne:(1+1+1:F)≠0
attribute [instance_reducible,instance] Fd.deq
namespace Fd
open Rg
variable {F:Type} [Fd F]
theorem mul_eq_zero {a b:F} (h:a*b=0):a=0\/b=0:=by
 by_cases ha:a=0
 ·exact .inl ha
 ·right
  have:inv a*(a*b)=0:=by rw[h,mul_zero]
  rwa [<- mul_assoc,mul_comm (inv a),mul_inv a ha,one_mul] at this
theorem mul_ne {a b:F} (ha:a≠0) (hb:b≠0):a*b≠0:=fun h=>(mul_eq_zero h).elim ha hb
theorem mul_left {a b c:F} (ha:a≠0) (h:a*b=a*c):b=c:=by
 have:inv a*(a*b)=inv a*(a*c):=by rw[h]
 rwa [<- mul_assoc,<- mul_assoc,mul_comm (inv a),mul_inv a ha,one_mul,one_mul] at this
theorem double_eq_zero {a:F} (h:a+a=0):a=0:=by
 have:(1+1)*a=0:=by rw[add_mul,one_mul];exact h
 exact (mul_eq_zero this).resolve_left two_ne
theorem sub_ne {a b:F} (h:a≠b):a-b≠0:=fun e=>h (eq_of_sub e)
end Fd
end Cr
namespace Cr
open Rg Fd
def On {F:Type} [Rg F] (b x y:F):Prop:=y*y=x*x*x+b
def Ln {F:Type} [Rg F] (x1 y1 x2 y2 l:F):Prop:=l*(x2-x1)=y2-y1/\l*(y1+y2)=x1*x1+x1*x2+x2*x2
def sx {F:Type} [Rg F] (x1 x2 l:F):F:=l*l-x1-x2
def sy {F:Type} [Rg F] (x1 y1 x2 l:F):F:=-(y1+l*(sx x1 x2 l-x1))
section
variable {F:Type} [Rg F]
theorem lc1 {a b p q:F} (c:F) (h:a-b=c*(p-q)) (h1:p=q):a=b:=by
 rw[sub_of_eq h1,mul_zero] at h;exact eq_of_sub h
theorem lc2 {a b p q p' q':F} (c c':F) (h:a-b=c*(p-q)+c'*(p'-q')) (h1:p=q) (h2:p'=q'):a=b:=by
 rw[sub_of_eq h1,sub_of_eq h2,mul_zero,mul_zero,zero_add] at h;exact eq_of_sub h
theorem lc3 {a b p q p' q' p'' q'':F} (c c' c'':F) (h:a-b=c*(p-q)+c'*(p'-q')+c''*(p''-q'')) (h1:p=q) (h2:p'=q') (h3:p''=q''):a=b:=by
 rw[sub_of_eq h1,sub_of_eq h2,sub_of_eq h3,mul_zero,mul_zero,mul_zero,zero_add,zero_add] at h;exact eq_of_sub h
theorem lc4 {a b p q p' q' p'' q'' u v:F} (c c' c'' d:F) (h:a-b=c*(p-q)+c'*(p'-q')+c''*(p''-q'')+d*(u-v)) (h1:p=q) (h2:p'=q') (h3:p''=q'') (h4:u=v):a=b:=by
 rw[sub_of_eq h1,sub_of_eq h2,sub_of_eq h3,sub_of_eq h4,mul_zero,mul_zero,mul_zero,mul_zero,zero_add,zero_add,zero_add] at h;exact eq_of_sub h
end
theorem i_on {F:Type} [Rg F] (x1 y1 x2 y2 l x b:F):(y1+l*(x-x1))*(y1+l*(x-x1))-(x*x*x+b)=1*(y1*y1-(x1*x1*x1+b))+(x-x1)*(l*(y1+y2)-(x1*x1+x1*x2+x2*x2))+(x-x1)*l*(l*(x2-x1)-(y2-y1))+(x-x1)*(x-x2)*((l*l-x1-x2)-x) :=
 rid [x1,y1,x2,y2,l,x,b] ((fun (x1 y1 x2 y2 l x b:PE)=>((y1+l*(x-x1))*(y1+l*(x-x1))-(x*x*x+b))) (.v 0) (.v 1) (.v 2) (.v 3) (.v 4) (.v 5) (.v 6)) ((fun (x1 y1 x2 y2 l x b:PE)=>(1*(y1*y1-(x1*x1*x1+b))+(x-x1)*(l*(y1+y2)-(x1*x1+x1*x2+x2*x2))+(x-x1)*l*(l*(x2-x1)-(y2-y1))+(x-x1)*(x-x2)*((l*l-x1-x2)-x))) (.v 0) (.v 1) (.v 2) (.v 3) (.v 4) (.v 5) (.v 6)) (by kernel_rfl)
theorem i_neg2 {F:Type} [Rg F] (a:F):(- a)*(- a)=a*a :=
 rid [a] ((fun (a:PE)=>((- a)*(- a))) (.v 0)) ((fun (a:PE)=>(a*a)) (.v 0)) (by kernel_rfl)
theorem i_third {F:Type} [Rg F] (x1 y1 x2 y2 l:F):l*(y1 + - -(y1+l*((l*l-x1-x2)-x1)))-(x1*x1+x1*(l*l-x1-x2)+(l*l-x1-x2)*(l*l-x1-x2))=1*(l*(y1+y2)-(x1*x1+x1*x2+x2*x2))+l*(l*(x2-x1)-(y2-y1)) :=
 rid [x1,y1,x2,y2,l] ((fun (x1 y1 x2 y2 l:PE)=>(l*(y1 + - -(y1+l*((l*l-x1-x2)-x1)))-(x1*x1+x1*(l*l-x1-x2)+(l*l-x1-x2)*(l*l-x1-x2)))) (.v 0) (.v 1) (.v 2) (.v 3) (.v 4)) ((fun (x1 y1 x2 y2 l:PE)=>(1*(l*(y1+y2)-(x1*x1+x1*x2+x2*x2))+l*(l*(x2-x1)-(y2-y1)))) (.v 0) (.v 1) (.v 2) (.v 3) (.v 4)) (by kernel_rfl)
theorem i_third1 {F:Type} [Rg F] (x1 y1 x2 l:F):l*((l*l-x1-x2)-x1)=- -(y1+l*((l*l-x1-x2)-x1))-y1 :=
 rid [x1,y1,x2,l] ((fun (x1 y1 x2 l:PE)=>(l*((l*l-x1-x2)-x1))) (.v 0) (.v 1) (.v 2) (.v 3)) ((fun (x1 y1 x2 l:PE)=>(- -(y1+l*((l*l-x1-x2)-x1))-y1)) (.v 0) (.v 1) (.v 2) (.v 3)) (by kernel_rfl)
theorem i_symx {F:Type} [Rg F] (x1 x2 l:F):l*l-x1-x2=l*l-x2-x1 :=
 rid [x1,x2,l] ((fun (x1 x2 l:PE)=>(l*l-x1-x2)) (.v 0) (.v 1) (.v 2)) ((fun (x1 x2 l:PE)=>(l*l-x2-x1)) (.v 0) (.v 1) (.v 2)) (by kernel_rfl)
theorem i_symy {F:Type} [Rg F] (x1 y1 x2 y2 l:F) : -(y1+l*((l*l-x1-x2)-x1)) - -(y2+l*((l*l-x2-x1)-x2))=(-1)*(l*(x2-x1)-(y2-y1)) :=
 rid [x1,y1,x2,y2,l] ((fun (x1 y1 x2 y2 l:PE)=>(-(y1+l*((l*l-x1-x2)-x1)) - -(y2+l*((l*l-x2-x1)-x2)))) (.v 0) (.v 1) (.v 2) (.v 3) (.v 4)) ((fun (x1 y1 x2 y2 l:PE)=>((-1)*(l*(x2-x1)-(y2-y1)))) (.v 0) (.v 1) (.v 2) (.v 3) (.v 4)) (by kernel_rfl)
theorem i_sym1 {F:Type} [Rg F] (x1 y1 x2 y2 l:F):l*(x1-x2)-(y1-y2)=(-1)*(l*(x2-x1)-(y2-y1)) :=
 rid [x1,y1,x2,y2,l] ((fun (x1 y1 x2 y2 l:PE)=>(l*(x1-x2)-(y1-y2))) (.v 0) (.v 1) (.v 2) (.v 3) (.v 4)) ((fun (x1 y1 x2 y2 l:PE)=>((-1)*(l*(x2-x1)-(y2-y1)))) (.v 0) (.v 1) (.v 2) (.v 3) (.v 4)) (by kernel_rfl)
theorem i_sym2 {F:Type} [Rg F] (x1 y1 x2 y2 l:F):l*(y2+y1)-(x2*x2+x2*x1+x1*x1)=1*(l*(y1+y2)-(x1*x1+x1*x2+x2*x2)) :=
 rid [x1,y1,x2,y2,l] ((fun (x1 y1 x2 y2 l:PE)=>(l*(y2+y1)-(x2*x2+x2*x1+x1*x1))) (.v 0) (.v 1) (.v 2) (.v 3) (.v 4)) ((fun (x1 y1 x2 y2 l:PE)=>(1*(l*(y1+y2)-(x1*x1+x1*x2+x2*x2)))) (.v 0) (.v 1) (.v 2) (.v 3) (.v 4)) (by kernel_rfl)
theorem i_f1 {F:Type} [Rg F] (x y u v l m:F):(x*x+(u+l*m)*x+(u*u-l*m*u+(l-m)*v)-(l+m)*y)-0=(-1)*(l*(y + -v)-(x*x+x*u+u*u))+(-m)*(l*(u-x)-(-v-y)) :=
 rid [x,y,u,v,l,m] ((fun (x y u v l m:PE)=>((x*x+(u+l*m)*x+(u*u-l*m*u+(l-m)*v)-(l+m)*y)-0)) (.v 0) (.v 1) (.v 2) (.v 3) (.v 4) (.v 5)) ((fun (x y u v l m:PE)=>((-1)*(l*(y + -v)-(x*x+x*u+u*u))+(-m)*(l*(u-x)-(-v-y)))) (.v 0) (.v 1) (.v 2) (.v 3) (.v 4) (.v 5)) (by kernel_rfl)
theorem i_f2 {F:Type} [Rg F] (x y u v l m:F):(x*x+(u+l*m)*x+(u*u-l*m*u+(l-m)*v)-(l+m)*y)-0=(-1)*(m*(v+y)-(u*u+u*x+x*x))+l*(m*(x-u)-(y-v)) :=
 rid [x,y,u,v,l,m] ((fun (x y u v l m:PE)=>((x*x+(u+l*m)*x+(u*u-l*m*u+(l-m)*v)-(l+m)*y)-0)) (.v 0) (.v 1) (.v 2) (.v 3) (.v 4) (.v 5)) ((fun (x y u v l m:PE)=>((-1)*(m*(v+y)-(u*u+u*x+x*x))+l*(m*(x-u)-(y-v)))) (.v 0) (.v 1) (.v 2) (.v 3) (.v 4) (.v 5)) (by kernel_rfl)
theorem i_chord {F:Type} [Rg F] (x1 y1 x2 y2 l i b:F):(l*(y1+y2)-(x1*x1+x1*x2+x2*x2))*(x2-x1)-0=(y1+y2)*(l*(x2-x1)-(y2-y1))+1*(y2*y2-(x2*x2*x2+b))+(-1)*(y1*y1-(x1*x1*x1+b)) :=
 rid [x1,y1,x2,y2,l,i,b] ((fun (x1 y1 x2 y2 l i b:PE)=>((l*(y1+y2)-(x1*x1+x1*x2+x2*x2))*(x2-x1)-0)) (.v 0) (.v 1) (.v 2) (.v 3) (.v 4) (.v 5) (.v 6)) ((fun (x1 y1 x2 y2 l i b:PE)=>((y1+y2)*(l*(x2-x1)-(y2-y1))+1*(y2*y2-(x2*x2*x2+b))+(-1)*(y1*y1-(x1*x1*x1+b)))) (.v 0) (.v 1) (.v 2) (.v 3) (.v 4) (.v 5) (.v 6)) (by kernel_rfl)
theorem i_dsq {F:Type} [Rg F] (a b:F):(a-b)*(a+b)=a*a-b*b :=
 rid [a,b] ((fun (a b:PE)=>((a-b)*(a+b))) (.v 0) (.v 1)) ((fun (a b:PE)=>(a*a-b*b)) (.v 0) (.v 1)) (by kernel_rfl)
theorem i_h {F:Type} [Rg F] (a1 a0 g b1 b0 h l xP yP xQ xR yR:F):(g-h)*(l*(xR-xP)-(yR-yP))=(xR*xR+a1*xR+a0-g*yR)-(xP*xP+a1*xP+a0-g*yP)-(xR*xR+b1*xR+b0-h*yR)+(xP*xP+b1*xP+b0-h*yP)-(xR-xP)*(((xP+xQ+a1)-g*l)-((xP+xQ+b1)-h*l)) :=
 rid [a1,a0,g,b1,b0,h,l,xP,yP,xQ,xR,yR] ((fun (a1 a0 g b1 b0 h l xP yP xQ xR yR:PE)=>((g-h)*(l*(xR-xP)-(yR-yP)))) (.v 0) (.v 1) (.v 2) (.v 3) (.v 4) (.v 5) (.v 6) (.v 7) (.v 8) (.v 9) (.v 10) (.v 11)) ((fun (a1 a0 g b1 b0 h l xP yP xQ xR yR:PE)=>((xR*xR+a1*xR+a0-g*yR)-(xP*xP+a1*xP+a0-g*yP)-(xR*xR+b1*xR+b0-h*yR)+(xP*xP+b1*xP+b0-h*yP)-(xR-xP)*(((xP+xQ+a1)-g*l)-((xP+xQ+b1)-h*l)))) (.v 0) (.v 1) (.v 2) (.v 3) (.v 4) (.v 5) (.v 6) (.v 7) (.v 8) (.v 9) (.v 10) (.v 11)) (by kernel_rfl)
theorem i_a1 {F:Type} [Rg F] (a1 b1 g l xP xQ:F):a1-b1=1*((xP+xQ+a1)-g*l)+(-1)*((xP+xQ+b1)-g*l) :=
 rid [a1,b1,g,l,xP,xQ] ((fun (a1 b1 g l xP xQ:PE)=>(a1-b1)) (.v 0) (.v 1) (.v 2) (.v 3) (.v 4) (.v 5)) ((fun (a1 b1 g l xP xQ:PE)=>(1*((xP+xQ+a1)-g*l)+(-1)*((xP+xQ+b1)-g*l))) (.v 0) (.v 1) (.v 2) (.v 3) (.v 4) (.v 5)) (by kernel_rfl)
theorem i_a0 {F:Type} [Rg F] (a0 b0 a1 g xP yP:F):a0-b0=1*((xP*xP+a1*xP+a0-g*yP)-0)+(-1)*((xP*xP+a1*xP+b0-g*yP)-0) :=
 rid [a0,b0,a1,g,xP,yP] ((fun (a0 b0 a1 g xP yP:PE)=>(a0-b0)) (.v 0) (.v 1) (.v 2) (.v 3) (.v 4) (.v 5)) ((fun (a0 b0 a1 g xP yP:PE)=>(1*((xP*xP+a1*xP+a0-g*yP)-0)+(-1)*((xP*xP+a1*xP+b0-g*yP)-0))) (.v 0) (.v 1) (.v 2) (.v 3) (.v 4) (.v 5)) (by kernel_rfl)
theorem i_g {F:Type} [Rg F] (a1 a0 xP yP xR yR:F):(xR-xP)*(xR+xP+a1)=(xR*xR+a1*xR+a0-0*yR)-(xP*xP+a1*xP+a0-0*yP) :=
 rid [a1,a0,xP,yP,xR,yR] ((fun (a1 a0 xP yP xR yR:PE)=>((xR-xP)*(xR+xP+a1))) (.v 0) (.v 1) (.v 2) (.v 3) (.v 4) (.v 5)) ((fun (a1 a0 xP yP xR yR:PE)=>((xR*xR+a1*xR+a0-0*yR)-(xP*xP+a1*xP+a0-0*yP))) (.v 0) (.v 1) (.v 2) (.v 3) (.v 4) (.v 5)) (by kernel_rfl)
theorem i_g2 {F:Type} [Rg F] (a1 xP xQ xR l:F):xR-xQ=1*((xR+xP+a1)-0)+(-1)*((xP+xQ+a1)-0*l) :=
 rid [a1,xP,xQ,xR,l] ((fun (a1 xP xQ xR l:PE)=>(xR-xQ)) (.v 0) (.v 1) (.v 2) (.v 3) (.v 4)) ((fun (a1 xP xQ xR l:PE)=>(1*((xR+xP+a1)-0)+(-1)*((xP+xQ+a1)-0*l))) (.v 0) (.v 1) (.v 2) (.v 3) (.v 4)) (by kernel_rfl)
theorem i_y {F:Type} [Rg F] (a1 a0 g x y t:F):g*(y-t)-0=1*((x*x+a1*x+a0-g * -y)-0)+(-1)*((x*x+a1*x+a0-g * -t)-0) :=
 rid [a1,a0,g,x,y,t] ((fun (a1 a0 g x y t:PE)=>(g*(y-t)-0)) (.v 0) (.v 1) (.v 2) (.v 3) (.v 4) (.v 5)) ((fun (a1 a0 g x y t:PE)=>(1*((x*x+a1*x+a0-g * -y)-0)+(-1)*((x*x+a1*x+a0-g * -t)-0))) (.v 0) (.v 1) (.v 2) (.v 3) (.v 4) (.v 5)) (by kernel_rfl)
theorem i_c1 {F:Type} [Rg F] (x1 x2 l:F):(-l)*(-l)-x1-(l*l-x1-x2)=x2 :=
 rid [x1,x2,l] ((fun (x1 x2 l:PE)=>((-l)*(-l)-x1-(l*l-x1-x2))) (.v 0) (.v 1) (.v 2)) ((fun (x1 x2 l:PE)=>(x2)) (.v 0) (.v 1) (.v 2)) (by kernel_rfl)
theorem i_c2 {F:Type} [Rg F] (x1 y1 x2 y2 l:F) : -(-y1 + -l*(x2-x1))-y2=1*(l*(x2-x1)-(y2-y1)) :=
 rid [x1,y1,x2,y2,l] ((fun (x1 y1 x2 y2 l:PE)=>(-(-y1 + -l*(x2-x1))-y2)) (.v 0) (.v 1) (.v 2) (.v 3) (.v 4)) ((fun (x1 y1 x2 y2 l:PE)=>(1*(l*(x2-x1)-(y2-y1)))) (.v 0) (.v 1) (.v 2) (.v 3) (.v 4)) (by kernel_rfl)
theorem i_n1 {F:Type} [Rg F] (x1 y1 u v l:F) : -l*(u-x1)-(v - -y1)=(-1)*(l*(u-x1)-(-v-y1)) :=
 rid [x1,y1,u,v,l] ((fun (x1 y1 u v l:PE)=>(-l*(u-x1)-(v - -y1))) (.v 0) (.v 1) (.v 2) (.v 3) (.v 4)) ((fun (x1 y1 u v l:PE)=>((-1)*(l*(u-x1)-(-v-y1)))) (.v 0) (.v 1) (.v 2) (.v 3) (.v 4)) (by kernel_rfl)
theorem i_n2 {F:Type} [Rg F] (x1 y1 u v l:F) : -l*(-y1+v)-(x1*x1+x1*u+u*u)=1*(l*(y1 + -v)-(x1*x1+x1*u+u*u)) :=
 rid [x1,y1,u,v,l] ((fun (x1 y1 u v l:PE)=>(-l*(-y1+v)-(x1*x1+x1*u+u*u))) (.v 0) (.v 1) (.v 2) (.v 3) (.v 4)) ((fun (x1 y1 u v l:PE)=>(1*(l*(y1 + -v)-(x1*x1+x1*u+u*u)))) (.v 0) (.v 1) (.v 2) (.v 3) (.v 4)) (by kernel_rfl)
theorem i_t2 {F:Type} [Rg F] (xP xQ a1 g l yP yQ a0:F):(xQ-xP)*((xP+xQ+a1)-g*l)-0=1*((xQ*xQ+a1*xQ+a0-g*yQ)-0)+(-1)*((xP*xP+a1*xP+a0-g*yP)-0)+(-g)*(l*(xQ-xP)-(yQ-yP)) :=
 rid [xP,xQ,a1,g,l,yP,yQ,a0] ((fun (xP xQ a1 g l yP yQ a0:PE)=>((xQ-xP)*((xP+xQ+a1)-g*l)-0)) (.v 0) (.v 1) (.v 2) (.v 3) (.v 4) (.v 5) (.v 6) (.v 7)) ((fun (xP xQ a1 g l yP yQ a0:PE)=>(1*((xQ*xQ+a1*xQ+a0-g*yQ)-0)+(-1)*((xP*xP+a1*xP+a0-g*yP)-0)+(-g)*(l*(xQ-xP)-(yQ-yP)))) (.v 0) (.v 1) (.v 2) (.v 3) (.v 4) (.v 5) (.v 6) (.v 7)) (by kernel_rfl)
theorem i_t3 {F:Type} [Rg F] (x y u v k m l:F):(u-x)*((x+x+(u+k*m))-(k+m)*l)-0=(-l)*(k*(u-x)-(-v-y))+(k-l)*(m*(u-x)-(v-y))+(-1)*(k*(y + -v)-(x*x+x*u+u*u))+1*(l*(y+y)-(x*x+x*x+x*x)) :=
 rid [x,y,u,v,k,m,l] ((fun (x y u v k m l:PE)=>((u-x)*((x+x+(u+k*m))-(k+m)*l)-0)) (.v 0) (.v 1) (.v 2) (.v 3) (.v 4) (.v 5) (.v 6)) ((fun (x y u v k m l:PE)=>((-l)*(k*(u-x)-(-v-y))+(k-l)*(m*(u-x)-(v-y))+(-1)*(k*(y + -v)-(x*x+x*u+u*u))+1*(l*(y+y)-(x*x+x*x+x*x)))) (.v 0) (.v 1) (.v 2) (.v 3) (.v 4) (.v 5) (.v 6)) (by kernel_rfl)
theorem i_perm {F:Type} [Rg F] (g a p r:F):g-a-(p+r+p)=g-a-(p+p+r) :=
 rid [g,a,p,r] ((fun (g a p r:PE)=>(g-a-(p+r+p))) (.v 0) (.v 1) (.v 2) (.v 3)) ((fun (g a p r:PE)=>(g-a-(p+p+r))) (.v 0) (.v 1) (.v 2) (.v 3)) (by kernel_rfl)
theorem i_perm2 {F:Type} [Rg F] (g a p q r:F):g-a-(q+r+p)=g-a-(p+q+r) :=
 rid [g,a,p,q,r] ((fun (g a p q r:PE)=>(g-a-(q+r+p))) (.v 0) (.v 1) (.v 2) (.v 3) (.v 4)) ((fun (g a p q r:PE)=>(g-a-(p+q+r))) (.v 0) (.v 1) (.v 2) (.v 3) (.v 4)) (by kernel_rfl)
theorem i_m1 {F:Type} [Rg F] (x1 y1 x2 y2 l:F) : -l*(x2-x1)-(-y2 - -y1)=(-1)*(l*(x2-x1)-(y2-y1)) :=
 rid [x1,y1,x2,y2,l] ((fun (x1 y1 x2 y2 l:PE)=>(-l*(x2-x1)-(-y2 - -y1))) (.v 0) (.v 1) (.v 2) (.v 3) (.v 4)) ((fun (x1 y1 x2 y2 l:PE)=>((-1)*(l*(x2-x1)-(y2-y1)))) (.v 0) (.v 1) (.v 2) (.v 3) (.v 4)) (by kernel_rfl)
theorem i_m2 {F:Type} [Rg F] (x1 y1 x2 y2 l:F) : -l*(-y1 + -y2)-(x1*x1+x1*x2+x2*x2)=1*(l*(y1+y2)-(x1*x1+x1*x2+x2*x2)) :=
 rid [x1,y1,x2,y2,l] ((fun (x1 y1 x2 y2 l:PE)=>(-l*(-y1 + -y2)-(x1*x1+x1*x2+x2*x2))) (.v 0) (.v 1) (.v 2) (.v 3) (.v 4)) ((fun (x1 y1 x2 y2 l:PE)=>(1*(l*(y1+y2)-(x1*x1+x1*x2+x2*x2)))) (.v 0) (.v 1) (.v 2) (.v 3) (.v 4)) (by kernel_rfl)
theorem i_m3 {F:Type} [Rg F] (x1 x2 l:F):l*l-x1-x2=-l * -l-x1-x2 :=
 rid [x1,x2,l] ((fun (x1 x2 l:PE)=>(l*l-x1-x2)) (.v 0) (.v 1) (.v 2)) ((fun (x1 x2 l:PE)=>(-l * -l-x1-x2)) (.v 0) (.v 1) (.v 2)) (by kernel_rfl)
theorem i_m4 {F:Type} [Rg F] (x1 y1 x2 l:F) : - -(y1+l*((l*l-x1-x2)-x1))=-(-y1 + -l*((-l * -l-x1-x2)-x1)) :=
 rid [x1,y1,x2,l] ((fun (x1 y1 x2 l:PE)=>(- -(y1+l*((l*l-x1-x2)-x1)))) (.v 0) (.v 1) (.v 2) (.v 3)) ((fun (x1 y1 x2 l:PE)=>(-(-y1 + -l*((-l * -l-x1-x2)-x1)))) (.v 0) (.v 1) (.v 2) (.v 3)) (by kernel_rfl)
theorem i_T1 {F:Type} [Rg F] (xP xQ l m:F):xP+xQ+((l*l-xP-xQ)+l*m)=(l+m)*l :=
 rid [xP,xQ,l,m] ((fun (xP xQ l m:PE)=>(xP+xQ+((l*l-xP-xQ)+l*m))) (.v 0) (.v 1) (.v 2) (.v 3)) ((fun (xP xQ l m:PE)=>((l+m)*l)) (.v 0) (.v 1) (.v 2) (.v 3)) (by kernel_rfl)
theorem i_S {F:Type} [Rg F] (xP xQ xR l m:F):m*m-(l*l-xP-xQ)-xR=(l+m)*(l+m)-(((l*l-xP-xQ)+l*m)+((l*l-xP-xQ)+l*m))-(xP+xQ+xR) :=
 rid [xP,xQ,xR,l,m] ((fun (xP xQ xR l m:PE)=>(m*m-(l*l-xP-xQ)-xR)) (.v 0) (.v 1) (.v 2) (.v 3) (.v 4)) ((fun (xP xQ xR l m:PE)=>((l+m)*(l+m)-(((l*l-xP-xQ)+l*m)+((l*l-xP-xQ)+l*m))-(xP+xQ+xR))) (.v 0) (.v 1) (.v 2) (.v 3) (.v 4)) (by kernel_rfl)
section
variable {F:Type} [Fd F] {b:F}
theorem sq_zero {a:F} (h:a*a=0):a=0:=(mul_eq_zero h).elim id id
theorem three_zero {a:F} (h:a+a+a=0):a=0:=by
 have:(1+1+1)*a=0:=by rw[add_mul,add_mul,one_mul];exact h
 exact (mul_eq_zero this).resolve_left three_ne
theorem eq_neg_self {a:F} (h:a=-a):a=0:=double_eq_zero (by
 have:=sub_of_eq h
 rwa [sub_def,neg_neg] at this)
theorem Ln.symm {x1 y1 x2 y2 l:F} (h:Ln x1 y1 x2 y2 l):Ln x2 y2 x1 y1 l:=⟨lc1 _ (i_sym1 x1 y1 x2 y2 l) h.1,lc1 _ (i_sym2 x1 y1 x2 y2 l) h.2⟩
theorem sx_symm (x1 x2 l:F):sx x1 x2 l=sx x2 x1 l:=i_symx x1 x2 l
theorem sy_symm {x1 y1 x2 y2 l:F} (h:Ln x1 y1 x2 y2 l):sy x1 y1 x2 l=sy x2 y2 x1 l:=lc1 _ (i_symy x1 y1 x2 y2 l) h.1
theorem Ln.third {x1 y1 x2 y2 l:F} (h:Ln x1 y1 x2 y2 l):Ln x1 y1 (sx x1 x2 l) (-sy x1 y1 x2 l) l :=
 ⟨i_third1 x1 y1 x2 l,lc2 _ _ (i_third x1 y1 x2 y2 l) h.2 h.1⟩
theorem Ln.third' {x1 y1 x2 y2 l:F} (h:Ln x1 y1 x2 y2 l):Ln x2 y2 (sx x1 x2 l) (-sy x1 y1 x2 l) l:=by
 have t:=h.symm.third
 rw[<- sx_symm x1 x2 l,<- sy_symm h] at t
 exact t
theorem Ln.sum_on {x1 y1 x2 y2 l:F} (h:Ln x1 y1 x2 y2 l) (h1:On b x1 y1):On b (sx x1 x2 l) (sy x1 y1 x2 l):=by
 unfold On sy
 rw[i_neg2]
 exact lc4 _ _ _ _ (i_on x1 y1 x2 y2 l (sx x1 x2 l) b) h1 h.2 h.1 rfl
theorem Ln.which {x1 y1 x2 y2 l x y:F} (h:Ln x1 y1 x2 y2 l) (h1:On b x1 y1) (ho:On b x y) (hy:y=y1+l*(x-x1)):x=x1\/x=x2\/x=sx x1 x2 l:=by
 have e:=i_on x1 y1 x2 y2 l x b
 rw[<- hy,sub_of_eq ho,sub_of_eq h1,sub_of_eq h.1,sub_of_eq h.2,mul_zero,mul_zero,mul_zero,zero_add,zero_add,zero_add] at e
 rcases mul_eq_zero e.symm with e|e
 ·rcases mul_eq_zero e with e|e
  ·exact .inl (eq_of_sub e)
  ·exact .inr (.inl (eq_of_sub e))
 ·exact .inr (.inr (eq_of_sub e).symm)
theorem Ln.not_neg (hb:b≠0) {x1 y1 x2 y2 l:F} (h:Ln x1 y1 x2 y2 l) (h1:On b x1 y1):¬(x1=x2/\y2=-y1):=by
 rintro⟨rfl,rfl⟩
 obtain⟨e1,e2⟩:=h
 rw[sub_self,mul_zero] at e1
 have hy:y1=0:=eq_neg_self (eq_of_sub e1.symm).symm
 subst hy
 rw[neg_zero,add_zero,mul_zero] at e2
 have hx:x1=0:=sq_zero (three_zero e2.symm)
 subst hx
 unfold On at h1
 rw[mul_zero,mul_zero,zero_add] at h1
 exact hb h1.symm
theorem Ln.unique (hb:b≠0) {x1 y1 x2 y2 l m:F} (h:Ln x1 y1 x2 y2 l) (k:Ln x1 y1 x2 y2 m) (h1:On b x1 y1):l=m:=by
 by_cases hx:x2-x1=0
 ·by_cases hy:y1+y2=0
  ·exact absurd ⟨(eq_of_sub hx).symm,(neg_eq hy).symm⟩ (h.not_neg hb h1)
  ·refine mul_left hy ?_
   rw[mul_comm _ l,h.2,mul_comm _ m,k.2]
 ·refine mul_left hx ?_
  rw[mul_comm _ l,h.1,mul_comm _ m,k.1]
def slope (x1 y1 x2 y2:F):F:=if x1=x2 then (x1*x1+x1*x1+x1*x1)*inv (y1+y1) else (y2-y1)*inv (x2-x1)
theorem slope_ln {x1 y1 x2 y2:F} (h1:On b x1 y1) (h2:On b x2 y2) (hn:¬(x1=x2/\y2=-y1)):Ln x1 y1 x2 y2 (slope x1 y1 x2 y2):=by
 unfold slope
 split
 ·rename_i hx
  subst hx
  have e:(y2-y1)*(y2+y1)=0:=by
   have:(y2-y1)*(y2+y1)=y2*y2-y1*y1:=i_dsq y2 y1
   rw[this,h1,h2,sub_self]
  rcases mul_eq_zero e with e|e
  ·have e:=eq_of_sub e
   subst e
   have hy:y2+y2≠0:=fun h=>hn ⟨rfl,(neg_eq h).symm⟩
   refine⟨by rw[sub_self,sub_self,mul_zero],?_⟩
   rw[mul_assoc,mul_comm (inv _),mul_inv _ hy,mul_one]
  ·exact absurd ⟨rfl,(neg_eq (by rw[add_comm];exact e)).symm⟩ hn
 ·rename_i hx
  have hd:x2-x1≠0:=sub_ne (fun e=>hx e.symm)
  have e1:(y2-y1)*inv (x2-x1)*(x2-x1)=y2-y1:=by rw[mul_assoc,mul_comm (inv _),mul_inv _ hd,mul_one]
  refine⟨e1,?_⟩
  generalize (y2-y1)*inv (x2-x1)=l at *
  have:=lc3 _ _ _ (i_chord x1 y1 x2 y2 l 0 b) e1 h2 h1
  exact eq_of_sub ((mul_eq_zero this).resolve_right hd)
def fn (u v l m x y:F):F:=x*x+(u+l*m)*x+(u*u-l*m*u+(l-m)*v)-(l+m)*y
theorem fn1 {u v l m x y:F} (h:Ln x y u (-v) l):fn u v l m x y=0:=lc2 _ _ (i_f1 x y u v l m) h.2 h.1
theorem fn2 {u v l m x y:F} (h:Ln u v x y m):fn u v l m x y=0:=lc2 _ _ (i_f2 x y u v l m) h.2 h.1
theorem same {a1 a0 g b1 b0 h l xP yP xQ xR yR:F} (f1P:xP*xP+a1*xP+a0-g*yP=0) (f1R:xR*xR+a1*xR+a0-g*yR=0) (f2P:xP*xP+b1*xP+b0-h*yP=0) (f2R:xR*xR+b1*xR+b0-h*yR=0)
  (T1:xP+xQ+a1=g*l) (T2:xP+xQ+b1=h*l) (hne:yR≠yP+l*(xR-xP)):a1=b1/\a0=b0/\g=h:=by
 have e:=i_h a1 a0 g b1 b0 h l xP yP xQ xR yR
 rw[f1P,f1R,f2P,f2R,sub_of_eq T1,sub_of_eq T2,sub_self,sub_self,add_zero,mul_zero,sub_self] at e
 have hg:g=h:=by
  rcases mul_eq_zero e with e|e
  ·exact eq_of_sub e
  ·exfalso
   have:=eq_of_sub e
   exact hne (by rw[this,sub_def,add_comm,add_assoc,neg_add,add_zero])
 subst hg
 have h1:=lc2 _ _ (i_a1 a1 b1 g l xP xQ) T1 T2
 subst h1
 exact⟨rfl,lc2 _ _ (i_a0 a0 b0 a1 g xP yP) f1P f2P,rfl⟩
theorem g_ne {a1 a0 g l xP yP xQ xR yR:F} (f1P:xP*xP+a1*xP+a0-g*yP=0) (f1R:xR*xR+a1*xR+a0-g*yR=0) (T1:xP+xQ+a1=g*l) (h1:xR≠xP) (h2:xR≠xQ):g≠0:=by
 intro hg
 subst hg
 have e:=i_g a1 a0 xP yP xR yR
 rw[f1P,f1R,sub_self] at e
 rcases mul_eq_zero e with e|e
 ·exact h1 (eq_of_sub e)
 ·exact h2 (lc2 _ _ (i_g2 a1 xP xQ xR l) e T1)
theorem main {xP yP xQ yQ xR yR l m u v l' m' s t:F} (hb:b≠0) (oP:On b xP yP) (oR:On b xR yR) (hl:Ln xP yP xQ yQ l) (hm:Ln (sx xP xQ l) (sy xP yP xQ l) xR yR m)
  (T2:xP+xQ+(u+l'*m')=(l'+m')*l) (f2P:fn u v l' m' xP yP=0) (f2R:fn u v l' m' xR yR=0) (f2S:fn u v l' m' s (-t)=0)
  (hs:s=(l'+m')*(l'+m')-((u+l'*m')+(u+l'*m'))-(xP+xQ+xR)) (h1:xR≠xP) (h2:xR≠xQ) :
  sx (sx xP xQ l) xR m=s/\sy (sx xP xQ l) (sy xP yP xQ l) xR m=t:=by
 have f1P:fn (sx xP xQ l) (sy xP yP xQ l) l m xP yP=0:=fn1 hl.third
 have f1R:fn (sx xP xQ l) (sy xP yP xQ l) l m xR yR=0:=fn2 hm
 have f1S:fn (sx xP xQ l) (sy xP yP xQ l) l m (sx (sx xP xQ l) xR m) (-sy (sx xP xQ l) (sy xP yP xQ l) xR m)=0:=fn2 hm.third
 have T1:xP+xQ+(sx xP xQ l+l*m)=(l+m)*l:=i_T1 xP xQ l m
 have hne:yR≠yP+l*(xR-xP):=by
  intro hy
  rcases hl.which oP oR hy with e|e|e
  ·exact h1 e
  ·exact h2 e
  ·refine hm.not_neg hb (hl.sum_on oP) ⟨e.symm,?_⟩
   unfold sy
   rw[neg_neg,<- e]
   exact hy
 have hg:=g_ne f1P f1R T1 h1 h2
 obtain⟨e1,e2,e3⟩:=same f1P f1R f2P f2R T1 T2 hne
 have hS:sx (sx xP xQ l) xR m=s:=by
  rw[hs,<- e1,<- e3]
  exact i_S xP xQ xR l m
 refine⟨hS,?_⟩
 rw[hS] at f1S
 unfold fn at f1S f2S
 rw[<- e1,<- e2,<- e3] at f2S
 have:=lc2 _ _ (i_y _ _ _ s _ t) f1S f2S
 exact eq_of_sub ((mul_eq_zero this).resolve_left hg)
abbrev O2:F × F:=(0,0)
def pneg (P:F × F):F × F:=(P.1,-P.2)
def padd (P Q:F × F):F × F :=
 if P=O2 then Q else if Q=O2 then P else if P.1=Q.1/\Q.2=-P.2 then O2 else (sx P.1 Q.1 (slope P.1 P.2 Q.1 Q.2),sy P.1 P.2 Q.1 (slope P.1 P.2 Q.1 Q.2))
def OnP (b:F) (P:F × F):Prop:=P=O2\/On b P.1 P.2
abbrev LnP (P Q:F × F) (l:F):Prop:=Ln P.1 P.2 Q.1 Q.2 l
abbrev OnF (b:F) (P:F × F):Prop:=On b P.1 P.2
variable (hb:b≠0)
include hb
theorem on_ne {P:F × F} (h:OnF b P):P≠O2:=by
 rintro rfl
 have h:(0:F)*0=0*0*0+b:=h
 rw[mul_zero,mul_zero,zero_add] at h
 exact hb h.symm
omit hb in
theorem pneg_O:pneg (O2:F × F)=O2:=by show ((0:F),-(0:F))=_;rw[neg_zero]
omit hb in
theorem pneg_pneg (P:F × F):pneg (pneg P)=P:=by show (P.1,- -P.2)=P;rw[neg_neg]
omit hb in
theorem pneg_on {P:F × F} (h:OnF b P):OnF b (pneg P):=by
 have h:P.2*P.2=P.1*P.1*P.1+b:=h
 show -P.2 * -P.2=P.1*P.1*P.1+b
 rw[i_neg2,h]
omit hb in
theorem pneg_onP {P:F × F} (h:OnP b P):OnP b (pneg P):=by
 rcases h with rfl|h
 ·exact .inl pneg_O
 ·exact .inr (pneg_on h)
theorem padd_ln {P Q:F × F} {l:F} (oP:OnF b P) (oQ:OnF b Q) (h:LnP P Q l):padd P Q=(sx P.1 Q.1 l,sy P.1 P.2 Q.1 l):=by
 unfold padd
 have hn:=h.not_neg hb oP
 rw[if_neg (on_ne hb oP),if_neg (on_ne hb oQ),if_neg hn,(slope_ln oP oQ hn).unique hb h oP]
omit hb in
theorem O_add (Q:F × F):padd O2 Q=Q:=by unfold padd;rw[if_pos rfl]
omit hb in
theorem add_O (P:F × F):padd P O2=P:=by
 unfold padd
 split
 ·rename_i h;exact h.symm
 ·rw[if_pos rfl]
omit hb in
theorem ln_or {P Q:F × F} (oP:OnF b P) (oQ:OnF b Q):Q=pneg P\/∃ l,LnP P Q l:=by
 by_cases h:P.1=Q.1/\Q.2=-P.2
 ·left;exact Prod.ext h.1.symm h.2
 ·exact .inr ⟨_,slope_ln oP oQ h⟩
omit hb in
theorem add_neg_self (P:F × F):padd P (pneg P)=O2:=by
 unfold padd
 split
 ·rename_i h;rw[h];exact pneg_O
 ·split
  ·rename_i h1 h2
   have:=congrArg pneg h2
   rw[pneg_pneg,pneg_O] at this
   exact absurd this h1
  ·rw[if_pos ⟨rfl,rfl⟩]
omit hb in
theorem neg_add_self (P:F × F):padd (pneg P) P=O2:=by
 have:=add_neg_self (pneg P)
 rwa [pneg_pneg] at this
theorem padd_on {P Q:F × F} (oP:OnP b P) (oQ:OnP b Q):OnP b (padd P Q):=by
 rcases oP with rfl|oP
 ·rw[O_add];exact oQ
 ·rcases oQ with rfl|oQ
  ·rw[add_O];exact .inr oP
  ·rcases ln_or oP oQ with rfl|⟨l,h⟩
   ·rw[add_neg_self];exact .inl rfl
   ·rw[padd_ln hb oP oQ h];exact .inr (h.sum_on oP)
theorem padd_comm {P Q:F × F} (oP:OnP b P) (oQ:OnP b Q):padd P Q=padd Q P:=by
 rcases oP with rfl|oP
 ·rw[O_add,add_O]
 ·rcases oQ with rfl|oQ
  ·rw[O_add,add_O]
  ·rcases ln_or oP oQ with rfl|⟨l,h⟩
   ·rw[add_neg_self,neg_add_self]
   ·rw[padd_ln hb oP oQ h,padd_ln hb oQ oP h.symm,sx_symm,sy_symm h]
theorem cancel {P Q:F × F} (oP:OnP b P) (oQ:OnP b Q):padd (pneg P) (padd P Q)=Q:=by
 rcases oP with rfl|oP
 ·rw[pneg_O,O_add,O_add]
 ·rcases oQ with rfl|oQ
  ·rw[add_O,neg_add_self]
  ·rcases ln_or oP oQ with rfl|⟨l,h⟩
   ·rw[add_neg_self,add_O]
   ·rw[padd_ln hb oP oQ h]
    have ht:=h.third
    have hn:LnP (pneg P) (sx P.1 Q.1 l,sy P.1 P.2 Q.1 l) (-l):=⟨lc1 _ (i_n1 P.1 P.2 _ _ l) ht.1,lc1 _ (i_n2 P.1 P.2 _ _ l) ht.2⟩
    rw[padd_ln hb (pneg_on oP) (h.sum_on oP) hn]
    have ex:sx P.1 (sx P.1 Q.1 l) (-l)=Q.1:=i_c1 P.1 Q.1 l
    refine Prod.ext ex ?_
    show -(-P.2 + -l*(sx P.1 (sx P.1 Q.1 l) (-l)-P.1))=Q.2
    rw[ex]
    exact lc1 _ (i_c2 P.1 P.2 Q.1 Q.2 l) h.1
theorem assoc_two {P R:F × F} (oP:OnF b P) (oR:OnF b R) (h1:R.1≠P.1) {l m l' m':F} (hl:LnP P P l) (hm:LnP (sx P.1 P.1 l,sy P.1 P.2 P.1 l) R m) (hl':LnP P R l') (hm':LnP P (sx P.1 R.1 l',sy P.1 P.2 R.1 l') m') :
  padd (padd P P) R=padd P (padd P R):=by
 rw[padd_ln hb oP oP hl,padd_ln hb oP oR hl',padd_ln hb (hl.sum_on oP) oR hm,padd_ln hb oP (hl'.sum_on oP) hm']
 have hV:sx P.1 R.1 l'≠P.1:=by
  intro e
  have hn:=hm'.not_neg hb oP
  have oV:On b (sx P.1 R.1 l') (sy P.1 P.2 R.1 l'):=hl'.sum_on oP
  have e2:sy P.1 P.2 R.1 l'=P.2:=by
   have:(sy P.1 P.2 R.1 l'-P.2)*(sy P.1 P.2 R.1 l'+P.2)=0:=by
    have oV:sy P.1 P.2 R.1 l'*sy P.1 P.2 R.1 l'=_:=oV
    have oP:P.2*P.2=P.1*P.1*P.1+b:=oP
    rw[i_dsq,oV,oP,e,sub_self]
   rcases mul_eq_zero this with h|h
   ·exact eq_of_sub h
   ·exact absurd ⟨e.symm,(neg_eq (by rw[add_comm];exact h)).symm⟩ hn
  have hc:=cancel hb (.inr oP) (.inr oR)
  rw[padd_ln hb oP oR hl',e,e2] at hc
  have:padd (pneg P) P=R:=hc
  rw[neg_add_self] at this
  exact on_ne hb oR this.symm
 have T2:P.1+P.1+(sx P.1 R.1 l'+l'*m')=(l'+m')*l:=by
  have e:=lc4 _ _ _ _ (i_t3 P.1 P.2 (sx P.1 R.1 l') (sy P.1 P.2 R.1 l') l' m' l) hl'.third.1 hm'.1 hl'.third.2 hl.2
  exact eq_of_sub ((mul_eq_zero e).resolve_left (sub_ne hV))
 obtain⟨e1,e2⟩:=main (u:=sx P.1 R.1 l') (v:=sy P.1 P.2 R.1 l') (l':=l') (m':=m') (s:=sx P.1 (sx P.1 R.1 l') m') (t:=sy P.1 P.2 (sx P.1 R.1 l') m') hb oP oR hl hm T2 (fn1 hl'.third)
  (fn1 hl'.third')
  (fn2 hm'.third') ((sx_symm _ _ _).trans ((i_S P.1 R.1 P.1 l' m').trans (i_perm _ _ _ _))) h1 h1
 exact Prod.ext e1 e2
theorem assoc_three {P Q R:F × F} (oP:OnF b P) (oQ:OnF b Q) (oR:OnF b R) (h0:Q.1≠P.1) (h1:R.1≠P.1) (h2:R.1≠Q.1) {l m l' m':F} (hl:LnP P Q l) (hm:LnP (sx P.1 Q.1 l,sy P.1 P.2 Q.1 l) R m) (hl':LnP Q R l') (hm':LnP P (sx Q.1 R.1 l',sy Q.1 Q.2 R.1 l') m') :
  padd (padd P Q) R=padd P (padd Q R):=by
 rw[padd_ln hb oP oQ hl,padd_ln hb oQ oR hl',padd_ln hb (hl.sum_on oP) oR hm,padd_ln hb oP (hl'.sum_on oQ) hm']
 have f2P:fn (sx Q.1 R.1 l') (sy Q.1 Q.2 R.1 l') l' m' P.1 P.2=0:=fn2 hm'.symm
 have f2Q:fn (sx Q.1 R.1 l') (sy Q.1 Q.2 R.1 l') l' m' Q.1 Q.2=0:=fn1 hl'.third
 have T2:P.1+Q.1+(sx Q.1 R.1 l'+l'*m')=(l'+m')*l:=by
  have e:=lc3 _ _ _ (i_t2 P.1 Q.1 (sx Q.1 R.1 l'+l'*m') (l'+m') l P.2 Q.2 _) f2Q f2P hl.1
  exact eq_of_sub ((mul_eq_zero e).resolve_left (sub_ne h0))
 obtain⟨e1,e2⟩:=main (u:=sx Q.1 R.1 l') (v:=sy Q.1 Q.2 R.1 l') (l':=l') (m':=m') (s:=sx P.1 (sx Q.1 R.1 l') m') (t:=sy P.1 P.2 (sx Q.1 R.1 l') m') hb oP oR hl hm T2 f2P
  (fn1 hl'.third')
  (fn2 hm'.third') ((sx_symm _ _ _).trans ((i_S Q.1 R.1 P.1 l' m').trans (i_perm2 _ _ _ _ _))) h1 h2
 exact Prod.ext e1 e2
theorem pneg_add {P Q:F × F} (oP:OnP b P) (oQ:OnP b Q):pneg (padd P Q)=padd (pneg P) (pneg Q):=by
 rcases oP with rfl|oP
 ·rw[O_add,pneg_O,O_add]
 ·rcases oQ with rfl|oQ
  ·rw[add_O,pneg_O,add_O]
  ·rcases ln_or oP oQ with rfl|⟨l,h⟩
   ·rw[add_neg_self,pneg_pneg,neg_add_self,pneg_O]
   ·have hn:LnP (pneg P) (pneg Q) (-l):=⟨lc1 _ (i_m1 P.1 P.2 Q.1 Q.2 l) h.1,lc1 _ (i_m2 P.1 P.2 Q.1 Q.2 l) h.2⟩
    rw[padd_ln hb oP oQ h,padd_ln hb (pneg_on oP) (pneg_on oQ) hn]
    exact Prod.ext (i_m3 P.1 Q.1 l) (i_m4 P.1 P.2 Q.1 l)
theorem cancel' {P Q:F × F} (oP:OnP b P) (oQ:OnP b Q):padd (padd P Q) (pneg Q)=P:=by
 rw[padd_comm hb (padd_on hb oP oQ) (pneg_onP oQ),padd_comm hb oP oQ,cancel hb oQ oP]
theorem turn {P Q R:F × F} (oP:OnP b P) (oQ:OnP b Q) (h:R=pneg (padd P Q)):padd Q R=pneg P:=by
 rw[h,pneg_add hb oP oQ,padd_comm hb (pneg_onP oP) (pneg_onP oQ)]
 have:=cancel hb (pneg_onP oQ) (pneg_onP oP)
 rwa [pneg_pneg] at this
omit hb in
theorem x_ne {P Q:F × F} (oP:OnF b P) (oQ:OnF b Q) (h1:Q≠P) (h2:Q≠pneg P):Q.1≠P.1:=by
 intro e
 have oP':P.2*P.2=P.1*P.1*P.1+b:=oP
 have oQ':Q.2*Q.2=Q.1*Q.1*Q.1+b:=oQ
 have:(Q.2-P.2)*(Q.2+P.2)=0:=by rw[i_dsq,oP',oQ',e,sub_self]
 rcases mul_eq_zero this with h|h
 ·exact h1 (Prod.ext e (eq_of_sub h))
 ·exact h2 (Prod.ext e (neg_eq (by rw[add_comm];exact h)).symm)
theorem padd_assoc {P Q R:F × F} (oP:OnP b P) (oQ:OnP b Q) (oR:OnP b R):padd (padd P Q) R=padd P (padd Q R):=by
 have oPQ:=padd_on hb oP oQ
 have oQR:=padd_on hb oQ oR
 by_cases c1:Q=pneg P
 ·have:padd P (padd (pneg P) R)=R:=by
   have:=cancel hb (pneg_onP oP) oR
   rwa [pneg_pneg] at this
  rw[c1,add_neg_self,O_add,this]
 by_cases c2:R=pneg Q
 ·rw[c2,add_neg_self,add_O,cancel' hb oP oQ]
 by_cases c3:R=P
 ·rw[c3,padd_comm hb oPQ oP,padd_comm hb oP oQ]
 by_cases c4:R=pneg P
 ·have e:padd P (padd Q (pneg P))=Q:=by
   rw[padd_comm hb oQ (pneg_onP oP)]
   have:=cancel hb (pneg_onP oP) oQ
   rwa [pneg_pneg] at this
  rw[c4,e,padd_comm hb oP oQ,cancel' hb oQ oP]
 by_cases c5:R=pneg (padd P Q)
 ·rw[turn hb oP oQ c5,add_neg_self]
  rw[c5,add_neg_self]
 by_cases c6:padd Q R=pneg P
 ·rw[c6,add_neg_self]
  have h1:P=pneg (padd Q R):=by rw[c6,pneg_pneg]
  have h2:=turn hb oQ oR h1
  have h3:padd R P=pneg Q:=h2
  have h4:Q=pneg (padd R P):=by rw[h3,pneg_pneg]
  have h5:=turn hb oR oP h4
  rw[h5,neg_add_self]
 rcases oP with rfl|oP
 ·rw[O_add,O_add]
 rcases oQ with rfl|oQ
 ·rw[O_add,add_O]
 rcases oR with rfl|oR
 ·rw[add_O,add_O]
 obtain⟨l,hl⟩:=(ln_or oP oQ).resolve_left c1
 obtain⟨l',hl'⟩:=(ln_or oQ oR).resolve_left c2
 have eU:=padd_ln hb oP oQ hl
 have eV:=padd_ln hb oQ oR hl'
 have oU:OnF b (padd P Q):=by rw[eU];exact hl.sum_on oP
 have oV:OnF b (padd Q R):=by rw[eV];exact hl'.sum_on oQ
 obtain⟨m,hm⟩:=(ln_or oU oR).resolve_left c5
 obtain⟨m',hm'⟩:=(ln_or oP oV).resolve_left c6
 rw[eU] at hm
 rw[eV] at hm'
 have n1:R.1≠P.1:=x_ne oP oR c3 c4
 by_cases c7:Q=P
 ·subst c7
  exact assoc_two hb oP oR n1 hl hm hl' hm'
 by_cases c8:R=Q
 ·subst c8
  have k:=hl.symm
  rw[padd_comm hb oPQ (.inr oR),padd_comm hb (.inr oP) (.inr oR),padd_comm hb (.inr oP) oQR]
  have n2:P.1≠R.1:=fun e=>n1 e.symm
  refine (assoc_two hb oR oP n2 (m:=m') (m':=m) hl' hm'.symm k ?_).symm
  have hm:=hm.symm
  rw[sx_symm P.1,sy_symm hl] at hm
  exact hm
 exact assoc_three hb oP oQ oR (x_ne oP oQ c7 c1) n1 (x_ne oQ oR c8 c2) hl hm hl' hm'
end
end Cr
namespace Cr
open Rg Fd
section
variable {F:Type} [Fd F]
abbrev Jc (F:Type):=F × F × F
abbrev J0:Jc F:=(0,0,0)
def jlift (p:F × F):Jc F:=if p=O2 then J0 else (p.1,p.2,1)
def jpoint (a:Jc F):F × F:=if a.2.2=0 then O2 else (a.1*(inv a.2.2*inv a.2.2),a.2.1*(inv a.2.2*inv a.2.2)*inv a.2.2)
def jdX (x y:F):F:=(x*x+x*x+x*x)*(x*x+x*x+x*x)-(x*(y*y)+x*(y*y)+(x*(y*y)+x*(y*y)))-(x*(y*y)+x*(y*y)+(x*(y*y)+x*(y*y)))
def jdbN (a:Jc F):Jc F :=
 (jdX a.1 a.2.1,
  (a.1*a.1+a.1*a.1+a.1*a.1)*(a.1*(a.2.1*a.2.1)+a.1*(a.2.1*a.2.1)+(a.1*(a.2.1*a.2.1)+a.1*(a.2.1*a.2.1))-jdX a.1 a.2.1)-(a.2.1*a.2.1+a.2.1*a.2.1)*(a.2.1*a.2.1+a.2.1*a.2.1)-(a.2.1*a.2.1+a.2.1*a.2.1)*(a.2.1*a.2.1+a.2.1*a.2.1),
  a.2.1*a.2.2+a.2.1*a.2.2)
def jdbl (a:Jc F):Jc F:=if a.2.2=0 then J0 else jdbN a
def jaX (wide rise left:F):F:=rise*rise-wide*wide*wide-left*(wide*wide)-left*(wide*wide)
def jfin (wide rise left low z1 z2:F):Jc F :=
 (jaX wide rise left,rise*(left*(wide*wide)-jaX wide rise left)-low*(wide*wide*wide),z1*z2*wide)
def jadd (a b:Jc F):Jc F:=if a.2.2=0 then b else if b.2.2=0 then a else
 if b.1*(a.2.2*a.2.2)-a.1*(b.2.2*b.2.2)=0 then
  (if b.2.1*(a.2.2*a.2.2)*a.2.2-a.2.1*(b.2.2*b.2.2)*b.2.2=0 then jdbl a else J0)
 else jfin (b.1*(a.2.2*a.2.2)-a.1*(b.2.2*b.2.2)) (b.2.1*(a.2.2*a.2.2)*a.2.2-a.2.1*(b.2.2*b.2.2)*b.2.2) (a.1*(b.2.2*b.2.2)) (a.2.1*(b.2.2*b.2.2)*b.2.2) a.2.2 b.2.2
end
theorem j_slope {F:Type} [Rg F] (X Y z l:F):(X*(z*z)*(X*(z*z))+X*(z*z)*(X*(z*z))+X*(z*z)*(X*(z*z)))-l*(Y*(z*(z*z))*z+Y*(z*(z*z))*z)=(-(z*z*z*z))*(l*(Y+Y)-(X*X+X*X+X*X)) :=
 rid [X,Y,z,l] ((fun (X Y z l:PE)=>((X*(z*z)*(X*(z*z))+X*(z*z)*(X*(z*z))+X*(z*z)*(X*(z*z)))-l*(Y*(z*(z*z))*z+Y*(z*(z*z))*z))) (.v 0) (.v 1) (.v 2) (.v 3)) ((fun (X Y z l:PE)=>((-(z*z*z*z))*(l*(Y+Y)-(X*X+X*X+X*X)))) (.v 0) (.v 1) (.v 2) (.v 3)) (by kernel_rfl)
theorem j_mid {F:Type} [Rg F] (X Y z:F):X*(z*z)*(Y*(z*(z*z))*(Y*(z*(z*z))))+X*(z*z)*(Y*(z*(z*z))*(Y*(z*(z*z))))+(X*(z*z)*(Y*(z*(z*z))*(Y*(z*(z*z))))+X*(z*z)*(Y*(z*(z*z))*(Y*(z*(z*z)))))=X*((Y*(z*(z*z))*z+Y*(z*(z*z))*z)*(Y*(z*(z*z))*z+Y*(z*(z*z))*z)) :=
 rid [X,Y,z] ((fun (X Y z:PE)=>(X*(z*z)*(Y*(z*(z*z))*(Y*(z*(z*z))))+X*(z*z)*(Y*(z*(z*z))*(Y*(z*(z*z))))+(X*(z*z)*(Y*(z*(z*z))*(Y*(z*(z*z))))+X*(z*z)*(Y*(z*(z*z))*(Y*(z*(z*z))))))) (.v 0) (.v 1) (.v 2)) ((fun (X Y z:PE)=>(X*((Y*(z*(z*z))*z+Y*(z*(z*z))*z)*(Y*(z*(z*z))*z+Y*(z*(z*z))*z)))) (.v 0) (.v 1) (.v 2)) (by kernel_rfl)
theorem j_fall {F:Type} [Rg F] (Y z:F):(Y*(z*(z*z))*(Y*(z*(z*z)))+Y*(z*(z*z))*(Y*(z*(z*z))))*(Y*(z*(z*z))*(Y*(z*(z*z)))+Y*(z*(z*z))*(Y*(z*(z*z))))+(Y*(z*(z*z))*(Y*(z*(z*z)))+Y*(z*(z*z))*(Y*(z*(z*z))))*(Y*(z*(z*z))*(Y*(z*(z*z)))+Y*(z*(z*z))*(Y*(z*(z*z))))=Y*((Y*(z*(z*z))*z+Y*(z*(z*z))*z)*((Y*(z*(z*z))*z+Y*(z*(z*z))*z)*(Y*(z*(z*z))*z+Y*(z*(z*z))*z))) :=
 rid [Y,z] ((fun (Y z:PE)=>((Y*(z*(z*z))*(Y*(z*(z*z)))+Y*(z*(z*z))*(Y*(z*(z*z))))*(Y*(z*(z*z))*(Y*(z*(z*z)))+Y*(z*(z*z))*(Y*(z*(z*z))))+(Y*(z*(z*z))*(Y*(z*(z*z)))+Y*(z*(z*z))*(Y*(z*(z*z))))*(Y*(z*(z*z))*(Y*(z*(z*z)))+Y*(z*(z*z))*(Y*(z*(z*z)))))) (.v 0) (.v 1)) ((fun (Y z:PE)=>(Y*((Y*(z*(z*z))*z+Y*(z*(z*z))*z)*((Y*(z*(z*z))*z+Y*(z*(z*z))*z)*(Y*(z*(z*z))*z+Y*(z*(z*z))*z))))) (.v 0) (.v 1)) (by kernel_rfl)
theorem j_x {F:Type} [Rg F] (X Z l:F):l*Z*(l*Z)-X*(Z*Z)-X*(Z*Z)=(l*l-X-X)*(Z*Z) :=
 rid [X,Z,l] ((fun (X Z l:PE)=>(l*Z*(l*Z)-X*(Z*Z)-X*(Z*Z))) (.v 0) (.v 1) (.v 2)) ((fun (X Z l:PE)=>((l*l-X-X)*(Z*Z))) (.v 0) (.v 1) (.v 2)) (by kernel_rfl)
theorem j_y {F:Type} [Rg F] (X Y Z l s:F):l*Z*(X*(Z*Z)-s*(Z*Z))-Y*(Z*(Z*Z))=-(Y+l*(s-X))*(Z*(Z*Z)) :=
 rid [X,Y,Z,l,s] ((fun (X Y Z l s:PE)=>(l*Z*(X*(Z*Z)-s*(Z*Z))-Y*(Z*(Z*Z)))) (.v 0) (.v 1) (.v 2) (.v 3) (.v 4)) ((fun (X Y Z l s:PE)=>(-(Y+l*(s-X))*(Z*(Z*Z)))) (.v 0) (.v 1) (.v 2) (.v 3) (.v 4)) (by kernel_rfl)
theorem j_subsub {F:Type} [Rg F] (a f:F):a-f-f=a-(f+f) :=
 rid [a,f] ((fun (a f:PE)=>(a-f-f)) (.v 0) (.v 1)) ((fun (a f:PE)=>(a-(f+f))) (.v 0) (.v 1)) (by kernel_rfl)
theorem j_z {F:Type} [Rg F] (Y z:F):Y*(z*(z*z))*z+Y*(z*(z*z))*z=(Y+Y)*(z*z*(z*z)) :=
 rid [Y,z] ((fun (Y z:PE)=>(Y*(z*(z*z))*z+Y*(z*(z*z))*z)) (.v 0) (.v 1)) ((fun (Y z:PE)=>((Y+Y)*(z*z*(z*z)))) (.v 0) (.v 1)) (by kernel_rfl)
theorem j_wide {F:Type} [Rg F] (X1 X2 z1 z2:F):X2*(z2*z2)*(z1*z1)-X1*(z1*z1)*(z2*z2)=(X2-X1)*(z1*z2*(z1*z2)) :=
 rid [X1,X2,z1,z2] ((fun (X1 X2 z1 z2:PE)=>(X2*(z2*z2)*(z1*z1)-X1*(z1*z1)*(z2*z2))) (.v 0) (.v 1) (.v 2) (.v 3)) ((fun (X1 X2 z1 z2:PE)=>((X2-X1)*(z1*z2*(z1*z2)))) (.v 0) (.v 1) (.v 2) (.v 3)) (by kernel_rfl)
theorem j_rise {F:Type} [Rg F] (Y1 Y2 z1 z2:F):Y2*(z2*(z2*z2))*(z1*z1)*z1-Y1*(z1*(z1*z1))*(z2*z2)*z2=(Y2-Y1)*(z1*z2*(z1*z2*(z1*z2))) :=
 rid [Y1,Y2,z1,z2] ((fun (Y1 Y2 z1 z2:PE)=>(Y2*(z2*(z2*z2))*(z1*z1)*z1-Y1*(z1*(z1*z1))*(z2*z2)*z2)) (.v 0) (.v 1) (.v 2) (.v 3)) ((fun (Y1 Y2 z1 z2:PE)=>((Y2-Y1)*(z1*z2*(z1*z2*(z1*z2))))) (.v 0) (.v 1) (.v 2) (.v 3)) (by kernel_rfl)
theorem j_riseZ {F:Type} [Rg F] (X1 Y1 X2 Y2 w l:F):(Y2-Y1)*(w*(w*w))-l*(w*((X2-X1)*(w*w)))=(-(w*(w*w)))*(l*(X2-X1)-(Y2-Y1)) :=
 rid [X1,Y1,X2,Y2,w,l] ((fun (X1 Y1 X2 Y2 w l:PE)=>((Y2-Y1)*(w*(w*w))-l*(w*((X2-X1)*(w*w))))) (.v 0) (.v 1) (.v 2) (.v 3) (.v 4) (.v 5)) ((fun (X1 Y1 X2 Y2 w l:PE)=>((-(w*(w*w)))*(l*(X2-X1)-(Y2-Y1)))) (.v 0) (.v 1) (.v 2) (.v 3) (.v 4) (.v 5)) (by kernel_rfl)
theorem j_ax {F:Type} [Rg F] (X1 z1 z2 D l:F):l*(z1*z2*(D*(z1*z2*(z1*z2))))*(l*(z1*z2*(D*(z1*z2*(z1*z2)))))-D*(z1*z2*(z1*z2))*(D*(z1*z2*(z1*z2)))*(D*(z1*z2*(z1*z2)))-X1*(z1*z1)*(z2*z2)*(D*(z1*z2*(z1*z2))*(D*(z1*z2*(z1*z2))))-X1*(z1*z1)*(z2*z2)*(D*(z1*z2*(z1*z2))*(D*(z1*z2*(z1*z2))))=(l*l-D-X1-X1)*(z1*z2*(D*(z1*z2*(z1*z2)))*(z1*z2*(D*(z1*z2*(z1*z2))))) :=
 rid [X1,z1,z2,D,l] ((fun (X1 z1 z2 D l:PE)=>(l*(z1*z2*(D*(z1*z2*(z1*z2))))*(l*(z1*z2*(D*(z1*z2*(z1*z2)))))-D*(z1*z2*(z1*z2))*(D*(z1*z2*(z1*z2)))*(D*(z1*z2*(z1*z2)))-X1*(z1*z1)*(z2*z2)*(D*(z1*z2*(z1*z2))*(D*(z1*z2*(z1*z2))))-X1*(z1*z1)*(z2*z2)*(D*(z1*z2*(z1*z2))*(D*(z1*z2*(z1*z2)))))) (.v 0) (.v 1) (.v 2) (.v 3) (.v 4)) ((fun (X1 z1 z2 D l:PE)=>((l*l-D-X1-X1)*(z1*z2*(D*(z1*z2*(z1*z2)))*(z1*z2*(D*(z1*z2*(z1*z2))))))) (.v 0) (.v 1) (.v 2) (.v 3) (.v 4)) (by kernel_rfl)
theorem j_ay {F:Type} [Rg F] (X1 Y1 z1 z2 D l s:F):l*(z1*z2*(D*(z1*z2*(z1*z2))))*(X1*(z1*z1)*(z2*z2)*(D*(z1*z2*(z1*z2))*(D*(z1*z2*(z1*z2))))-s*(z1*z2*(D*(z1*z2*(z1*z2)))*(z1*z2*(D*(z1*z2*(z1*z2))))))-Y1*(z1*(z1*z1))*(z2*z2)*z2*(D*(z1*z2*(z1*z2))*(D*(z1*z2*(z1*z2)))*(D*(z1*z2*(z1*z2))))=-(Y1+l*(s-X1))*(z1*z2*(D*(z1*z2*(z1*z2)))*(z1*z2*(D*(z1*z2*(z1*z2)))*(z1*z2*(D*(z1*z2*(z1*z2)))))) :=
 rid [X1,Y1,z1,z2,D,l,s] ((fun (X1 Y1 z1 z2 D l s:PE)=>(l*(z1*z2*(D*(z1*z2*(z1*z2))))*(X1*(z1*z1)*(z2*z2)*(D*(z1*z2*(z1*z2))*(D*(z1*z2*(z1*z2))))-s*(z1*z2*(D*(z1*z2*(z1*z2)))*(z1*z2*(D*(z1*z2*(z1*z2))))))-Y1*(z1*(z1*z1))*(z2*z2)*z2*(D*(z1*z2*(z1*z2))*(D*(z1*z2*(z1*z2)))*(D*(z1*z2*(z1*z2)))))) (.v 0) (.v 1) (.v 2) (.v 3) (.v 4) (.v 5) (.v 6)) ((fun (X1 Y1 z1 z2 D l s:PE)=>(-(Y1+l*(s-X1))*(z1*z2*(D*(z1*z2*(z1*z2)))*(z1*z2*(D*(z1*z2*(z1*z2)))*(z1*z2*(D*(z1*z2*(z1*z2)))))))) (.v 0) (.v 1) (.v 2) (.v 3) (.v 4) (.v 5) (.v 6)) (by kernel_rfl)
theorem j_D {F:Type} [Rg F] (X1 X2 l:F):l*l-(X2-X1)-X1-X1=l*l-X1-X2 :=
 rid [X1,X2,l] ((fun (X1 X2 l:PE)=>(l*l-(X2-X1)-X1-X1)) (.v 0) (.v 1) (.v 2)) ((fun (X1 X2 l:PE)=>(l*l-X1-X2)) (.v 0) (.v 1) (.v 2)) (by kernel_rfl)
theorem j_p1 {F:Type} [Rg F] (X z i:F):X*(z*z)*(i*i)=X*(z*i*(z*i)) :=
 rid [X,z,i] ((fun (X z i:PE)=>(X*(z*z)*(i*i))) (.v 0) (.v 1) (.v 2)) ((fun (X z i:PE)=>(X*(z*i*(z*i)))) (.v 0) (.v 1) (.v 2)) (by kernel_rfl)
theorem j_p2 {F:Type} [Rg F] (Y z i:F):Y*(z*(z*z))*(i*i)*i=Y*(z*i*(z*i*(z*i))) :=
 rid [Y,z,i] ((fun (Y z i:PE)=>(Y*(z*(z*z))*(i*i)*i)) (.v 0) (.v 1) (.v 2)) ((fun (Y z i:PE)=>(Y*(z*i*(z*i*(z*i))))) (.v 0) (.v 1) (.v 2)) (by kernel_rfl)
section
variable {F:Type} [Fd F] {b:F}
def Rep (b:F) (a:Jc F) (P:F × F):Prop:=(a.2.2=0/\P=O2)\/(a.2.2≠0/\a.1=P.1*(a.2.2*a.2.2)/\a.2.1=P.2*(a.2.2*(a.2.2*a.2.2))/\OnF b P)
theorem Rep.on {a:Jc F} {P:F × F} (h:Rep b a P):OnP b P:=by
 rcases h with ⟨_,h⟩|⟨_,_,_,h⟩
 ·exact .inl h
 ·exact .inr h
theorem rep_lift {P:F × F} (h:OnP b P):Rep b (jlift P) P:=by
 unfold jlift
 split
 ·rename_i e;exact .inl ⟨rfl,e⟩
 ·rename_i e
  rcases h with h|h
  ·exact absurd h e
  ·refine .inr ⟨one_ne,?_,?_,h⟩
   ·show P.1=P.1*(1*1);rw[one_mul,mul_one]
   ·show P.2=P.2*(1*(1*1));rw[one_mul,one_mul,mul_one]
theorem rep_point {a:Jc F} {P:F × F} (h:Rep b a P):jpoint a=P:=by
 unfold jpoint
 rcases h with ⟨h,e⟩|⟨h,e1,e2,_⟩
 ·rw[if_pos h,e]
 ·rw[if_neg h]
  refine Prod.ext ?_ ?_
  ·show a.1*(inv a.2.2*inv a.2.2)=P.1
   rw[e1,j_p1,mul_inv _ h,one_mul,mul_one]
  ·show a.2.1*(inv a.2.2*inv a.2.2)*inv a.2.2=P.2
   rw[e2,j_p2,mul_inv _ h,one_mul,one_mul,mul_one]
theorem rep_dbl (hb:b≠0) {a:Jc F} {P:F × F} (h:Rep b a P):Rep b (jdbl a) (padd P P):=by
 unfold jdbl jdbN
 rcases h with ⟨h,rfl⟩|⟨h,e1,e2,oP⟩
 ·rw[if_pos h,O_add];exact .inl ⟨rfl,rfl⟩
 ·rw[if_neg h]
  obtain⟨x,y,z⟩:=a
  obtain⟨X,Y⟩:=P
  simp only at h e1 e2 ⊢
  subst e1 e2
  have hz:Y*(z*(z*z))*z+Y*(z*(z*z))*z=(Y+Y)*(z*z*(z*z)):=j_z Y z
  have hz4:z*z*(z*z)≠0:=mul_ne (mul_ne h h) (mul_ne h h)
  by_cases hY:Y=0
  ·subst hY
   left
   refine⟨?_,?_⟩
   ·show (0:F)*(z*(z*z))*z+0*(z*(z*z))*z=0
    rw[hz,add_zero,zero_mul]
   ·have:=add_neg_self ((X,0):F × F)
    rwa [show pneg ((X,0):F × F)=(X,0) from by show (X,-(0:F))=_;rw[neg_zero]] at this
  ·have hY2:Y+Y≠0:=fun e=>hY (double_eq_zero e)
   obtain⟨l,hl⟩:=(ln_or (P:=(X,Y)) (Q:=(X,Y)) oP oP).resolve_left (fun e=>hY (eq_neg_self (congrArg Prod.snd e)))
   right
   have ex:jdX (X*(z*z)) (Y*(z*(z*z)))=sx X X l*((Y*(z*(z*z))*z+Y*(z*(z*z))*z)*(Y*(z*(z*z))*z+Y*(z*(z*z))*z)):=by
    unfold jdX
    rw[j_mid X Y z,lc1 _ (j_slope X Y z l) hl.2]
    exact j_x _ _ _
   refine⟨?_,?_,?_,?_⟩
   ·show Y*(z*(z*z))*z+Y*(z*(z*z))*z≠0
    rw[hz];exact mul_ne hY2 hz4
   ·rw[padd_ln hb oP oP hl];exact ex
   ·rw[padd_ln hb oP oP hl]
    show _-_-_=sy X Y X l*_
    rw[j_subsub,j_fall Y z,ex,j_mid X Y z,lc1 _ (j_slope X Y z l) hl.2]
    exact j_y _ _ _ _ _
   ·rw[padd_ln hb oP oP hl];exact hl.sum_on oP
theorem rep_add (hb:b≠0) {a c:Jc F} {P Q:F × F} (h:Rep b a P) (k:Rep b c Q):Rep b (jadd a c) (padd P Q):=by
 have hd:=rep_dbl hb h
 unfold jadd
 rcases h with ⟨h,rfl⟩|⟨h,e1,e2,oP⟩
 ·rw[if_pos h,O_add];exact k
 ·rw[if_neg h]
  rcases k with ⟨k,rfl⟩|⟨k,f1,f2,oQ⟩
  ·rw[if_pos k,add_O];exact .inr ⟨h,e1,e2,oP⟩
  ·rw[if_neg k]
   obtain⟨x,y,z⟩:=a
   obtain⟨x',y',z'⟩:=c
   obtain⟨X,Y⟩:=P
   obtain⟨X',Y'⟩:=Q
   simp only at h k e1 e2 f1 f2 hd ⊢
   subst e1 e2 f1 f2
   rw[j_wide X X' z z',j_rise Y Y' z z']
   have hw:z*z'≠0:=mul_ne h k
   have hww:z*z'*(z*z')≠0:=mul_ne hw hw
   have hwww:z*z'*(z*z'*(z*z'))≠0:=mul_ne hw hww
   by_cases hX:X'-X=0
   ·rw[if_pos (by rw[hX,zero_mul])]
    have hX:=eq_of_sub hX
    subst hX
    by_cases hY:Y'-Y=0
    ·rw[if_pos (by rw[hY,zero_mul])]
     have hY:=eq_of_sub hY
     subst hY
     exact hd
    ·rw[if_neg (mul_ne hY hwww)]
     left
     refine⟨rfl,?_⟩
     rcases ln_or (P:=(X',Y)) (Q:=(X',Y')) oP oQ with e|⟨l,hl⟩
     ·rw[e,add_neg_self]
     ·exfalso
      have:=hl.1
      rw[sub_self,mul_zero] at this
      exact hY this.symm
   ·rw[if_neg (mul_ne hX hww)]
    obtain⟨l,hl⟩:=(ln_or (P:=(X,Y)) (Q:=(X',Y')) oP oQ).resolve_left (fun e=>hX (by rw[show X'=X from congrArg Prod.fst e,sub_self]))
    have er:(Y'-Y)*(z*z'*(z*z'*(z*z')))=l*(z*z'*((X'-X)*(z*z'*(z*z')))):=lc1 _ (j_riseZ X Y X' Y' (z*z') l) hl.1
    rw[er,padd_ln hb oP oQ hl]
    have ex:jaX ((X'-X)*(z*z'*(z*z'))) (l*(z*z'*((X'-X)*(z*z'*(z*z'))))) (X*(z*z)*(z'*z'))=sx X X' l*(z*z'*((X'-X)*(z*z'*(z*z')))*(z*z'*((X'-X)*(z*z'*(z*z'))))):=by
     unfold jaX
     rw[j_ax X z z' (X'-X) l,j_D]
     rfl
    right
    refine⟨mul_ne hw (mul_ne hX hww),ex,?_,hl.sum_on oP⟩
    show _*(_-jaX _ _ _)-_=sy X Y X' l*_
    rw[ex]
    exact j_ay _ _ _ _ _ _ _
end
end Cr
namespace Cr
def Prm (p:Nat):Prop:=1<p/\∀ d,d∣p->d=1\/d=p
theorem Prm.coprime {p k:Nat} (h:Prm p) (hk:¬ p∣k):Nat.Coprime p k:=by
 rcases h.2 (Nat.gcd p k) (Nat.gcd_dvd_left p k) with e|e
 ·exact e
 ·exact absurd (e▸Nat.gcd_dvd_right p k) hk
theorem Prm.dvd_mul {p a b:Nat} (h:Prm p) (hd:p∣a*b):p∣a\/p∣b:=by
 by_cases ha:p∣a
 ·exact .inl ha
 ·exact .inr ((h.coprime ha).dvd_of_dvd_mul_left hd)
def ch:Nat->Nat->Nat
 | _,0=>1
 | 0,_+1=>0
 | n+1,k+1=>ch n k+ch n (k+1)
theorem ch_zero (n:Nat):ch n 0=1:=by cases n<;>rfl
theorem ch_mul:∀ n k:Nat,(k+1)*ch (n+1) (k+1)=(n+1)*ch n k:=by
 intro n
 induction n with
 | zero =>
  intro k
  cases k with
  | zero=>rfl
  | succ k=>simp[ch]
 | succ n ih =>
  intro k
  cases k with
  | zero =>
   have h:(0+1)*ch (n+1) 1=(n+1)*ch n 0:=ih 0
   rw[ch_zero] at h
   show 1*(ch (n+1) 0+ch (n+1) 1)=(n+1+1)*ch (n+1) 0
   rw[ch_zero]
   omega
  | succ j =>
   have h1:=ih j
   have h2:=ih (j+1)
   have e1:ch (n+1+1) (j+1+1)=ch (n+1) (j+1)+ch (n+1) (j+1+1):=rfl
   have e2:ch (n+1) (j+1)=ch n j+ch n (j+1):=rfl
   rw[e1,Nat.mul_add,h2,Nat.add_mul (j+1) 1,h1,Nat.one_mul]
   rw[e2,Nat.mul_add,Nat.add_mul (n+1) 1,Nat.add_mul (n+1) 1]
   omega
theorem ch_self:∀ n:Nat,ch n n=1/\∀ k,n<k->ch n k=0:=by
 intro n
 induction n with
 | zero=>exact⟨rfl,fun k hk=>by cases k with|zero=>omega|succ k=>rfl⟩
 | succ n ih =>
  refine⟨?_,fun k hk=>?_⟩
  ·show ch n n+ch n (n+1)=1
   rw[ih.1,ih.2 (n+1) (by omega)]
  ·cases k with
   | zero=>omega
   | succ k=>show ch n k+ch n (k+1)=0;rw[ih.2 k (by omega),ih.2 (k+1) (by omega)]
def chS (n a:Nat):Nat->Nat
 | 0=>0
 | m+1=>chS n a m+ch n m*a^m
theorem chS_succ (n a:Nat):∀ m,chS (n+1) a (m+1)=a*chS n a m+chS n a (m+1):=by
 intro m
 induction m with
 | zero=>simp[chS,ch_zero]
 | succ m ih =>
  show chS (n+1) a (m+1)+ch (n+1) (m+1)*a^(m+1)=a*(chS n a m+ch n m*a^m)+(chS n a (m+1)+ch n (m+1)*a^(m+1))
  rw[ih]
  have e:ch (n+1) (m+1)=ch n m+ch n (m+1):=rfl
  rw[e,Nat.add_mul,Nat.mul_add,Nat.pow_succ,Nat.mul_comm (a^m) a,Nat.mul_left_comm a (ch n m)]
  omega
theorem binom (a:Nat):∀ n m,n<m->(a+1)^n=chS n a m:=by
 intro n
 induction n with
 | zero =>
  intro m hm
  cases m with
  | zero=>omega
  | succ m =>
   clear hm
   induction m with
   | zero=>simp[chS,ch_zero]
   | succ m ih=>show _=chS 0 a (m+1)+ch 0 (m+1)*a^(m+1);rw[<- ih,show ch 0 (m+1)=0 from rfl,Nat.zero_mul];rfl
 | succ n ih =>
  intro m hm
  cases m with
  | zero=>omega
  | succ m =>
   rw[chS_succ,<- ih m (by omega),<- ih (m+1) (by omega),Nat.pow_succ,Nat.mul_add,Nat.mul_one,Nat.mul_comm a]
theorem Prm.ch_dvd {p k:Nat} (h:Prm p) (h0:0<k) (h1:k<p):p∣ch p k:=by
 obtain⟨j,rfl⟩:∃ j,k=j+1:=⟨k-1,by omega⟩
 obtain⟨q,rfl⟩:∃ q,p=q+1:=⟨p-1,by omega⟩
 have e:=ch_mul q j
 have:q+1∣(j+1)*ch (q+1) (j+1):=⟨ch q j,e⟩
 rcases h.dvd_mul this with h2|h2
 ·exact absurd (Nat.le_of_dvd (by omega) h2) (by omega)
 ·exact h2
theorem Prm.chS_mod {p:Nat} (h:Prm p) (a:Nat):∀ m,m<p->chS p a (m+1)%p=1:=by
 intro m
 have hp:=h.1
 induction m with
 | zero=>intro _;show (0+ch p 0*a^0)%p=1;rw[ch_zero,Nat.pow_zero,Nat.zero_add,Nat.mul_one];exact Nat.mod_eq_of_lt hp
 | succ m ih =>
  intro hm
  show (chS p a (m+1)+ch p (m+1)*a^(m+1))%p=1
  obtain⟨c,hc⟩:=h.ch_dvd (k:=m+1) (by omega) hm
  rw[hc,Nat.mul_assoc,Nat.add_mul_mod_self_left,ih (by omega)]
theorem Prm.step {p:Nat} (h:Prm p) (a:Nat):(a+1)^p%p=(a^p+1)%p:=by
 rw[binom a p (p+1) (by omega)]
 show (chS p a p+ch p p*a^p)%p=_
 obtain⟨q,hq⟩:∃ q,p=q+1:=⟨p-1,by have:=h.1;omega⟩
 have:=h.chS_mod a q (by omega)
 rw[<- hq] at this
 rw[(ch_self p).1,Nat.one_mul,Nat.add_mod,this,Nat.add_comm,<- Nat.add_mod_mod (a^p%p),Nat.mod_add_mod]
 have:1%p=1:=Nat.mod_eq_of_lt h.1
 rw[Nat.add_mod (a^p) 1,this,Nat.add_mod (a^p) 1,this]
theorem Prm.fermat {p:Nat} (h:Prm p) (a:Nat):a^p%p=a%p:=by
 induction a with
 | zero=>rw[Nat.zero_pow (by have:=h.1;omega)]
 | succ a ih=>rw[h.step,Nat.add_mod,ih,<- Nat.add_mod]
theorem Prm.fermat' {p a:Nat} (h:Prm p) (ha:¬ p∣a):a^(p-1)%p=1:=by
 have hp:=h.1
 have e:a^p=a^(p-1)*a:=by rw[<- Nat.pow_succ];congr 1;omega
 have f:=h.fermat a
 rw[e] at f
 have h1:1<=a^(p-1):=Nat.pos_of_ne_zero (fun z=>by
  have:a=0:=by
   rcases Nat.eq_zero_or_pos a with h|h
   ·exact h
   ·exact absurd z (Nat.ne_of_gt (Nat.pow_pos h))
  exact ha (this▸Nat.dvd_zero p))
 have hd:p∣(a^(p-1)-1)*a:=by
  rw[Nat.sub_mul,Nat.one_mul]
  exact Nat.dvd_of_mod_eq_zero (Nat.sub_mod_eq_zero_of_mod_eq f)
 rcases h.dvd_mul hd with h2|h2
 ·obtain⟨c,hc⟩:=h2
  have:a^(p-1)=1+p*c:=by omega
  rw[this,Nat.add_mul_mod_self_left,Nat.mod_eq_of_lt hp]
 ·exact absurd h2 ha
theorem pow_gcd {d e:Nat}:∀ m n,e^m%d=1->e^n%d=1->e^(Nat.gcd m n)%d=1:=by
 intro m n
 induction m,n using Nat.gcd.induction with
 | H0 n=>intro _ h;rwa [Nat.gcd_zero_left]
 | H1 m n hm ih =>
  intro h1 h2
  rw[Nat.gcd_rec]
  refine ih ?_ h1
  have e1:e^n=(e^m)^(n/m)*e^(n%m):=by rw[<- Nat.pow_mul,<- Nat.pow_add,Nat.div_add_mod]
  rw[e1,Nat.mul_mod,Nat.pow_mod,h1,Nat.one_pow] at h2
  have hd:d≠1:=by intro hd;subst hd;rw[Nat.mod_one] at h1;cases h1
  have h1d:1%d=1:=by
   rcases Nat.eq_zero_or_pos d with h|h
   ·subst h;rfl
   ·exact Nat.mod_eq_of_lt (by omega)
  rw[h1d,Nat.one_mul,Nat.mod_mod] at h2
  exact h2
theorem exists_prime:∀ n:Nat,1<n->∃ d,Prm d/\d∣n:=by
 intro n
 induction n using Nat.strongRecOn with
 | _ n ih =>
  intro hn
  by_cases hp:Prm n
  ·exact⟨n,hp,Nat.dvd_refl n⟩
  ·have:∃ d,d∣n/\d≠1/\d≠n:=by
    refine Classical.byContradiction fun hc=>hp ⟨hn,fun d hd=>?_⟩
    by_cases h1:d=1
    ·exact .inl h1
    ·by_cases h2:d=n
     ·exact .inr h2
     ·exact absurd ⟨d,hd,h1,h2⟩ hc
   obtain⟨d,hd,h1,h2⟩:=this
   have hdn:=Nat.le_of_dvd (by omega) hd
   have hd0:d≠0:=by rintro rfl;have:=Nat.eq_zero_of_zero_dvd hd;omega
   obtain⟨q,hq,hqd⟩:=ih d (by omega) (by omega)
   exact⟨q,hq,Nat.dvd_trans hqd hd⟩
theorem small_prime {n:Nat} (hn:1<n) (hp:¬ Prm n):∃ d,Prm d/\d∣n/\d*d<=n:=by
 have:∃ d,d∣n/\d≠1/\d≠n:=by
  refine Classical.byContradiction fun hc=>hp ⟨hn,fun d hd=>?_⟩
  by_cases h1:d=1
  ·exact .inl h1
  ·by_cases h2:d=n
   ·exact .inr h2
   ·exact absurd ⟨d,hd,h1,h2⟩ hc
 obtain⟨d,⟨c,hc⟩,h1,h2⟩:=this
 have hd0:d≠0:=by rintro rfl;omega
 have hc0:c≠0:=by rintro rfl;omega
 have hc1:c≠1:=by rintro rfl;omega
 by_cases hle:d<=c
 ·obtain⟨q,hq,hqd⟩:=exists_prime d (by omega)
  have:=Nat.le_of_dvd (by omega) hqd
  refine⟨q,hq,Nat.dvd_trans hqd ⟨c,hc⟩,?_⟩
  rw[hc];exact Nat.mul_le_mul this (by omega)
 ·obtain⟨q,hq,hqc⟩:=exists_prime c (by omega)
  have:=Nat.le_of_dvd (by omega) hqc
  refine⟨q,hq,Nat.dvd_trans hqc ⟨d,by rw[hc,Nat.mul_comm]⟩,?_⟩
  rw[hc];exact Nat.mul_le_mul (by omega) this
def pm:Nat->Nat->Nat->Nat->Nat
 | 0,_,_,n=>1%n
 | f+1,a,e,n=>match Nat.beq e 0 with
  | true=>1%n
  | false=>match Nat.beq (e%2) 1 with
   | true=>a*pm f (a*a%n) (e/2) n%n
   | false=>pm f (a*a%n) (e/2) n
theorem pm_eq:∀ f a e n,e<2^f->pm f a e n=a^e%n:=by
 intro f
 induction f with
 | zero=>intro a e n h;have:e=0:=by simp at h;exact h
         subst this;rfl
 | succ f ih =>
  intro a e n h
  unfold pm
  split
  ·rename_i h0;have:=Nat.eq_of_beq_eq_true h0;subst this;rfl
  ·have hr:=ih (a*a%n) (e/2) n (by rw[Nat.pow_succ] at h;omega)
   have hsq:(a*a%n)^(e/2)%n=a^(2*(e/2))%n:=by rw[<- Nat.pow_mod,Nat.pow_mul,Nat.pow_two]
   split
   ·rename_i h1
    have h1:=Nat.eq_of_beq_eq_true h1
    rw[hr,hsq,Nat.mul_mod_mod,<- Nat.pow_succ']
    congr 2;omega
   ·rename_i h1
    have h1:e%2≠1:=fun h2=>by rw[h2] at h1;exact absurd h1 (by decide)
    rw[hr,hsq]
    congr 2;omega
theorem dvd_pow_self' {a q:Nat} (h:0<q):a∣a^q:=by
 obtain⟨j,rfl⟩:∃ j,q=j+1:=⟨q-1,by omega⟩
 exact⟨a^j,by rw[Nat.pow_succ,Nat.mul_comm]⟩
theorem pock {N q k a f:Nat} (hq:Prm q) (hN:N=q*k+1) (hf:N<2^f) (h1:pm f a (q*k) N=1) (h2:Nat.gcd (pm f a k N+(N-1)) N=1) {d:Nat} (hd:Prm d) (hdN:d∣N):q∣d-1:=by
 have hk:k<2^f:=by
  have:k<=q*k:=Nat.le_mul_of_pos_left k (by have:=hq.1;omega)
  omega
 have hd1:=hd.1
 rw[pm_eq f a _ N (by omega)] at h1
 rw[pm_eq f a k N hk] at h2
 have e1:(a^k)^q%d=1:=by
  rw[<- Nat.pow_mul,Nat.mul_comm k q,<- Nat.mod_mod_of_dvd _ hdN,h1,Nat.mod_eq_of_lt hd1]
 have hne:a^k%d≠1:=by
  intro he
  have hdv:d∣a^k%N+(N-1):=by
   have h3:(a^k%N)%d=1:=by rw[Nat.mod_mod_of_dvd _ hdN];exact he
   refine Nat.dvd_of_mod_eq_zero ?_
   obtain⟨c,hc⟩:=hdN
   have:a^k%N+(N-1)+1=a^k%N+d*c:=by omega
   have h5:(a^k%N+(N-1)+1)%d=1:=by rw[this,Nat.add_mul_mod_self_left,h3]
   have h6:=Nat.add_mod (a^k%N+(N-1)) 1 d
   rw[h5,Nat.mod_eq_of_lt hd1] at h6
   have h7:=Nat.mod_lt (a^k%N+(N-1)) (show 0<d by omega)
   generalize (a^k%N+(N-1))%d=r at *
   by_cases hr:r+1=d
   ·rw[hr,Nat.mod_self] at h6;cases h6
   ·rw[Nat.mod_eq_of_lt (by omega)] at h6;omega
  have:=Nat.dvd_gcd hdv hdN
  rw[h2] at this
  have:=Nat.le_of_dvd (by omega) this
  omega
 have hda:¬ d∣a^k:=by
  intro h
  have:(a^k)^q%d=0:=Nat.mod_eq_zero_of_dvd (Nat.dvd_trans h (dvd_pow_self' (by have:=hq.1;omega)))
  rw[this] at e1;cases e1
 have e2:=hd.fermat' hda
 refine Classical.byContradiction fun hnd=>?_
 have hg:=hq.coprime hnd
 have:=pow_gcd q (d-1) e1 e2
 rw[hg,Nat.pow_one] at this
 exact hne this
def noDiv (n:Nat):Nat->Nat->Bool
 | 0,lo => !(Nat.beq (n%lo) 0)
 | f+1,lo=>noDiv n f lo&&noDiv n f (lo+2^f)
theorem noDiv_spec {n:Nat}:∀ f lo,noDiv n f lo=true->∀ d,lo<=d->d<lo+2^f->¬ d∣n:=by
 intro f
 induction f with
 | zero =>
  intro lo h d h1 h2 hd
  have:d=lo:=by simp at h2;omega
  subst this
  unfold noDiv at h
  rw[Nat.mod_eq_zero_of_dvd hd] at h
  simp at h
 | succ f ih =>
  intro lo h d h1 h2
  unfold noDiv at h
  simp only[Bool.and_eq_true] at h
  rw[Nat.pow_succ] at h2
  by_cases hm:d<lo+2^f
  ·exact ih lo h.1 d h1 hm
  ·exact ih (lo+2^f) h.2 d (by omega) (by omega)
theorem trial {n f:Nat} (hn:1<n) (hf:n<(2+2^f)*(2+2^f)) (h:noDiv n f 2=true):Prm n:=by
 refine Classical.byContradiction fun hp=>?_
 obtain⟨d,hd,hdn,hdd⟩:=small_prime hn hp
 refine noDiv_spec f 2 h d hd.1 ?_ hdn
 refine Classical.byContradiction fun hc=>?_
 have:(2+2^f)*(2+2^f)<=d*d:=Nat.mul_le_mul (by omega) (by omega)
 omega
end Cr
namespace Cr
theorem pock_fin {K d n:Nat} (hd:1<d) (h:K∣d-1) (hdd:d*d<=n) (hK:n<K*K):False:=by
 have hle:=Nat.le_of_dvd (by omega) h
 have:K*K<=d*d:=Nat.mul_le_mul (by omega) (by omega)
 omega
theorem prm_421987:Prm 421987:=trial (f:=10) (by decide) (by decide) (by kernel_rfl)
theorem prm_13090036741:Prm 13090036741:=by
 refine Classical.byContradiction fun hp=>?_
 obtain⟨d,hd,hdn,hdd⟩:=small_prime (n:=13090036741) (by decide) hp
 have h0:421987∣d-1:=pock (k:=31020) (a:=2) (f:=34) prm_421987 (by kernel_rfl) (of_decide_eq_true (by kernel_rfl)) (by kernel_rfl) (by kernel_rfl) hd hdn
 exact pock_fin hd.1 h0 hdd (of_decide_eq_true (by kernel_rfl))
theorem prm_755057:Prm 755057:=trial (f:=10) (by decide) (by decide) (by kernel_rfl)
theorem prm_3819663927398918131021:Prm 3819663927398918131021:=by
 refine Classical.byContradiction fun hp=>?_
 obtain⟨d,hd,hdn,hdd⟩:=small_prime (n:=3819663927398918131021) (by decide) hp
 have h0:13090036741∣d-1:=pock (k:=291799328220) (a:=2) (f:=72) prm_13090036741 (by kernel_rfl) (of_decide_eq_true (by kernel_rfl)) (by kernel_rfl) (by kernel_rfl) hd hdn
 have h1:755057∣d-1:=pock (k:=5058775598926860) (a:=2) (f:=72) prm_755057 (by kernel_rfl) (of_decide_eq_true (by kernel_rfl)) (by kernel_rfl) (by kernel_rfl) hd hdn
 have g1:13090036741*755057∣d-1:=Nat.Coprime.mul_dvd_of_dvd_of_dvd (show Nat.gcd 13090036741 755057=1 by kernel_rfl) h0 h1
 rw[show 13090036741*755057=9883723871549237 by kernel_rfl] at g1
 exact pock_fin hd.1 g1 hdd (of_decide_eq_true (by kernel_rfl))
theorem prm_1125266252156850182658904441386709967:Prm 1125266252156850182658904441386709967:=by
 refine Classical.byContradiction fun hp=>?_
 obtain⟨d,hd,hdn,hdd⟩:=small_prime (n:=1125266252156850182658904441386709967) (by decide) hp
 have h0:3819663927398918131021∣d-1:=pock (k:=294598235223046) (a:=2) (f:=120) prm_3819663927398918131021 (by kernel_rfl) (of_decide_eq_true (by kernel_rfl)) (by kernel_rfl) (by kernel_rfl) hd hdn
 exact pock_fin hd.1 h0 hdd (of_decide_eq_true (by kernel_rfl))
theorem prm_15778400344354997994418419698270088123916926905054652752758194827714659:Prm 15778400344354997994418419698270088123916926905054652752758194827714659:=by
 refine Classical.byContradiction fun hp=>?_
 obtain⟨d,hd,hdn,hdd⟩:=small_prime (n:=15778400344354997994418419698270088123916926905054652752758194827714659) (by decide) hp
 have h0:1125266252156850182658904441386709967∣d-1:=pock (k:=14021926201120671579994175730661374) (a:=2) (f:=234) prm_1125266252156850182658904441386709967 (by kernel_rfl) (of_decide_eq_true (by kernel_rfl)) (by kernel_rfl) (by kernel_rfl) hd hdn
 exact pock_fin hd.1 h0 hdd (of_decide_eq_true (by kernel_rfl))
theorem prm_p:Prm 4002409555221667393417789825735904156556882819939007885332058136124031650490837864442687629129015664037894272559787:=by
 refine Classical.byContradiction fun hp=>?_
 obtain⟨d,hd,hdn,hdd⟩:=small_prime (n:=4002409555221667393417789825735904156556882819939007885332058136124031650490837864442687629129015664037894272559787) (by decide) hp
 have h0:15778400344354997994418419698270088123916926905054652752758194827714659∣d-1:=pock (k:=253663835868735594330404923636534084567099854) (a:=2) (f:=381) prm_15778400344354997994418419698270088123916926905054652752758194827714659 (by kernel_rfl) (of_decide_eq_true (by kernel_rfl)) (by kernel_rfl) (by kernel_rfl) hd hdn
 exact pock_fin hd.1 h0 hdd (of_decide_eq_true (by kernel_rfl))
theorem prm_254760293:Prm 254760293:=trial (f:=14) (by decide) (by decide) (by kernel_rfl)
theorem prm_52437899:Prm 52437899:=trial (f:=13) (by decide) (by decide) (by kernel_rfl)
theorem prm_2529403:Prm 2529403:=trial (f:=11) (by decide) (by decide) (by kernel_rfl)
theorem prm_2508409:Prm 2508409:=trial (f:=11) (by decide) (by decide) (by kernel_rfl)
theorem prm_906349:Prm 906349:=trial (f:=10) (by decide) (by decide) (by kernel_rfl)
theorem prm_859267:Prm 859267:=trial (f:=10) (by decide) (by decide) (by kernel_rfl)
theorem prm_r:Prm 52435875175126190479447740508185965837690552500527637822603658699938581184513:=by
 refine Classical.byContradiction fun hp=>?_
 obtain⟨d,hd,hdn,hdd⟩:=small_prime (n:=52435875175126190479447740508185965837690552500527637822603658699938581184513) (by decide) hp
 have h0:254760293∣d-1:=pock (k:=205824363591567193241718168805002771125288949563767528806397073424384) (a:=2) (f:=255) prm_254760293 (by kernel_rfl) (of_decide_eq_true (by kernel_rfl)) (by kernel_rfl) (by kernel_rfl) hd hdn
 have h1:52437899∣d-1:=pock (k:=999961405302035279473110478895921551656570994587857873989262207090688) (a:=2) (f:=255) prm_52437899 (by kernel_rfl) (of_decide_eq_true (by kernel_rfl)) (by kernel_rfl) (by kernel_rfl) hd hdn
 have h2:2529403∣d-1:=pock (k:=20730534112249487519168649878325425342537568153642435714120548880482304) (a:=2) (f:=255) prm_2529403 (by kernel_rfl) (of_decide_eq_true (by kernel_rfl)) (by kernel_rfl) (by kernel_rfl) hd hdn
 have h3:2508409∣d-1:=pock (k:=20904037250355181503274681484632675866531555460264908084209416686010368) (a:=2) (f:=255) prm_2508409 (by kernel_rfl) (of_decide_eq_true (by kernel_rfl)) (by kernel_rfl) (by kernel_rfl) hd hdn
 have h4:906349∣d-1:=pock (k:=57853956009358636109763171259841369977448590444219211167666824479244288) (a:=2) (f:=255) prm_906349 (by kernel_rfl) (of_decide_eq_true (by kernel_rfl)) (by kernel_rfl) (by kernel_rfl) hd hdn
 have h5:859267∣d-1:=pock (k:=61023960160376449321861238134579782346686830170980193377150127608692736) (a:=2) (f:=255) prm_859267 (by kernel_rfl) (of_decide_eq_true (by kernel_rfl)) (by kernel_rfl) (by kernel_rfl) hd hdn
 have g1:254760293*52437899∣d-1:=Nat.Coprime.mul_dvd_of_dvd_of_dvd (show Nat.gcd 254760293 52437899=1 by kernel_rfl) h0 h1
 rw[show 254760293*52437899=13359094513544407 by kernel_rfl] at g1
 have g2:13359094513544407*2529403∣d-1:=Nat.Coprime.mul_dvd_of_dvd_of_dvd (show Nat.gcd 13359094513544407 2529403=1 by kernel_rfl) g1 h2
 rw[show 13359094513544407*2529403=33790533739842763699021 by kernel_rfl] at g2
 have g3:33790533739842763699021*2508409∣d-1:=Nat.Coprime.mul_dvd_of_dvd_of_dvd (show Nat.gcd 33790533739842763699021 2508409=1 by kernel_rfl) g2 h3
 rw[show 33790533739842763699021*2508409=84760478947825247047497567589 by kernel_rfl] at g3
 have g4:84760478947825247047497567589*906349∣d-1:=Nat.Coprime.mul_dvd_of_dvd_of_dvd (show Nat.gcd 84760478947825247047497567589 906349=1 by kernel_rfl) g3 h4
 rw[show 84760478947825247047497567589*906349=76822575333882464836252372886722561 by kernel_rfl] at g4
 have g5:76822575333882464836252372886722561*859267∣d-1:=Nat.Coprime.mul_dvd_of_dvd_of_dvd (show Nat.gcd 76822575333882464836252372886722561 859267=1 by kernel_rfl) g4 h5
 rw[show 76822575333882464836252372886722561*859267=66011103839419183912452067693255434822787 by kernel_rfl] at g5
 exact pock_fin hd.1 g5 hdd (of_decide_eq_true (by kernel_rfl))
end Cr
namespace Cr
def U64 (a:Int):Prop:=0<=a/\a<18446744073709551616
def Ws (xs:List Int):Prop:=∀ x∈xs,U64 x
def val:List Int->Int
 | []=>0
 | x::xs=>x+18446744073709551616*val xs
def lim:Nat->Int->List Int
 | 0,_=>[]
 | n+1,N=>N%18446744073709551616::lim n (N/18446744073709551616)
def pw:Nat->Int
 | 0=>1
 | n+1=>18446744073709551616*pw n
theorem pw_pos (n:Nat):0<pw n:=by
 induction n with
 | zero=>decide
 | succ n ih=>simp only[pw];omega
theorem lim_length (n:Nat) (N:Int):(lim n N).length=n:=by
 induction n generalizing N with
 | zero=>rfl
 | succ n ih=>simp[lim,ih]
theorem lim_ws (n:Nat) (N:Int):Ws (lim n N):=by
 induction n generalizing N with
 | zero=>intro x h;cases h
 | succ n ih =>
  intro x h
  simp only[lim,List.mem_cons] at h
  rcases h with rfl|h
  ·exact⟨by omega,by omega⟩
  ·exact ih _ x h
theorem val_nonneg {xs:List Int} (h:Ws xs):0<=val xs:=by
 induction xs with
 | nil=>decide
 | cons x xs ih =>
  have h1:=h x (by simp)
  have h2:=ih (fun y hy=>h y (by simp[hy]))
  simp only[val];have:=h1.1;omega
theorem val_lt {xs:List Int} (h:Ws xs):val xs<pw xs.length:=by
 induction xs with
 | nil=>decide
 | cons x xs ih =>
  have h1:=h x (by simp)
  have h2:=ih (fun y hy=>h y (by simp[hy]))
  simp only[val,pw,List.length_cons];have:=h1.2;omega
theorem val_lim (n:Nat) (N:Int):val (lim n N)=N%pw n:=by
 induction n generalizing N with
 | zero=>simp[lim,val,pw,Int.emod_one]
 | succ n ih =>
  simp only[lim,val,pw,ih]
  have hp:=pw_pos n
  rw[<- Int.emod_add_mul_ediv N 18446744073709551616]
  generalize hq:N/18446744073709551616=q
  generalize hr:N%18446744073709551616=r
  have hr0:0<=r/\r<18446744073709551616:=by omega
  have e1:(r+18446744073709551616*q)%18446744073709551616=r:=by omega
  have e2:(r+18446744073709551616*q)/18446744073709551616=q:=by omega
  rw[e1,e2]
  have e3:q=q%pw n+pw n*(q/pw n):=(Int.emod_add_mul_ediv q (pw n)).symm
  have hb:=Int.emod_nonneg q (by omega:pw n≠0)
  have hb2:=Int.emod_lt_of_pos q hp
  generalize hs:q%pw n=s at *
  generalize q/pw n=t at *
  subst e3
  rw[show r+18446744073709551616*(s+pw n*t)=(r+18446744073709551616*s)+18446744073709551616*pw n*t from by rw[Int.mul_add,Int.mul_assoc];omega]
  rw[Int.add_mul_emod_self_left]
  exact (Int.emod_eq_of_lt (by omega) (by omega)).symm
theorem lim_val {xs:List Int} (h:Ws xs):lim xs.length (val xs)=xs:=by
 induction xs with
 | nil=>rfl
 | cons x xs ih =>
  have h1:=h x (by simp)
  have h2:=ih (fun y hy=>h y (by simp[hy]))
  simp only[val,lim,List.length_cons]
  obtain⟨a,b⟩:=h1
  rw[show (x+18446744073709551616*val xs)%18446744073709551616=x from by omega,show (x+18446744073709551616*val xs)/18446744073709551616=val xs from by omega,h2]
theorem val_inj {xs ys:List Int} (hx:Ws xs) (hy:Ws ys) (hl:xs.length=ys.length) (h:val xs=val ys):xs=ys:=by
 rw[<- lim_val hx,<- lim_val hy,hl,h]
def subL:List Int->List Int->Int->List Int × Int
 | a::us,b::vs,k=>((a-b-k)%18446744073709551616::(subL us vs (if a<b+k then 1 else 0)).1,(subL us vs (if a<b+k then 1 else 0)).2)
 | _,_,k=>([],k)
def addL:List Int->List Int->Int->List Int × Int
 | a::us,b::vs,k=>((a+b+k)%18446744073709551616::(addL us vs ((a+b+k)/18446744073709551616)).1,(addL us vs ((a+b+k)/18446744073709551616)).2)
 | _,_,k=>([],k)
theorem subL_spec:∀ (us vs:List Int) (k:Int),us.length=vs.length->Ws us->Ws vs->(k=0\/k=1) ->
  (subL us vs k).1.length=us.length/\Ws (subL us vs k).1/\((subL us vs k).2=0\/(subL us vs k).2=1)/\val (subL us vs k).1=val us-val vs-k+pw us.length*(subL us vs k).2:=by
 intro us
 induction us with
 | nil =>
  intro vs k h _ _ hk
  cases vs with
  | nil=>refine⟨rfl,fun x h=>(nomatch h),hk,?_⟩;simp[subL,val,pw];omega
  | cons b vs=>simp at h
 | cons a us ih =>
  intro vs k h ha hb hk
  cases vs with
  | nil=>simp at h
  | cons b vs =>
   obtain⟨a0,a1⟩:=ha a (by simp)
   obtain⟨b0,b1⟩:=hb b (by simp)
   obtain⟨g1,g2,g3,g4⟩:=ih vs (if a<b+k then 1 else 0) (by simpa using h) (fun y hy=>ha y (by simp[hy])) (fun y hy=>hb y (by simp[hy])) (by split<;>simp)
   refine⟨by simp[subL,g1],?_,g3,?_⟩
   ·intro x hx
    simp only[subL,List.mem_cons] at hx
    rcases hx with rfl|hx
    ·exact⟨by omega,by omega⟩
    ·exact g2 x hx
   ·simp only[subL,val,List.length_cons,pw,g4]
    generalize (subL us vs (if a<b+k then 1 else 0)).2=c at *
    rw[Int.mul_assoc]
    generalize pw us.length*c=pc at *
    split<;>omega
theorem addL_spec:∀ (us vs:List Int) (k:Int),us.length=vs.length->Ws us->Ws vs->(k=0\/k=1) ->
  (addL us vs k).1.length=us.length/\Ws (addL us vs k).1/\((addL us vs k).2=0\/(addL us vs k).2=1)/\val (addL us vs k).1=val us+val vs+k-pw us.length*(addL us vs k).2:=by
 intro us
 induction us with
 | nil =>
  intro vs k h _ _ hk
  cases vs with
  | nil=>refine⟨rfl,fun x h=>(nomatch h),hk,?_⟩;simp[addL,val,pw]
  | cons b vs=>simp at h
 | cons a us ih =>
  intro vs k h ha hb hk
  cases vs with
  | nil=>simp at h
  | cons b vs =>
   obtain⟨a0,a1⟩:=ha a (by simp)
   obtain⟨b0,b1⟩:=hb b (by simp)
   obtain⟨g1,g2,g3,g4⟩:=ih vs ((a+b+k)/18446744073709551616) (by simpa using h) (fun y hy=>ha y (by simp[hy])) (fun y hy=>hb y (by simp[hy])) (by omega)
   refine⟨by simp[addL,g1],?_,g3,?_⟩
   ·intro x hx
    simp only[addL,List.mem_cons] at hx
    rcases hx with rfl|hx
    ·exact⟨by omega,by omega⟩
    ·exact g2 x hx
   ·simp only[addL,val,List.length_cons,pw,g4]
    generalize (addL us vs ((a+b+k)/18446744073709551616)).2=c at *
    rw[Int.mul_assoc]
    generalize pw us.length*c=pc at *
    omega
theorem subL_eq {us vs:List Int} (hl:us.length=vs.length) (ha:Ws us) (hb:Ws vs):(subL us vs 0).1=lim us.length (val us-val vs)/\(subL us vs 0).2=if val us<val vs then 1 else 0:=by
 obtain⟨h1,h2,h3,h4⟩:=subL_spec us vs 0 hl ha hb (.inl rfl)
 have hp:=pw_pos us.length
 have p1:=val_nonneg h2
 have p2:=val_lt h2
 rw[h1] at p2
 have q1:=val_nonneg ha
 have q2:=val_lt ha
 have r1:=val_nonneg hb
 have r2:=val_lt hb
 rw[<- hl] at r2
 constructor
 ·refine val_inj h2 (lim_ws _ _) (by rw[h1,lim_length]) ?_
  rw[val_lim,h4]
  rcases h3 with h3|h3
  ·rw[h3] at h4 ⊢
   rw[Int.emod_eq_of_lt (by omega) (by omega)];omega
  ·rw[h3] at h4 ⊢
   rw[show val us-val vs-0+pw us.length*1=val us-val vs+pw us.length from by omega]
   rw[<- Int.add_emod_right,Int.emod_eq_of_lt (by omega) (by omega)]
 ·rcases h3 with h3|h3
  ·rw[h3] at h4 ⊢;rw[if_neg (by omega)]
  ·rw[h3] at h4 ⊢;rw[if_pos (by omega)]
theorem addL_eq {us vs:List Int} (hl:us.length=vs.length) (ha:Ws us) (hb:Ws vs):(addL us vs 0).1=lim us.length (val us+val vs):=by
 obtain⟨h1,h2,h3,h4⟩:=addL_spec us vs 0 hl ha hb (.inl rfl)
 have hp:=pw_pos us.length
 have p1:=val_nonneg h2
 have p2:=val_lt h2
 rw[h1] at p2
 refine val_inj h2 (lim_ws _ _) (by rw[h1,lim_length]) ?_
 rw[val_lim,h4]
 rcases h3 with h3|h3
 ·rw[h3] at h4 ⊢
  rw[Int.emod_eq_of_lt (by omega) (by omega)];omega
 ·rw[h3] at h4 ⊢
  rw[show val us+val vs+0-pw us.length*1=val us+val vs-pw us.length from by omega]
  rw[<- Int.sub_emod_right,Int.emod_eq_of_lt (by omega) (by omega)]
end Cr
namespace Cr
class Md (M:Int) where
 n:Nat
 rinv:Int
 gt:1<M
 big:2*M<=pw n
 inv:(pw n*rinv)%M=1
structure Zm (M:Int) where
 v:Int
 nn:0<=v
 lt:v<M
theorem Zm.ext {M:Int} {a b:Zm M} (h:a.v=b.v):a=b:=by
 cases a;cases b;simp at h;subst h;rfl
instance {M : Int} : DecidableEq (Zm M) := fun a b =>
 if h:a.v=b.v then isTrue (Zm.ext h) else isFalse (fun e=>h (by rw[e]))
section
variable {M:Int} [Md M]
theorem Mpos:0<M:=by have:=Md.gt (M:=M);omega
def zm (a:Int):Zm M:=⟨a%M,Int.emod_nonneg _ (by have:=Mpos (M:=M);omega),Int.emod_lt_of_pos _ Mpos⟩
instance : Add (Zm M) := ⟨fun a b => zm (a.v + b.v)⟩
instance : Mul (Zm M) := ⟨fun a b => zm (a.v * b.v)⟩
instance : Neg (Zm M) := ⟨fun a => zm (-a.v)⟩
instance : Sub (Zm M) := ⟨fun a b => zm (a.v - b.v)⟩
instance : Zero (Zm M) := ⟨zm 0⟩
instance : One (Zm M) := ⟨zm 1⟩
theorem zm_v (a:Int):(zm a:Zm M).v=a%M:=rfl
theorem add_v (a b:Zm M):(a+b).v=(a.v+b.v)%M:=rfl
theorem mul_v (a b:Zm M):(a*b).v=(a.v*b.v)%M:=rfl
theorem neg_v (a:Zm M):(-a).v=(-a.v)%M:=rfl
theorem sub_v (a b:Zm M):(a-b).v=(a.v-b.v)%M:=rfl
theorem zero_v:(0:Zm M).v=0:=by show (0:Int)%M=0;simp
theorem one_v:(1:Zm M).v=1:=by show (1:Int)%M=1;exact Int.emod_eq_of_lt (by omega) Md.gt
omit [Md M] in
theorem v_mod (a:Zm M):a.v%M=a.v:=Int.emod_eq_of_lt a.nn a.lt
theorem zm_self (a:Zm M):zm a.v=a:=Zm.ext (v_mod a)
theorem zm_add (a b:Int):(zm a+zm b:Zm M)=zm (a+b):=Zm.ext (by simp[add_v,zm_v])
theorem zm_mul (a b:Int):(zm a*zm b:Zm M)=zm (a*b):=Zm.ext (by simp[mul_v,zm_v,<- Int.mul_emod])
theorem zm_sub (a b:Int):(zm a-zm b:Zm M)=zm (a-b):=Zm.ext (by simp[sub_v,zm_v])
theorem zm_neg (a:Int):(-zm a:Zm M)=zm (-a):=Zm.ext (by
 rw[neg_v,zm_v,zm_v]
 have h:=Int.emod_def a M
 rw[show -(a%M)=-a+M*(a/M) by omega,Int.add_mul_emod_self_left])
theorem zm_eq {a b:Int} (h:a%M=b%M):(zm a:Zm M)=zm b:=Zm.ext h
theorem zm_zero:(zm 0:Zm M)=0:=rfl
def R2:Zm M:=zm (pw (Md.n M))
def R2i:Zm M:=zm (Md.rinv M)
theorem R2_R2i:(R2:Zm M)*R2i=1:=by
 unfold R2 R2i
 rw[zm_mul]
 exact Zm.ext (by rw[zm_v,one_v];exact Md.inv)
def enc (x:Zm M):List Int:=lim (Md.n M) (x*R2).v
def dec (xs:List Int):Zm M:=zm (val xs)*R2i
def Canon (M:Int) [Md M] (xs:List Int):Prop:=xs.length=Md.n M/\Ws xs/\val xs<M
theorem mul_assoc' (a b c:Zm M):a*b*c=a*(b*c):=Zm.ext (by
 simp only[mul_v]
 rw[Int.mul_emod,Int.emod_emod,<- Int.mul_emod,Int.mul_emod a.v,Int.emod_emod,<- Int.mul_emod,Int.mul_assoc])
theorem mul_comm' (a b:Zm M):a*b=b*a:=Zm.ext (by simp only[mul_v,Int.mul_comm])
theorem mul_one' (a:Zm M):a*1=a:=Zm.ext (by rw[mul_v,one_v,Int.mul_one,v_mod])
theorem M_lt_pw:M<pw (Md.n M):=by have:=Md.big (M:=M);have:=Mpos (M:=M);omega
theorem enc_length (x:Zm M):(enc x).length=Md.n M:=lim_length _ _
theorem enc_ws (x:Zm M):Ws (enc x):=lim_ws _ _
theorem val_enc (x:Zm M):val (enc x)=(x*R2).v:=by
 unfold enc
 rw[val_lim,Int.emod_eq_of_lt (x*R2).nn (by have:=(x*R2).lt;have:=M_lt_pw (M:=M);omega)]
theorem enc_canon (x:Zm M):Canon M (enc x):=⟨enc_length x,enc_ws x,by rw[val_enc];exact (x*R2).lt⟩
theorem dec_enc (x:Zm M):dec (enc x)=x:=by
 unfold dec
 rw[val_enc,zm_self,mul_assoc',R2_R2i,mul_one']
theorem dec_R2 (xs:List Int):dec xs*R2=(zm (val xs):Zm M):=by
 unfold dec
 rw[mul_assoc',mul_comm' R2i,R2_R2i,mul_one']
theorem enc_dec {xs:List Int} (h:Canon M xs):enc (dec xs:Zm M)=xs:=by
 obtain⟨h1,h2,h3⟩:=h
 unfold enc
 rw[dec_R2,zm_v,Int.emod_eq_of_lt (val_nonneg h2) h3,<- h1]
 exact lim_val h2
theorem enc_inj {x y:Zm M} (h:enc x=enc y):x=y:=by rw[<- dec_enc x,<- dec_enc y,h]
theorem enc_of {x:Zm M} {N:Int} (h:x*R2=zm N):enc x=lim (Md.n M) (N%M):=by
 unfold enc;rw[h,zm_v]
theorem add_mul' (a b c:Zm M):(a+b)*c=a*c+b*c:=by
 rw[<- zm_self a,<- zm_self b,<- zm_self c];simp only[zm_add,zm_mul,Int.add_mul]
theorem sub_mul' (a b c:Zm M):(a-b)*c=a*c-b*c:=by
 rw[<- zm_self a,<- zm_self b,<- zm_self c];simp only[zm_sub,zm_mul,Int.sub_mul]
theorem enc_add {xs ys:List Int}:enc (dec xs+dec ys:Zm M)=lim (Md.n M) ((val xs+val ys)%M) :=
 enc_of (by rw[add_mul',dec_R2,dec_R2,zm_add])
theorem enc_sub {xs ys:List Int}:enc (dec xs-dec ys:Zm M)=lim (Md.n M) ((val xs-val ys)%M) :=
 enc_of (by rw[sub_mul',dec_R2,dec_R2,zm_sub])
theorem enc_mul {xs ys:List Int}:enc (dec xs*dec ys:Zm M)=lim (Md.n M) (val xs*val ys*Md.rinv M%M) :=
 enc_of (by
  rw[mul_assoc',dec_R2,mul_comm' (dec xs)]
  show zm (val ys)*(zm (val xs)*zm (Md.rinv M))=_
  rw[zm_mul,zm_mul,<- Int.mul_assoc,Int.mul_comm (val ys)])
theorem lim_zero (n:Nat):lim n 0=List.replicate n 0:=by
 induction n with
 | zero=>rfl
 | succ n ih=>simp[lim,ih,List.replicate_succ]
theorem enc_zero:enc (0:Zm M)=List.replicate (Md.n M) 0:=by
 unfold enc
 rw[show (0:Zm M)*R2=0 from Zm.ext (by rw[mul_v,zero_v];simp),zero_v,lim_zero]
theorem enc_zm {N:Int}:enc (zm N:Zm M)=lim (Md.n M) (N*pw (Md.n M)%M) :=
 enc_of (by unfold R2;rw[zm_mul])
end
end Cr
namespace Cr
def Mp:Int:=4002409555221667393417789825735904156556882819939007885332058136124031650490837864442687629129015664037894272559787
def Mr:Int:=52435875175126190479447740508185965837690552500527637822603658699938581184513
instance : Md Mp where
 n:=6
 rinv:=3231460744492646417066832100176244795738767926513225105051837195607029917124509527734802654356338138714468589979680
 gt:=by decide
 big:=by decide
 inv:=by decide
instance : Md Mr where
 n:=4
 rinv:=12549076656233958353659347336803947287922716146853412054870763148006372261952
 gt:=by decide
 big:=by decide
 inv:=by decide
abbrev Fp:=Zm Mp
abbrev Fr:=Zm Mr
abbrev zmp (a:Int):Fp:=zm a
abbrev zmr (a:Int):Fr:=zm a
end Cr
namespace Cr
section
variable {M:Int} [Md M]
theorem times_enc (x y:Zm M):lim (Md.n M) (val (enc x)*val (enc y)*Md.rinv M%M)=enc (x*y):=by
 rw[<- enc_mul,dec_enc,dec_enc]
theorem val_enc_lt (x:Zm M):0<=val (enc x)/\val (enc x)<M:=⟨val_nonneg (enc_ws x),(enc_canon x).2.2⟩
theorem val_lim_of {n:Nat} {a:Int} (h0:0<=a) (h1:a<pw n):val (lim n a)=a:=by
 rw[val_lim,Int.emod_eq_of_lt h0 h1]
theorem add_enc (x y:Zm M):(if val (lim (Md.n M) (val (enc x)+val (enc y)))<M then lim (Md.n M) (val (enc x)+val (enc y)) else lim (Md.n M) (val (lim (Md.n M) (val (enc x)+val (enc y)))-M))=enc (x+y):=by
 have hx:=val_enc_lt x
 have hy:=val_enc_lt y
 have hb:=Md.big (M:=M)
 have e:enc (x+y)=lim (Md.n M) ((val (enc x)+val (enc y))%M):=by rw[<- enc_add,dec_enc,dec_enc]
 rw[val_lim_of (by omega) (by omega),e]
 split
 ·rename_i h;rw[Int.emod_eq_of_lt (by omega) h]
 ·rename_i h;rw[<- Int.sub_emod_right,Int.emod_eq_of_lt (by omega) (by omega)]
theorem lim_mod (n:Nat) (a:Int):lim n (a%pw n)=lim n a:=by
 have h1:=val_lim n a
 have h2:=val_lim n (a%pw n)
 rw[Int.emod_emod] at h2
 exact val_inj (lim_ws _ _) (lim_ws _ _) (by rw[lim_length,lim_length]) (by rw[h1,h2])
theorem sub_enc_lt {x y:Zm M} (h:val (enc x)<val (enc y)):lim (Md.n M) (val (lim (Md.n M) (val (enc x)-val (enc y)))+M)=enc (x-y):=by
 have hx:=val_enc_lt x
 have hy:=val_enc_lt y
 have e:enc (x-y)=lim (Md.n M) ((val (enc x)-val (enc y))%M):=by rw[<- enc_sub,dec_enc,dec_enc]
 rw[e,val_lim,<- lim_mod _ (_+M),Int.emod_add_emod,lim_mod]
 congr 1
 rw[<- Int.add_emod_right,Int.emod_eq_of_lt (by omega) (by omega)]
theorem sub_enc_ge {x y:Zm M} (h:¬ val (enc x)<val (enc y)):lim (Md.n M) (val (enc x)-val (enc y))=enc (x-y):=by
 have hx:=val_enc_lt x
 have hy:=val_enc_lt y
 have e:enc (x-y)=lim (Md.n M) ((val (enc x)-val (enc y))%M):=by rw[<- enc_sub,dec_enc,dec_enc]
 rw[e,Int.emod_eq_of_lt (by omega) (by omega)]
theorem plain_enc (x:Zm M) {u:List Int} (hu:val u=1):lim (Md.n M) (val (enc x)*val u*Md.rinv M%M)=lim (Md.n M) x.v:=by
 congr 1
 rw[hu,Int.mul_one,val_enc]
 show ((x.v*(pw (Md.n M)%M))%M)*Md.rinv M%M=_
 have h:=Md.inv (M:=M)
 have:(x.v*(pw (Md.n M)%M)%M)*Md.rinv M%M=x.v*(pw (Md.n M)*Md.rinv M)%M:=by
  rw[Int.mul_emod,Int.emod_emod,<- Int.mul_emod,Int.mul_assoc,Int.mul_emod,Int.mul_emod (pw (Md.n M)%M),Int.emod_emod,<- Int.mul_emod (pw (Md.n M)),<- Int.mul_emod]
 rw[this,Int.mul_emod,h,Int.mul_one,Int.emod_emod,v_mod]
theorem shift_enc {ys:List Int}:lim (Md.n M) (val (enc (R2:Zm M))*val ys*Md.rinv M%M)=enc (zm (val ys):Zm M):=by
 rw[enc_zm,val_enc]
 congr 1
 have h:=Md.inv (M:=M)
 show ((pw (Md.n M)%M)*(pw (Md.n M)%M)%M)*val ys*Md.rinv M%M=_
 rw[<- Int.mul_emod]
 have e:(pw (Md.n M)*pw (Md.n M)%M)*val ys*Md.rinv M%M=(pw (Md.n M)*pw (Md.n M))*(val ys*Md.rinv M)%M:=by
  rw[Int.mul_assoc,Int.mul_emod,Int.emod_emod,<- Int.mul_emod]
 rw[e,show pw (Md.n M)*pw (Md.n M)*(val ys*Md.rinv M)=(val ys*pw (Md.n M))*(pw (Md.n M)*Md.rinv M) by
  rw[Int.mul_assoc,Int.mul_comm (val ys) (pw (Md.n M)),Int.mul_assoc,Int.mul_left_comm (pw (Md.n M)) (val ys)],Int.mul_emod,h,Int.mul_one,Int.emod_emod]
end
end Cr
namespace Cr
def Bs (l:List Int):Prop:=∀ x∈l,0<=x/\x<256
def num (l:List Int):Int:=l.foldl (fun a b=>a*256+b) 0
def p256:Nat->Int
 | 0=>1
 | n+1=>256*p256 n
theorem p256_pos (n:Nat):0<p256 n:=by
 induction n with
 | zero=>decide
 | succ n ih=>simp only[p256];omega
theorem p256_add (m n:Nat):p256 (m+n)=p256 m*p256 n:=by
 induction m with
 | zero=>simp[p256]
 | succ m ih=>rw[Nat.succ_add];simp only[p256,ih,Int.mul_assoc]
theorem p256_8 (n:Nat):p256 (8*n)=pw n:=by
 induction n with
 | zero=>rfl
 | succ n ih =>
  rw[Nat.mul_succ,Nat.add_comm,p256_add,ih]
  rfl
theorem num_snoc (l:List Int) (b:Int):num (l++[b])=num l*256+b:=by simp[num]
theorem foldl_num (l:List Int):∀ a:Int,l.foldl (fun a b=>a*256+b) a=a*p256 l.length+num l:=by
 induction l with
 | nil=>intro a;simp[num,p256]
 | cons b l ih =>
  intro a
  simp only[List.foldl_cons,List.length_cons,p256,num]
  rw[ih,ih (0*256+b)]
  simp only[Int.add_mul,Int.zero_mul,Int.zero_add]
  rw[show a*256*p256 l.length=a*(256*p256 l.length) from Int.mul_assoc _ _ _]
  omega
theorem num_append (l m:List Int):num (l++m)=num l*p256 m.length+num m:=by
 show (l++m).foldl _ 0=_
 rw[List.foldl_append,foldl_num]
 rfl
theorem num_bd {l:List Int} (h:Bs l):0<=num l/\num l<p256 l.length:=by
 induction l with
 | nil=>simp[num,p256]
 | cons b l ih =>
  have hb:=h b (by simp)
  have hi:=ih (fun x hx=>h x (by simp[hx]))
  have e:num (b::l)=b*p256 l.length+num l:=num_append [b] l▸by simp[num]
  rw[e,List.length_cons]
  simp only[p256]
  have hp:=p256_pos l.length
  have h1:=Int.mul_nonneg hb.1 (Int.le_of_lt hp)
  have h2:b*p256 l.length<=255*p256 l.length:=Int.mul_le_mul_of_nonneg_right (by omega) (Int.le_of_lt hp)
  omega
theorem Bs_take {l:List Int} (h:Bs l) (n:Nat):Bs (l.take n):=fun x hx=>h x (List.mem_of_mem_take hx)
theorem Bs_drop {l:List Int} (h:Bs l) (n:Nat):Bs (l.drop n):=fun x hx=>h x (List.mem_of_mem_drop hx)
theorem num_take_succ {l:List Int} {k:Nat} (h:k<l.length):num (l.take (k+1))=num (l.take k)*256+l.getD k 0:=by
 rw[List.take_succ_eq_append_getElem h,num_snoc]
 congr 1
 simp[h]
theorem lim_set:∀ (n j:Nat) (A d:Int),j<n->0<=d->(lim n A).getD j 0+d<18446744073709551616 ->
  (lim n A).set j ((lim n A).getD j 0+d)=lim n (A+d*pw j):=by
 intro n
 induction n with
 | zero=>intro j A d h;omega
 | succ n ih =>
  intro j A d hj hd hlt
  cases j with
  | zero =>
   simp only[lim,List.getD_cons_zero,List.set_cons_zero,pw,Int.mul_one] at hlt ⊢
   have h1:(A+d)%18446744073709551616=A%18446744073709551616+d:=by omega
   have h2:(A+d)/18446744073709551616=A/18446744073709551616:=by omega
   rw[h1,h2]
  | succ j =>
   simp only[lim,List.getD_cons_succ,List.set_cons_succ,pw] at hlt ⊢
   rw[ih j _ d (by omega) hd hlt]
   have e:d*(18446744073709551616*pw j)=18446744073709551616*(d*pw j):=by rw[Int.mul_left_comm]
   have h1:(A+18446744073709551616*(d*pw j))%18446744073709551616=A%18446744073709551616:=by omega
   have h2:(A+18446744073709551616*(d*pw j))/18446744073709551616=A/18446744073709551616+d*pw j:=by omega
   rw[e,h1,h2]
theorem lim_get:∀ (n j:Nat) (A:Int),j<n->(lim n A).getD j 0=A/pw j%18446744073709551616:=by
 intro n
 induction n with
 | zero=>intro j A h;omega
 | succ n ih =>
  intro j A hj
  cases j with
  | zero=>simp[lim,pw]
  | succ j =>
   simp only[lim,List.getD_cons_succ,pw]
   rw[ih j _ (by omega),Int.ediv_ediv_of_nonneg (by decide)]
theorem p256_pow (n:Nat):p256 n=((2^(8*n):Nat):Int):=by
 induction n with
 | zero=>rfl
 | succ n ih=>rw[p256,ih,Nat.mul_succ,Nat.pow_add];simp;omega
theorem word_at (N:Int) (q:Nat):(N*p256 (q+1))/pw (q/8)%18446744073709551616=N*p256 (q%8+1)%18446744073709551616:=by
 have e:N*p256 (q+1)=N*p256 (q%8+1)*pw (q/8):=by
  rw[<- p256_8,Int.mul_assoc,<- p256_add]
  congr 2;omega
 rw[e,Int.mul_ediv_cancel _ (by have:=pw_pos (q/8);omega)]
theorem p256_dvd {m:Nat} (h:m<=8):∃ c:Int,(18446744073709551616:Int)=c*p256 m/\0<c:=by
 refine⟨p256 (8-m),?_,p256_pos _⟩
 rw[<- p256_add,Nat.sub_add_cancel h];rfl
theorem or_word {N v:Int} {q:Nat} (hv0:0<=v) (hv:v<256) (hq:q<8) :
  ∃ c:Nat,N*p256 (q+1)%18446744073709551616=((c*2^(8*(q+1)):Nat):Int)/\v*p256 q<p256 (q+1)/\0<=v*p256 q/\N*p256 (q+1)%18446744073709551616+v*p256 q<18446744073709551616:=by
 obtain⟨c,hc,hc0⟩:=p256_dvd (m:=q+1) (by omega)
 have hp:=p256_pos (q+1)
 have e:N*p256 (q+1)%18446744073709551616=(N%c)*p256 (q+1):=by
  rw[hc,Int.mul_comm N,Int.mul_comm c,Int.mul_emod_mul_of_pos _ _ hp,Int.mul_comm]
 have hn0:=Int.emod_nonneg N (show c≠0 by omega)
 have hn1:=Int.emod_lt_of_pos N hc0
 have hvb:v*p256 q<p256 (q+1):=by
  show _<256*p256 q
  exact Int.mul_lt_mul_of_pos_right hv (p256_pos q)
 have hvn:0<=v*p256 q:=Int.mul_nonneg hv0 (Int.le_of_lt (p256_pos q))
 refine⟨(N%c).toNat,?_,hvb,hvn,?_⟩
 ·rw[e,p256_pow]
  rw[Int.natCast_mul,Int.toNat_of_nonneg hn0]
 ·rw[e,hc]
  have:(N%c)*p256 (q+1)+p256 (q+1)<=c*p256 (q+1):=by
   have:=Int.mul_le_mul_of_nonneg_right (show N%c+1<=c by omega) (Int.le_of_lt hp)
   rw[Int.add_mul,Int.one_mul] at this
   exact this
  omega
def bytesN (n:Nat) (N:Int):List Int:=(List.range n).map fun i=>N/p256 (n-1-i)%256
theorem bytesN_length (n:Nat) (N:Int):(bytesN n N).length=n:=by simp[bytesN]
theorem bytesN_Bs (n:Nat) (N:Int):Bs (bytesN n N):=by
 intro x hx
 simp[bytesN] at hx
 obtain⟨i,_,rfl⟩:=hx
 omega
theorem num_bytesN (n:Nat):∀ N:Int,0<=N->N<p256 n->num (bytesN n N)=N:=by
 induction n with
 | zero=>intro N h0 h1;simp[p256] at h1;simp[bytesN,num];omega
 | succ n ih =>
  intro N h0 h1
  have e:bytesN (n+1) N=bytesN n (N/256)++[N%256]:=by
   unfold bytesN
   rw[List.range_succ,List.map_append]
   congr 1
   ·apply List.map_congr_left
    intro i hi
    have hi:=List.mem_range.1 hi
    rw[show n+1-1-i=(n-1-i)+1 by omega]
    rw[show p256 (n-1-i+1)=256*p256 (n-1-i) from rfl,<- Int.ediv_ediv_of_nonneg (by decide)]
   ·simp[p256]
  rw[e,num_snoc,ih (N/256) (by omega) (by simp only[p256] at h1;omega)]
  omega
theorem byte_at {n:Nat} {N:Int} {i:Nat} (hi:i<8*n):((lim n N).getD (n-1-i/8) 0)/p256 (7-i%8)%256=N/p256 (8*n-1-i)%256:=by
 rw[lim_get _ _ _ (by omega)]
 obtain⟨c,hc,hc0⟩:=p256_dvd (m:=7-i%8+1) (by omega)
 have e1:p256 (8*n-1-i)=pw (n-1-i/8)*p256 (7-i%8):=by
  rw[<- p256_8,<- p256_add];congr 1;omega
 rw[e1,<- Int.ediv_ediv_of_nonneg (Int.le_of_lt (pw_pos _))]
 generalize N/pw (n-1-i/8)=A
 have hp:=p256_pos (7-i%8)
 rw[hc,show p256 (7-i%8+1)=256*p256 (7-i%8) from rfl]
 generalize p256 (7-i%8)=P at *
 have h1:A%(c*(256*P))=A%(P*(256*c)):=by congr 1;rw[Int.mul_comm c,Int.mul_comm 256 P,Int.mul_assoc]
 rw[h1]
 have h2:A%(P*(256*c))/P=(A/P)%(256*c):=by
  rw[Int.emod_def,Int.emod_def,Int.mul_assoc,<- Int.sub_mul_ediv_left _ _ (show P≠0 by omega),<- Int.ediv_ediv_of_nonneg (Int.le_of_lt hp)]
 rw[h2,Int.emod_emod_of_dvd _ ⟨c,rfl⟩]
end Cr
namespace Cr
section
variable {M:Int} [Md M]
theorem one_mul' (a:Zm M):1*a=a:=by rw[mul_comm',mul_one']
def zpow (x:Zm M):Nat->Zm M
 | 0=>1
 | n+1=>zpow x n*x
theorem zpow_add (x:Zm M) (m n:Nat):zpow x (m+n)=zpow x m*zpow x n:=by
 induction n with
 | zero=>rw[zpow,mul_one'];rfl
 | succ n ih=>rw[<- Nat.add_assoc,zpow,ih,zpow,mul_assoc']
theorem zpow_two (x:Zm M) (m:Nat):zpow x m*zpow x m=zpow x (2*m):=by rw[<- zpow_add,Nat.two_mul]
def sqn (x:Zm M):Nat->Zm M
 | 0=>x
 | k+1=>sqn x k*sqn x k
theorem sqn_zpow (x:Zm M) (m:Nat):∀ k,sqn (zpow x m) k=zpow x (2^k*m):=by
 intro k
 induction k with
 | zero=>simp[sqn]
 | succ k ih=>rw[sqn,ih,zpow_two,Nat.pow_succ];congr 1;rw[Nat.mul_comm (2^k) 2,Nat.mul_assoc]
noncomputable def zpw (x:Zm M) (E:Int):Zm M:=Classical.choose (⟨zpow x E.toNat,rfl⟩:∃ y,y=zpow x E.toNat)
theorem zpw_eq (x:Zm M) (E:Int):zpw x E=zpow x E.toNat:=Classical.choose_spec (⟨zpow x E.toNat,rfl⟩:∃ y,y=zpow x E.toNat)
end
def p16:Nat->Int
 | 0=>1
 | n+1=>16*p16 n
theorem p16_pos (n:Nat):0<p16 n:=by
 induction n with
 | zero=>decide
 | succ n ih=>simp only[p16];omega
theorem p16_add (m n:Nat):p16 (m+n)=p16 m*p16 n:=by
 induction m with
 | zero=>simp[p16]
 | succ m ih=>rw[Nat.succ_add];simp only[p16,ih,Int.mul_assoc]
theorem p16_16 (n:Nat):p16 (16*n)=pw n:=by
 induction n with
 | zero=>rfl
 | succ n ih=>rw[Nat.mul_succ,Nat.add_comm,p16_add,ih];rfl
theorem p16_dvd {m:Nat} (h:m<=16):∃ c:Int,(18446744073709551616:Int)=c*p16 m/\0<c:=by
 refine⟨p16 (16-m),?_,p16_pos _⟩
 rw[<- p16_add,Nat.sub_add_cancel h];rfl
theorem p16_pow (n:Nat):p16 n=(2:Int)^(4*n):=by
 induction n with
 | zero=>rfl
 | succ n ih=>rw[p16,ih,Nat.mul_succ,Int.pow_add];rw[Int.mul_comm];rfl
theorem digit_at {n:Nat} {N:Int} {i:Nat} (hi:i<16*n):((lim n N).getD (n-1-i/16) 0)/p16 (15-i%16)%16=N/p16 (16*n-1-i)%16:=by
 rw[lim_get _ _ _ (by omega)]
 obtain⟨c,hc,hc0⟩:=p16_dvd (m:=15-i%16+1) (by omega)
 have e1:p16 (16*n-1-i)=pw (n-1-i/16)*p16 (15-i%16):=by
  rw[<- p16_16,<- p16_add];congr 1;omega
 rw[e1,<- Int.ediv_ediv_of_nonneg (Int.le_of_lt (pw_pos _))]
 generalize N/pw (n-1-i/16)=A
 have hp:=p16_pos (15-i%16)
 rw[hc,show p16 (15-i%16+1)=16*p16 (15-i%16) from rfl]
 generalize p16 (15-i%16)=P at *
 have h1:A%(c*(16*P))=A%(P*(16*c)):=by congr 1;rw[Int.mul_comm c,Int.mul_comm 16 P,Int.mul_assoc]
 rw[h1]
 have h2:A%(P*(16*c))/P=(A/P)%(16*c):=by
  rw[Int.emod_def,Int.emod_def,Int.mul_assoc,<- Int.sub_mul_ediv_left _ _ (show P≠0 by omega),<- Int.ediv_ediv_of_nonneg (Int.le_of_lt hp)]
 rw[h2,Int.emod_emod_of_dvd _ ⟨c,rfl⟩]
theorem digit_step {N:Int} (h:0<=N) (k:Nat):(N/p16 k).toNat=16*(N/p16 (k+1)).toNat+(N/p16 k%16).toNat:=by
 have e:N/p16 (k+1)=N/p16 k/16:=by
  rw[show p16 (k+1)=p16 k*16 from by rw[p16,Int.mul_comm],Int.ediv_ediv_of_nonneg (Int.le_of_lt (p16_pos k))]
 have h0:0<=N/p16 k:=Int.ediv_nonneg h (Int.le_of_lt (p16_pos k))
 rw[e]
 omega
end Cr
namespace Cr
section
variable {M:Int} [Md M]
instance rgZm : Rg (Zm M) where
 add_comm a b:=Zm.ext (by simp only[add_v,Int.add_comm])
 add_assoc a b c:=by rw[<- zm_self a,<- zm_self b,<- zm_self c];simp only[zm_add,Int.add_assoc]
 zero_add a:=by rw[<- zm_self a,<- zm_zero];simp only[zm_add,Int.zero_add]
 neg_add a:=by rw[<- zm_self a,<- zm_zero];simp only[zm_add,zm_neg];congr 1;omega
 sub_def a b:=by rw[<- zm_self a,<- zm_self b];simp only[zm_add,zm_neg,zm_sub];congr 1
 mul_comm:=mul_comm'
 mul_assoc:=mul_assoc'
 one_mul:=one_mul'
 add_mul:=add_mul'
theorem zpow_v (x:Zm M) (n:Nat):(zpow x n).v=x.v^n%M:=by
 induction n with
 | zero=>show (1:Zm M).v=_;rw[one_v,Int.pow_zero,Int.emod_eq_of_lt (by omega) Md.gt]
 | succ n ih=>show (zpow x n*x).v=_;rw[mul_v,ih,Int.pow_succ,Int.mul_emod,Int.emod_emod,<- Int.mul_emod]
theorem zm_fermat {P:Nat} (hM:M=(P:Int)) (hp:Prm P) {x:Zm M} (hx:x≠0) {n:Nat} (hn:n+2=P):x*zpow x n=1:=by
 obtain⟨a,ha⟩:=Int.eq_ofNat_of_zero_le x.nn
 have hna:¬ P∣a:=by
  intro hd
  have hlt:a<P:=by have:=x.lt;omega
  have:a=0:=Nat.eq_zero_of_dvd_of_lt hd hlt
  exact hx (Zm.ext (by rw[zero_v,ha,this];rfl))
 have hf:=hp.fermat' hna
 refine Zm.ext ?_
 rw[mul_v,zpow_v,one_v,Int.mul_emod,Int.emod_emod,<- Int.mul_emod,Int.mul_comm,<- Int.pow_succ,ha,hM,<- Int.natCast_pow]
 have e:P-1=n+1:=by omega
 rw[e] at hf
 rw[<- Int.natCast_emod,hf]
 rfl
end
theorem Mp_nat:Mp=((4002409555221667393417789825735904156556882819939007885332058136124031650490837864442687629129015664037894272559787:Nat):Int):=rfl
theorem Mr_nat:Mr=((52435875175126190479447740508185965837690552500527637822603658699938581184513:Nat):Int):=rfl
theorem zpw_inv {x:Fp} (hx:x≠0):x*zpw x 4002409555221667393417789825735904156556882819939007885332058136124031650490837864442687629129015664037894272559785=1:=by
 rw[zpw_eq]
 exact zm_fermat Mp_nat prm_p hx (of_decide_eq_true (by kernel_rfl))
theorem zpw_inv_r {x:Fr} (hx:x≠0):x*zpw x 52435875175126190479447740508185965837690552500527637822603658699938581184511=1:=by
 rw[zpw_eq]
 exact zm_fermat Mr_nat prm_r hx (of_decide_eq_true (by kernel_rfl))
noncomputable instance fdFp:Fd Fp where
 deq:=inferInstance
 inv x:=zpw x 4002409555221667393417789825735904156556882819939007885332058136124031650490837864442687629129015664037894272559785
 mul_inv _ h:=zpw_inv h
 one_ne:=by decide
 two_ne:=by decide
 three_ne:=by decide
noncomputable instance fdFr:Fd Fr where
 deq:=inferInstance
 inv x:=zpw x 52435875175126190479447740508185965837690552500527637822603658699938581184511
 mul_inv _ h:=zpw_inv_r h
 one_ne:=by decide
 two_ne:=by decide
 three_ne:=by decide
end Cr
namespace Go.Eng
noncomputable def opq {α:Type} (x:α):α:=Classical.choose (⟨x,rfl⟩:∃ y,y=x)
theorem opq_eq {α:Type} (x:α):opq x=x:=Classical.choose_spec (⟨x,rfl⟩:∃ y,y=x)
end Go.Eng
namespace Cr
open Rg Fd Go.Eng
abbrev F2:=Fp × Fp
instance : Zero F2 := ⟨((0 : Fp), (0 : Fp))⟩
instance : One F2 := ⟨((1 : Fp), (0 : Fp))⟩
noncomputable instance:Add F2:=⟨fun x y=>opq (x.1+y.1,x.2+y.2)⟩
noncomputable instance:Sub F2:=⟨fun x y=>opq (x.1-y.1,x.2-y.2)⟩
noncomputable instance:Neg F2:=⟨fun x=>opq (-x.1,-x.2)⟩
noncomputable instance:Mul F2:=⟨fun x y=>opq (x.1*y.1-x.2*y.2,x.1*y.2+x.2*y.1)⟩
theorem F2.add_def (x y:F2):x+y=(x.1+y.1,x.2+y.2):=opq_eq _
theorem F2.sub_def (x y:F2):x-y=(x.1-y.1,x.2-y.2):=opq_eq _
theorem F2.neg_def (x:F2) : -x=(-x.1,-x.2):=opq_eq _
theorem F2.mul_def (x y:F2):x*y=(x.1*y.1-x.2*y.2,x.1*y.2+x.2*y.1):=opq_eq _
theorem F2.ext {x y:F2} (h1:x.1=y.1) (h2:x.2=y.2):x=y:=Prod.ext h1 h2
theorem F2.add1 (x y:F2):(x+y).1=x.1+y.1:=by rw[F2.add_def]
theorem F2.add2 (x y:F2):(x+y).2=x.2+y.2:=by rw[F2.add_def]
theorem F2.sub1 (x y:F2):(x-y).1=x.1-y.1:=by rw[F2.sub_def]
theorem F2.sub2 (x y:F2):(x-y).2=x.2-y.2:=by rw[F2.sub_def]
theorem F2.neg1 (x:F2):(-x).1=-x.1:=by rw[F2.neg_def]
theorem F2.neg2 (x:F2):(-x).2=-x.2:=by rw[F2.neg_def]
theorem F2.mul1 (x y:F2):(x*y).1=x.1*y.1-x.2*y.2:=by rw[F2.mul_def]
theorem F2.mul2 (x y:F2):(x*y).2=x.1*y.2+x.2*y.1:=by rw[F2.mul_def]
theorem F2.zero1:(0:F2).1=0:=rfl
theorem F2.zero2:(0:F2).2=0:=rfl
theorem F2.one1:(1:F2).1=1:=rfl
theorem F2.one2:(1:F2).2=0:=rfl
theorem f2_as1 {F:Type} [Rg F] (a b c d e f:F):(a*c-b*d)*e-(a*d+b*c)*f=a*(c*e-d*f)-b*(c*f+d*e) :=
 rid [a,b,c,d,e,f] ((fun (a b c d e f:PE)=>((a*c-b*d)*e-(a*d+b*c)*f)) (.v 0) (.v 1) (.v 2) (.v 3) (.v 4) (.v 5)) ((fun (a b c d e f:PE)=>(a*(c*e-d*f)-b*(c*f+d*e))) (.v 0) (.v 1) (.v 2) (.v 3) (.v 4) (.v 5)) (by kernel_rfl)
theorem f2_as2 {F:Type} [Rg F] (a b c d e f:F):(a*c-b*d)*f+(a*d+b*c)*e=a*(c*f+d*e)+b*(c*e-d*f) :=
 rid [a,b,c,d,e,f] ((fun (a b c d e f:PE)=>((a*c-b*d)*f+(a*d+b*c)*e)) (.v 0) (.v 1) (.v 2) (.v 3) (.v 4) (.v 5)) ((fun (a b c d e f:PE)=>(a*(c*f+d*e)+b*(c*e-d*f))) (.v 0) (.v 1) (.v 2) (.v 3) (.v 4) (.v 5)) (by kernel_rfl)
theorem f2_co1 {F:Type} [Rg F] (a b c d:F):a*c-b*d=c*a-d*b :=
 rid [a,b,c,d] ((fun (a b c d:PE)=>(a*c-b*d)) (.v 0) (.v 1) (.v 2) (.v 3)) ((fun (a b c d:PE)=>(c*a-d*b)) (.v 0) (.v 1) (.v 2) (.v 3)) (by kernel_rfl)
theorem f2_co2 {F:Type} [Rg F] (a b c d:F):a*d+b*c=c*b+d*a :=
 rid [a,b,c,d] ((fun (a b c d:PE)=>(a*d+b*c)) (.v 0) (.v 1) (.v 2) (.v 3)) ((fun (a b c d:PE)=>(c*b+d*a)) (.v 0) (.v 1) (.v 2) (.v 3)) (by kernel_rfl)
theorem f2_om1 {F:Type} [Rg F] (a b:F):1*a-0*b=a :=
 rid [a,b] ((fun (a b:PE)=>(1*a-0*b)) (.v 0) (.v 1)) ((fun (a b:PE)=>(a)) (.v 0) (.v 1)) (by kernel_rfl)
theorem f2_om2 {F:Type} [Rg F] (a b:F):1*b+0*a=b :=
 rid [a,b] ((fun (a b:PE)=>(1*b+0*a)) (.v 0) (.v 1)) ((fun (a b:PE)=>(b)) (.v 0) (.v 1)) (by kernel_rfl)
theorem f2_am1 {F:Type} [Rg F] (a b c d e f:F):(a+c)*e-(b+d)*f=a*e-b*f+(c*e-d*f) :=
 rid [a,b,c,d,e,f] ((fun (a b c d e f:PE)=>((a+c)*e-(b+d)*f)) (.v 0) (.v 1) (.v 2) (.v 3) (.v 4) (.v 5)) ((fun (a b c d e f:PE)=>(a*e-b*f+(c*e-d*f))) (.v 0) (.v 1) (.v 2) (.v 3) (.v 4) (.v 5)) (by kernel_rfl)
theorem f2_am2 {F:Type} [Rg F] (a b c d e f:F):(a+c)*f+(b+d)*e=a*f+b*e+(c*f+d*e) :=
 rid [a,b,c,d,e,f] ((fun (a b c d e f:PE)=>((a+c)*f+(b+d)*e)) (.v 0) (.v 1) (.v 2) (.v 3) (.v 4) (.v 5)) ((fun (a b c d e f:PE)=>(a*f+b*e+(c*f+d*e))) (.v 0) (.v 1) (.v 2) (.v 3) (.v 4) (.v 5)) (by kernel_rfl)
theorem f2_kar {F:Type} [Rg F] (a b c d:F):(a+b)*(c+d)-a*c-b*d=a*d+b*c :=
 rid [a,b,c,d] ((fun (a b c d:PE)=>((a+b)*(c+d)-a*c-b*d)) (.v 0) (.v 1) (.v 2) (.v 3)) ((fun (a b c d:PE)=>(a*d+b*c)) (.v 0) (.v 1) (.v 2) (.v 3)) (by kernel_rfl)
theorem f2_sq1 {F:Type} [Rg F] (a b:F):(a+b)*(a-b)=a*a-b*b :=
 rid [a,b] ((fun (a b:PE)=>((a+b)*(a-b))) (.v 0) (.v 1)) ((fun (a b:PE)=>(a*a-b*b)) (.v 0) (.v 1)) (by kernel_rfl)
theorem f2_sq2 {F:Type} [Rg F] (a b:F):a*b+a*b=a*b+b*a :=
 rid [a,b] ((fun (a b:PE)=>(a*b+a*b)) (.v 0) (.v 1)) ((fun (a b:PE)=>(a*b+b*a)) (.v 0) (.v 1)) (by kernel_rfl)
noncomputable instance rgF2:Rg F2 where
 add_comm a b:=F2.ext (by simp only[F2.add1,add_comm]) (by simp only[F2.add2,add_comm])
 add_assoc a b c:=F2.ext (by simp only[F2.add1,add_assoc]) (by simp only[F2.add2,add_assoc])
 zero_add a:=F2.ext (by rw[F2.add1,F2.zero1,zero_add]) (by rw[F2.add2,F2.zero2,zero_add])
 neg_add a:=F2.ext (by rw[F2.add1,F2.neg1,neg_add];rfl) (by rw[F2.add2,F2.neg2,neg_add];rfl)
 sub_def a b:=F2.ext (by rw[F2.add1,F2.sub1,F2.neg1,sub_def]) (by rw[F2.add2,F2.sub2,F2.neg2,sub_def])
 mul_comm a b:=F2.ext (by rw[F2.mul1,F2.mul1,f2_co1]) (by rw[F2.mul2,F2.mul2,f2_co2])
 mul_assoc a b c:=F2.ext (by simp only[F2.mul1,F2.mul2];exact f2_as1 _ _ _ _ _ _) (by simp only[F2.mul1,F2.mul2];exact f2_as2 _ _ _ _ _ _)
 one_mul a:=F2.ext (by rw[F2.mul1,F2.one1,F2.one2,f2_om1]) (by rw[F2.mul2,F2.one1,F2.one2,f2_om2])
 add_mul a b c:=F2.ext (by simp only[F2.mul1,F2.add1,F2.add2];exact f2_am1 _ _ _ _ _ _) (by simp only[F2.mul2,F2.add1,F2.add2];exact f2_am2 _ _ _ _ _ _)
section
variable {M:Int} [Md M]
theorem zpow_sq (x:Zm M) (n:Nat):zpow x (2*n)=zpow (x*x) n:=by
 induction n with
 | zero=>rfl
 | succ n ih=>show zpow x (2*n)*x*x=zpow (x*x) n*(x*x);rw[ih,mul_assoc]
theorem zpow_m1 (n:Nat):zpow (-1:Zm M) (2*n+1)=-1:=by
 show zpow (-1:Zm M) (2*n) * -1=-1
 rw[zpow_sq]
 have:(-1:Zm M) * -1=1:=by rw[neg_mul,mul_neg,neg_neg,mul_one]
 rw[this]
 have h1:∀ n,zpow (1:Zm M) n=1:=by
  intro n
  induction n with
  | zero=>rfl
  | succ n ih=>show zpow (1:Zm M) n*1=1;rw[ih,mul_one]
 rw[h1,one_mul]
end
theorem no_root {x:Fp} (h:x*x=-1):False:=by
 have hx:x≠0:=by
  intro e
  rw[e,zero_mul] at h
  exact absurd h (by decide)
 have h1:=zm_fermat Mp_nat prm_p hx (n:=4002409555221667393417789825735904156556882819939007885332058136124031650490837864442687629129015664037894272559785) (of_decide_eq_true (by kernel_rfl))
 have h2:=zpow_sq x (2*1000602388805416848354447456433976039139220704984751971333014534031007912622709466110671907282253916009473568139946+1)
 rw[h,zpow_m1] at h2
 have h3:zpow x (2*(2*1000602388805416848354447456433976039139220704984751971333014534031007912622709466110671907282253916009473568139946+1))=zpow x (4002409555221667393417789825735904156556882819939007885332058136124031650490837864442687629129015664037894272559785+1):=congrArg (zpow x) (of_decide_eq_true (by kernel_rfl))
 rw[h3] at h2
 have h4:zpow x (4002409555221667393417789825735904156556882819939007885332058136124031650490837864442687629129015664037894272559785+1)=zpow x 4002409555221667393417789825735904156556882819939007885332058136124031650490837864442687629129015664037894272559785*x:=rfl
 rw[h4,mul_comm,h1] at h2
 exact absurd h2 (by decide)
theorem f2_nm {F:Type} [Rg F] (a b i:F):(a*i)*(a*i)-(-1)=(i*i)*(a*a+b*b)-(b*i+1)*(b*i-1) :=
 rid [a,b,i] ((fun (a b i:PE)=>((a*i)*(a*i)-(-1))) (.v 0) (.v 1) (.v 2)) ((fun (a b i:PE)=>((i*i)*(a*a+b*b)-(b*i+1)*(b*i-1))) (.v 0) (.v 1) (.v 2)) (by kernel_rfl)
theorem f2_iv1 {F:Type} [Rg F] (a b n:F):a*(a*n)-b*(-b*n)=(a*a+b*b)*n :=
 rid [a,b,n] ((fun (a b n:PE)=>(a*(a*n)-b*(-b*n))) (.v 0) (.v 1) (.v 2)) ((fun (a b n:PE)=>((a*a+b*b)*n)) (.v 0) (.v 1) (.v 2)) (by kernel_rfl)
theorem f2_iv2 {F:Type} [Rg F] (a b n:F):a*(-b*n)+b*(a*n)=0 :=
 rid [a,b,n] ((fun (a b n:PE)=>(a*(-b*n)+b*(a*n))) (.v 0) (.v 1) (.v 2)) ((fun (a b n:PE)=>(0)) (.v 0) (.v 1) (.v 2)) (by kernel_rfl)
theorem norm_ne {x:F2} (h:x≠0):x.1*x.1+x.2*x.2≠0:=by
 intro e
 by_cases hb:x.2=0
 ·rw[hb,mul_zero,add_zero] at e
  have ha:x.1=0:=by rcases mul_eq_zero e with e|e<;>exact e
  exact h (F2.ext ha hb)
 ·have hi:=mul_inv x.2 hb
  refine no_root (x:=x.1*inv x.2) (eq_of_sub ?_)
  rw[f2_nm _ x.2,e,hi,sub_self,mul_zero,mul_zero,sub_self]
noncomputable def inv2 (x:F2):F2:=opq (x.1*inv (x.1*x.1+x.2*x.2),-x.2*inv (x.1*x.1+x.2*x.2))
theorem inv2_def (x:F2):inv2 x=(x.1*inv (x.1*x.1+x.2*x.2),-x.2*inv (x.1*x.1+x.2*x.2)):=opq_eq _
noncomputable instance fdF2:Fd F2 where
 deq:=inferInstanceAs (DecidableEq (Fp × Fp))
 inv:=inv2
 mul_inv x h:=by
  have hn:=mul_inv _ (norm_ne h)
  rw[inv2_def]
  refine F2.ext ?_ ?_
  ·rw[F2.mul1]
   show x.1*(x.1*_)-x.2*(-x.2*_)=1
   rw[f2_iv1,hn]
  ·rw[F2.mul2]
   show x.1*(-x.2*_)+x.2*(x.1*_)=0
   rw[f2_iv2]
 one_ne:=fun h=>absurd (congrArg Prod.fst h) (by decide)
 two_ne:=fun h=>absurd (congrArg Prod.fst h) (by rw[F2.add1];decide)
 three_ne:=fun h=>absurd (congrArg Prod.fst h) (by rw[F2.add1,F2.add1];decide)
end Cr
