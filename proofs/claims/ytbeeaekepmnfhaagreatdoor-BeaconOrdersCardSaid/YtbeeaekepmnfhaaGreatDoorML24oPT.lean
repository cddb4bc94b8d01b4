import Derived.Test.YtbeeaekepmnfhaaGreatDoorML24oPS
set_option maxRecDepth 100000
namespace Go.Proofs.YtbeeaekepmnfhaaGreatDoor
open Go Go.Eng Cr
abbrev ij:Kd:=.sl (.int .u8)
abbrev preB (b:List Int):Prop:=Bs b/\List.length b<=281474976710656
abbrev nh (x:Int):Prop:=-9223372036854775808<=x/\x<9223372036854775808
abbrev zJ (xs:List Int):Prop:=(∀ x∈xs,nh x)/\List.length xs<=17592186044416
end Go.Proofs.YtbeeaekepmnfhaaGreatDoor
namespace Go.Proofs.YtbeeaekepmnfhaaGreatDoor
open Go Go.Eng Cr
abbrev ok (b:Bool):Prop:=((b,()):Bool × Unit)=(true,())
end Go.Proofs.YtbeeaekepmnfhaaGreatDoor
namespace Cr
open Rg Fd
theorem afp {F:Type} [Rg F] (a x c y z:F):y*c+a-(z*x+a)=(c-x)*y+x*(y-z) :=
 aL [a,x,c,y,z] ((fun (a x c y z:PE)=>(y*c+a-(z*x+a))) (.v 0) (.v 1) (.v 2) (.v 3) (.v 4)) ((fun (a x c y z:PE)=>((c-x)*y+x*(y-z))) (.v 0) (.v 1) (.v 2) (.v 3) (.v 4)) (by kernel_rfl)
theorem acw {F:Type} [Rg F] (x c y v:F):(c-x)*y+x*((c-x)*v)=(c-x)*(v*x+y) :=
 aL [x,c,y,v] ((fun (x c y v:PE)=>((c-x)*y+x*((c-x)*v))) (.v 0) (.v 1) (.v 2) (.v 3)) ((fun (x c y v:PE)=>((c-x)*(v*x+y))) (.v 0) (.v 1) (.v 2) (.v 3)) (by kernel_rfl)
theorem acv {F:Type} [Rg F] (a c u x l:F):(a*l-u-x*l)*x+(a*u-c)=a*(l*x+u)-c-x*(l*x+u) :=
 aL [a,c,u,x,l] ((fun (a c u x l:PE)=>((a*l-u-x*l)*x+(a*u-c))) (.v 0) (.v 1) (.v 2) (.v 3) (.v 4)) ((fun (a c u x l:PE)=>(a*(l*x+u)-c-x*(l*x+u))) (.v 0) (.v 1) (.v 2) (.v 3) (.v 4)) (by kernel_rfl)
theorem ZM {F:Type} [Rg F] (a x u:F):a*u-0-x*u=(a-x)*u :=
 aL [a,x,u] ((fun (a x u:PE)=>(a*u-0-x*u)) (.v 0) (.v 1) (.v 2)) ((fun (a x u:PE)=>((a-x)*u)) (.v 0) (.v 1) (.v 2)) (by kernel_rfl)
theorem l_w {F:Type} [Rg F] (w y i q d g:F):w*(y*i)*(q-d*g)=y*q*(w*i)-y*(w*(i*d*g)) :=
 aL [w,y,i,q,d,g] ((fun (w y i q d g:PE)=>(w*(y*i)*(q-d*g))) (.v 0) (.v 1) (.v 2) (.v 3) (.v 4) (.v 5)) ((fun (w y i q d g:PE)=>(y*q*(w*i)-y*(w*(i*d*g)))) (.v 0) (.v 1) (.v 2) (.v 3) (.v 4) (.v 5)) (by kernel_rfl)
theorem afn {F:Type} [Rg F] (q u y v i y2 g:F):q*(u*i)+(y*q*(i*v)-y2*g)=q*(i*(u+y*v))-y2*g :=
 aL [q,u,y,v,i,y2,g] ((fun (q u y v i y2 g:PE)=>(q*(u*i)+(y*q*(i*v)-y2*g))) (.v 0) (.v 1) (.v 2) (.v 3) (.v 4) (.v 5) (.v 6)) ((fun (q u y v i y2 g:PE)=>(q*(i*(u+y*v))-y2*g)) (.v 0) (.v 1) (.v 2) (.v 3) (.v 4) (.v 5) (.v 6)) (by kernel_rfl)
theorem afq {F:Type} [Rg F] (x a d b:F):x*a*(d*b)=a*b*(x*d) :=
 aL [x,a,d,b] ((fun (x a d b:PE)=>(x*a*(d*b))) (.v 0) (.v 1) (.v 2) (.v 3)) ((fun (x a d b:PE)=>(a*b*(x*d))) (.v 0) (.v 1) (.v 2) (.v 3)) (by kernel_rfl)
theorem afo {F:Type} [Rg F] (a b:F):a-b+b=a :=
 aL [a,b] ((fun (a b:PE)=>(a-b+b)) (.v 0) (.v 1)) ((fun (a b:PE)=>(a)) (.v 0) (.v 1)) (by kernel_rfl)
theorem acx {F:Type} [Rg F] (a b c d:F):a-b+(c-d)=a+c-(b+d) :=
 aL [a,b,c,d] ((fun (a b c d:PE)=>(a-b+(c-d))) (.v 0) (.v 1) (.v 2) (.v 3)) ((fun (a b c d:PE)=>(a+c-(b+d))) (.v 0) (.v 1) (.v 2) (.v 3)) (by kernel_rfl)
theorem ZN {F:Type} [Rg F] (q d:F):q-(q-d)=d :=
 aL [q,d] ((fun (q d:PE)=>(q-(q-d))) (.v 0) (.v 1)) ((fun (q d:PE)=>(d)) (.v 0) (.v 1)) (by kernel_rfl)
section
variable {F:Type} [Rg F]
def bS:List F->F->F
 | [],_=>0
 | a::l,x=>bS l x*x+a
def mA:List F->F
 | []=>1
 | a::l=>a*mA l
def sm:List F->F
 | []=>0
 | a::l=>a+sm l
theorem synth:∀ (p:List F) (c:F),∃ q:List F,q.length=p.length-1/\∀ x,bS p c-bS p x=(c-x)*bS q x
 | [],c=>⟨[],rfl,fun x=>by show (0:F)-0=(c-x)*0;rw[sub_self,mul_zero]⟩
 | a::l,c=>by
  obtain⟨q,hq,h⟩:=synth l c
  cases l with
  | nil=>exact⟨[],rfl,fun x=>by show (0:F)*c+a-(0*x+a)=(c-x)*0;rw[zero_mul,zero_mul,sub_self,mul_zero]⟩
  | cons b l =>
   refine⟨bS (b::l) c::q,by simp at hq ⊢;omega,fun x=>?_⟩
   show bS (b::l) c*c+a-(bS (b::l) x*x+a)=(c-x)*(bS q x*x+bS (b::l) c)
   rw[afp,h,acw]
def DN (a:F):F->List F->List F
 | c,[]=>[-c]
 | c,u::l=>(a*u-c)::DN a u l
theorem G2 (a:F):∀ (l:List F) (c:F),(DN a c l).length=l.length+1
 | [],_=>rfl
 | u::l,c=>by simp[DN,G2 a l u]
theorem EH (a x:F):∀ (l:List F) (c:F),bS (DN a c l) x=a*bS l x-c-x*bS l x
 | [],c=>by
  show 0*x + -c=a*0-c-x*0
  rw[zero_mul,mul_zero,mul_zero,zero_add,sub_def,sub_def,zero_add,neg_zero,add_zero]
 | u::l,c=>by
  show bS (DN a u l) x*x+(a*u-c)=a*(bS l x*x+u)-c-x*(bS l x*x+u)
  rw[EH a x l u,acv]
theorem T6:∀ (xs:List F),∃ u:List F,u.length=xs.length+1/\∀ x,bS u x=mA (xs.map fun y=>y-x)
 | []=>⟨[1],rfl,fun x=>by show 0*x+1=(1:F);rw[zero_mul,zero_add]⟩
 | a::xs=>by
  obtain⟨u,hu,h⟩:=T6 xs
  refine⟨DN a 0 u,by rw[G2,hu];rfl,fun x=>?_⟩
  rw[EH,ZM,h];rfl
theorem wP {α:Type} {f g:α->F}:∀ {l:List α},(∀ x∈l,f x=g x)->sm (l.map f)=sm (l.map g)
 | [],_=>rfl
 | a::l,h=>by
  show f a+sm (l.map f)=g a+sm (l.map g)
  rw[h a (by simp),wP (fun x hx=>h x (by simp[hx]))]
theorem Qa {α:Type} (f g:α->F):∀ (l:List α),sm (l.map fun x=>f x-g x)=sm (l.map f)-sm (l.map g)
 | []=>by show (0:F)=0-0;rw[sub_self]
 | a::l=>by
  show f a-g a+sm (l.map fun x=>f x-g x)=f a+sm (l.map f)-(g a+sm (l.map g))
  rw[Qa f g l,acx]
theorem CL {α:Type} (c:F) (f:α->F):∀ (l:List α),sm (l.map fun x=>c*f x)=c*sm (l.map f)
 | []=>by show (0:F)=c*0;rw[mul_zero]
 | a::l=>by
  show c*f a+sm (l.map fun x=>c*f x)=c*(f a+sm (l.map f))
  rw[CL c f l,mul_add]
theorem Sn {l:List F} (h:(0:F)∈l):mA l=0:=by
 induction l with
 | nil=>cases h
 | cons a l ih =>
  show a*mA l=0
  rcases List.mem_cons.1 h with h|h
  ·rw[<- h,zero_mul]
  ·rw[ih h,mul_zero]
end
section
variable {F:Type} [Fd F]
theorem PF {l:List F} (h:∀ x∈l,x≠0):mA l≠0:=by
 induction l with
 | nil=>exact one_ne
 | cons a l ih=>exact dG (h a (by simp)) (ih fun x hx=>h x (by simp[hx]))
theorem O0 {a b:F} (ha:a≠0) (h:a*b=1):inv a=b:=by
 refine mul_left ha ?_
 rw[mul_inv a ha,h]
theorem inv_mul {a b:F} (ha:a≠0) (hb:b≠0):inv (a*b)=inv a*inv b:=by
 refine O0 (dG ha hb) ?_
 rw[mul_comm a b,mul_assoc,<- mul_assoc a,mul_inv a ha,one_mul,mul_inv b hb]
def td (xs:List F) (x:F):F:=mA (xs.filter fun y=>decide (y≠x))*inv (mA ((xs.filter fun y=>decide (y≠x)).map fun y=>y-x))
theorem S3 {x0 x:F} {xs:List F} (h:x0≠x):td (x0::xs) x=td xs x*(x0*inv (x0-x)):=by
 unfold td
 rw[List.filter_cons_of_pos (by simp[h])]
 show x0*mA _*inv ((x0-x)*mA _)=_
 have hn:mA ((xs.filter fun y=>decide (y≠x)).map fun y=>y-x)≠0:=by
  refine PF fun z hz=>?_
  obtain⟨y,hy,rfl⟩:=List.mem_map.1 hz
  have:=(List.mem_filter.1 hy).2
  exact mL (by simpa using this)
 rw[inv_mul (mL h) hn]
 exact afq _ _ _ _
theorem S4 {x0:F} {xs:List F} (h:x0∉xs):td (x0::xs) x0=mA xs*inv (mA (xs.map fun y=>y-x0)):=by
 unfold td
 rw[List.filter_cons_of_neg (by simp)]
 have:xs.filter (fun y=>decide (y≠x0))=xs:=by
  rw[List.filter_eq_self]
  intro y hy
  simp only[decide_eq_true_eq]
  exact fun e=>h (e▸hy)
 rw[this]
theorem Hv:∀ (l:List F),mA (l.map fun y=>y-0)=mA l
 | []=>rfl
 | a::l=>by show (a-0)*mA _=a*mA l;rw[Hv l,sub_def,neg_zero,add_zero]
theorem A6:∀ {xs:List F},xs.Nodup->∀ q:List F,q.length<=xs.length->sm (xs.map fun x=>td xs x*bS q x)=bS q 0
 | [],_,q,hq=>by
  have:q=[]:=by cases q with
   | nil=>rfl
   | cons a l=>simp at hq
  subst this;rfl
 | x0::xs,hd,q,hq=>by
  have hx0:x0∉xs:=(List.nodup_cons.1 hd).1
  have hxs:=(List.nodup_cons.1 hd).2
  obtain⟨u,hul,hu⟩:=T6 xs
  obtain⟨v,hvl,hv⟩:=synth u x0
  obtain⟨g,hgl,hg⟩:=synth q x0
  have ihv:=A6 hxs v (by omega)
  have ihg:=A6 hxs g (by simp at hq;omega)
  have hU:bS u x0≠0:=by
   rw[hu]
   refine PF fun z hz=>?_
   obtain⟨y,hy,rfl⟩:=List.mem_map.1 hz
   exact mL fun e=>hx0 (e▸hy)
  have hUi:=mul_inv _ hU
  have key:∀ x∈xs,td (x0::xs) x*bS q x=x0*bS q x0*(inv (bS u x0)*(td xs x*bS v x))-x0*(td xs x*bS g x):=by
   intro x hx
   have hne:x0≠x:=fun e=>hx0 (e▸hx)
   have hux:bS u x=0:=by
    rw[hu]
    exact Sn (List.mem_map.2 ⟨x,hx,sub_self x⟩)
   have h1:=hv x
   rw[hux] at h1
   have h1:bS u x0=(x0-x)*bS v x:=by rw[<- h1,sub_def,neg_zero,add_zero]
   have hd0:=mL hne
   have hi:inv (x0-x)=bS v x*inv (bS u x0):=O0 hd0 (by rw[<- mul_assoc,<- h1,hUi])
   have hdi:inv (x0-x)*(x0-x)=1:=by rw[mul_comm,mul_inv _ hd0]
   have hq1:bS q x=bS q x0-(x0-x)*bS g x:=by rw[<- hg x,ZN]
   rw[S3 hne,hq1,l_w,hdi,one_mul,hi,mul_comm (bS v x),<- mul_assoc (td xs x),mul_comm (td xs x),mul_assoc (inv _)]
  show td (x0::xs) x0*bS q x0+sm (xs.map fun x=>td (x0::xs) x*bS q x)=bS q 0
  rw[wP key,Qa,CL,CL,CL,ihv,ihg,S4 hx0,<- hu x0,<- Hv xs,<- hu 0]
  have hv0:=hv 0
  have hg0:=hg 0
  rw[sub_def x0,neg_zero,add_zero] at hv0 hg0
  have e1:bS u 0+x0*bS v 0=bS u x0:=by rw[<- hv0,add_comm,afo]
  have e2:bS q x0-x0*bS g 0=bS q 0:=by rw[<- hg0,ZN]
  rw[mul_comm _ (bS q x0),afn,e1,mul_comm (inv _),hUi,mul_one,e2]
end
end Cr
namespace Cr
def qo (n:Int):Nat->List Int
 | 0=>[]
 | j+1=>if n/a9 (7-j)=0 then qo n j else qo n j++[n/a9 (7-j)%256]
theorem F3 {n:Int} (h0:0<=n) (h1:n<a9 8):∀ j,j<=8->Bs (qo n j)/\(qo n j).length<=j/\num (qo n j)=n/a9 (8-j)
 | 0,_=>⟨(fun x h=>nomatch h),Nat.le_refl _,by
   show (0:Int)=n/a9 8
   rw[Int.ediv_eq_zero_of_lt h0 h1]⟩
 | j+1,hj=>by
  obtain⟨h2,h3,h4⟩:=F3 h0 h1 j (by omega)
  have e1:8-j=(7-j)+1:=by omega
  have e2:8-(j+1)=7-j:=by omega
  have hp:=gw (7-j)
  have e3:n/a9 (8-j)=n/a9 (7-j)/256:=by
   rw[e1]
   show n/(256*a9 (7-j))=_
   rw[Int.mul_comm,Int.ediv_ediv_of_nonneg (Int.le_of_lt hp)]
  have hq:0<=n/a9 (7-j):=Int.ediv_nonneg h0 (Int.le_of_lt hp)
  rw[e2]
  unfold qo
  split
  ·rename_i e
   refine⟨h2,by omega,?_⟩
   rw[h4,e3,e];rfl
  ·refine⟨?_,by simp;omega,?_⟩
   ·intro x hx
    rcases List.mem_append.1 hx with hx|hx
    ·exact h2 x hx
    ·simp at hx;subst hx;exact⟨Int.emod_nonneg _ (by decide),Int.emod_lt_of_pos _ (by decide)⟩
   ·rw[so,h4,e3]
    omega
end Cr
open Go.IntKind(i64)
namespace Go.Proofs.YtbeeaekepmnfhaaGreatDoor.fr
noncomputable section
open Go Go.Eng Go.RowKit Cr
theorem qt:enters Tryz.prog 202 Tryz.f202:=ek
def pQ (x:Fr) (es:List Int) (g:Int × List Fr):St:=aY Tryz.f202.ntmps 64 [(2,.is (.one (.ptr 0 0))),(3,.is (.one (.ptr 8 0))),(4,.is (.one (.ptr 16 0))),(5,.is (.one (.ptr 24 0))),(11,sI .i64 g.1)] [(0,[.row .fr 1 [x]]),(8,[.ints .u64 4 es]),(16,[.row .fr 1 [(0:Fr)]]),(24,[.row .fr 16 g.2])]
def lS (es:List Int) (tb:List Fr) (g:Int × Fr):St:=aY Tryz.f202.ntmps 96 [(3,.is (.one (.ptr 8 0))),(4,.is (.one (.ptr 16 0))),(5,.is (.one (.ptr 24 0))),(7,.is (.one (.ptr 72 0))),(24,sI .i64 g.1)] [(8,[.ints .u64 4 es]),(16,[.row .fr 1 [(0:Fr)]]),(24,[.row .fr 16 tb]),(72,[.row .fr 1 [g.2]])]
def pR (es:List Int) (tb:List Fr) (i:Int) (g:Int × Fr):St:=aY Tryz.f202.ntmps 128 [(3,.is (.one (.ptr 8 0))),(4,.is (.one (.ptr 16 0))),(5,.is (.one (.ptr 24 0))),(7,.is (.one (.ptr 72 0))),(8,sI .i64 i),(24,sI .i64 i),(27,sI .i64 g.1)] [(8,[.ints .u64 4 es]),(16,[.row .fr 1 [(0:Fr)]]),(24,[.row .fr 16 tb]),(72,[.row .fr 1 [g.2]])]
def Hu (es:List Int) (tb:List Fr) (i:Int) (y:Fr):St:=aY Tryz.f202.ntmps 104 [(3,.is (.one (.ptr 8 0))),(4,.is (.one (.ptr 16 0))),(5,.is (.one (.ptr 24 0))),(7,.is (.one (.ptr 72 0))),(24,sI .i64 i)] [(8,[.ints .u64 4 es]),(16,[.row .fr 1 [(0:Fr)]]),(24,[.row .fr 16 tb]),(72,[.row .fr 1 [y]])]
abbrev lV:HL [.fr,(.arr 4 (.int .u64))]->Prop:=fun (_,es,_)=>Ws es
abbrev iU:HL [.fr,(.arr 4 (.int .u64))]->HO [.val .fr]:=fun (x,es,_)=>(jG (x:Fr) (val es),())
theorem pC:aB Tryz.prog 202 [.fr,(.arr 4 (.int .u64))] [.val .fr] aM lV iU:=by
 have hsp:aN Tryz.prog (aF [kS,cK,bJ]):=ai (ak nM) (ai (ak cL) (ai (ak b9) aR))
 refine bh (sp:=aF [kS,cK,bJ]) qt (by decide) (by decide) (by kernel_rfl) ?_
 rintro w M0 ⟨x,es,⟨⟩⟩ ⟨_,⟨hl,_⟩,_⟩ he
 have hl:List.length es=4:=hl
 have he:Ws es:=he
 have hE:=dM he
 have hE2:val es<fJ 64:=by have:=vH he;rw[hl] at this;rw[show 64=16*4 from rfl,Hn];exact this
 have hes:es=aK 4 (val es):=by have:=pF he;rw[hl] at this;exact this.symm
 show Tr _ _ _ _ _ _ _
 refine aP hsp mixed 4 (pQ x es (0,(List.replicate 16 (0:Fr)).set 0 1)) True ?_ (fun _=>?_)
 ·refine ao (X:=True/\(0:Nat)<16/\(pQ x es (0,(List.replicate 16 (0:Fr)).set 0 1)).ah True) (by kernel_rfl) ⟨trivial,by decide,aA trivial⟩
 rw[show (List.replicate 16 (0:Fr)).set 0 1=cX (zpow x) 0 0 from rfl]
 refine dB hsp mixed (pQ x es) (fun k=>((k:Int),cX (zpow x) 0 k)) 15 (fun g=>(i64.wrap (g.1+1),g.2.set (i64.wrap (g.1+1)).toNat (g.2.getD g.1.toNat 0*x))) (pQ x es) (c:=aI (aJ Tryz.f202) 4) (by kernel_rfl) (by kernel_rfl) (aC (by kernel_rfl) (by kernel_rfl) trivial)
  (fun k hk=>by
   show (_,_)=(_,_)
   rw[aQ (by omega),Int.toNat_natCast,Int.toNat_natCast,l6 _ _ _ (Nat.le_refl k) (by omega),show zpow x k*x=zpow x (k+1) from rfl,tT]) ?_ ?_
 ·intro k hk
  refine ao (X:=((decide ((k:Int)<15)=true->(0<=(k:Int)/\(k:Int)<((16:Nat):Int))/\(k:Int).toNat<16/\True/\(0<=i64.wrap ((k:Int)+1)/\i64.wrap ((k:Int)+1)<((16:Nat):Int))/\(i64.wrap ((k:Int)+1)).toNat<16 /\
    (pQ x es (i64.wrap ((k:Int)+1),(cX (zpow x) 0 k).set (i64.wrap ((k:Int)+1)).toNat ((cX (zpow x) 0 k).getD (k:Int).toNat 0*x))).ah (k<15)) /\
   (decide ((k:Int)<15)=false->(pQ x es ((k:Int),cX (zpow x) 0 k)).ah (k=15)))) (by kernel_rfl) ?_
  refine⟨fun h=>?_,fun h=>aA (by have:=dk h;omega)⟩
  have hlt:k<15:=by have:=dec_lt h;omega
  rw[aQ (by omega)]
  exact⟨⟨by omega,by omega⟩,by omega,trivial,⟨by omega,by omega⟩,by omega,aA hlt⟩
 generalize htb:cX (zpow x) 0 15=tb
 have hget:∀ j,j<16->tb.getD j 0=zpow x j:=fun j hj=>by rw[<- htb];exact l6 _ _ _ (by omega) hj
 clear htb
 refine aP hsp mixed 2 (lS es tb (0,1)) True ?_ (fun _=>?_)
 ·refine ao (X:=True/\(lS es tb (0,1)).ah True) (by kernel_rfl) ⟨trivial,aA trivial⟩
 rw[show ((0:Int),(1:Fr))=(((0:Nat):Int),zpow x (val es/fJ (64-0)).toNat) by
  rw[Nat.sub_zero,Int.ediv_eq_zero_of_lt hE hE2];rfl]
 refine nv (lS es tb) (fun i=>((i:Int),zpow x (val es/fJ (64-i)).toNat)) 64 (fun g=>(i64.wrap (g.1+1),mK g.2 4*tb.getD (kk (3:Nat) es g.1).toNat 0)) (lS es tb) (c:=aI (aJ Tryz.f202) 7) (by kernel_rfl) (by kernel_rfl) (aC (by kernel_rfl) (by kernel_rfl) trivial)
  (fun i hi=>by
   show (_,_)=(_,_)
   rw[aQ (by omega),hes,zH (n:=3) hi (by omega),<- hes]
   rw[hget _ (by omega),Ie,<- zpow_add]
   congr 2
   have:=BY hE (64-1-i)
   rw[show 64-(i+1)=64-1-i by omega,this,show 64-1-i+1=64-i by omega]) ?_ ?_
 ·intro i hi
  generalize zpow x (val es/fJ (64-i)).toNat=y
  refine aP hsp mixed 2 (Hu es tb (i:Int) y) (i<64) ?_ (fun hlt=>?_)
  ·refine ao (X:=((decide ((i:Int)<64)=true->(Hu es tb (i:Int) y).ah (i<64))/\(decide ((i:Int)<64)=false->(lS es tb ((i:Int),y)).ah (i=64)))) (by kernel_rfl) ?_
   exact⟨fun h=>aA (by have:=dec_lt h;omega),fun h=>aA (by have:=dk h;omega)⟩
  refine eG (c:=aI (bQ (aI (aJ Tryz.f202) 7)) 2) (by kernel_rfl) (by kernel_rfl) ?_
  refine aP hsp mixed 2 (pR es tb (i:Int) (0,y)) True ?_ (fun _=>?_)
  ·refine ao (X:=(pR es tb (i:Int) (0,y)).ah True) (by kernel_rfl) (aA trivial)
  refine dB hsp mixed (pR es tb (i:Int)) (fun j=>((j:Int),mK y j)) 4 (fun g=>(i64.wrap (g.1+1),g.2*g.2)) (pR es tb (i:Int)) (c:=aI (fz (aI (bQ (aI (aJ Tryz.f202) 7)) 2)) 2) (by kernel_rfl) (by kernel_rfl) (aC (by kernel_rfl) (by kernel_rfl) trivial)
   (fun j hj=>by show (_,_)=(_,_);rw[aQ (by omega)];rfl) ?_ ?_
  ·intro j hj
   refine ao (X:=((decide ((j:Int)<4)=true->True/\(pR es tb (i:Int) (i64.wrap ((j:Int)+1),mK y j*mK y j)).ah (j<4))/\(decide ((j:Int)<4)=false->(pR es tb (i:Int) ((j:Int),mK y j)).ah (j=4)))) (by kernel_rfl) ?_
   exact⟨fun h=>⟨trivial,aA (by have:=dec_lt h;omega)⟩,fun h=>aA (by have:=dk h;omega)⟩
  refine aP hsp mixed 1 (lS es tb ((i:Int),mK y 4*tb.getD (kk (3:Nat) es i).toNat 0)) True ?_ (fun _=>?_)
  ·refine ao (X:=((16:Int)≠0/\(0<=pj (3:Nat) i/\pj (3:Nat) i<((4:Nat):Int))/\(pj (3:Nat) i).toNat<4/\(16:Int)≠0/\0<=KR i/\(0<=kk (3:Nat) es i/\kk (3:Nat) es i<((16:Nat):Int))/\(kk (3:Nat) es i).toNat<16/\True/\(lS es tb ((i:Int),mK y 4*tb.getD (kk (3:Nat) es i).toNat 0)).ah True)) (by kernel_rfl) ?_
   obtain⟨b1,b2,b3⟩:=KN (n:=3) hlt (by omega)
   have b4:0<=kk (3:Nat) es i/\kk (3:Nat) es i<16:=by
    rw[hes,zH (n:=3) hlt (by omega)]
    omega
   exact⟨by decide,b1,b2,by decide,b3,b4,by omega,trivial,aA trivial⟩
  refine ig ?_
  refine bf hsp mixed _ _ ?_
  refine ao (X:=(lS es tb (i64.wrap ((i:Int)+1),mK y 4*tb.getD (kk (3:Nat) es i).toNat 0)).ah (i<64)) (by kernel_rfl) (aA hlt)
 refine bf hsp mixed _ _ ?_
 refine ao (X:=(zpow x (val es/fJ (64-64)).toNat,())=iU (x,es,())) (by kernel_rfl) ?_
 rw[Nat.sub_self,fJ,Int.ediv_one,<- ti]
def pX:Nat × Eng.Spec:=(202,ar [.fr,(.arr 4 (.int .u64))] [.val .fr] lV iU)
theorem ph:enters Tryz.prog 177 Tryz.f177:=ek
def iJ (x:Fr):Fr:=jG x 52435875175126190479447740508185965837690552500527637822603658699938581184511
abbrev jz:HL [.fr]->HO [.val .fr]:=fun (x,_)=>(iJ (x:Fr),())
theorem El:val [18446744069414584319,6034159408538082302,3691218898639771653,8353516859464449352]=52435875175126190479447740508185965837690552500527637822603658699938581184511:=by decide
theorem ke:aB Tryz.prog 177 [.fr] [.val .fr] aM (fun _=>True) jz:=by
 refine ax (sp:=aF [pX]) (ai (ak pC) aR) mixed ph (by decide) (by decide) ?_
 rintro w M0 ⟨x,⟨⟩⟩ _ _
 refine ao (X:=(lV (x,[18446744069414584319,6034159408538082302,3691218898639771653,8353516859464449352],())/\(jG x (val [18446744069414584319,6034159408538082302,3691218898639771653,8353516859464449352]),())=jz (x,()))) (by kernel_rfl) ?_
 refine⟨?_,?_⟩
 ·intro y hy;simp at hy;rcases hy with rfl|rfl|rfl|rfl<;>exact⟨by decide,by decide⟩
 ·rw[El];rfl
def mS:Nat × Eng.Spec:=(177,ar [.fr] [.val .fr] (fun _=>True) jz)
end
end Go.Proofs.YtbeeaekepmnfhaaGreatDoor.fr
open Go.IntKind(i64 u64 u8)
namespace Go.Proofs.YtbeeaekepmnfhaaGreatDoor.poly
noncomputable section
open Go Go.Eng Go.RowKit Cr
theorem Rt:enters Tryz.prog 87 Tryz.f87:=ek
abbrev mR:HL [.int .i64]->Prop:=fun (x,_)=>nh x
def eE (x:Int):Int:=if x<0 then -x else x
abbrev zE:HL [.int .i64]->HO [.val (.int .u64)]:=fun (x,_)=>(eE x,())
theorem Kf:aB Tryz.prog 87 [.int .i64] [.val (.int .u64)] aM mR zE:=by
 refine ax (sp:=aF []) aR mixed Rt (by decide) (by decide) ?_
 rintro w M0 ⟨x,⟨⟩⟩
 revert x
 intro (x:Int) _ hx
 have hx : -9223372036854775808<=x/\x<9223372036854775808:=hx
 refine ao (X:=((decide (x<0)=true->(u64.wrap (0-u64.wrap x),())=zE (x,()))/\(decide (x<0)=false->(u64.wrap x,())=zE (x,())))) (by kernel_rfl) ?_
 refine⟨fun h=>?_,fun h=>?_⟩
 ·have h:x<0:=Odt h
  show _=(eE x,())
  rw[eE,if_pos h,te,te]
  congr 1
  omega
 ·have h:¬ x<0:=Odf h
  show _=(eE x,())
  rw[eE,if_neg h,iZ (by omega) (by omega)]
def Ib:Nat × Eng.Spec:=(87,ar [.int .i64] [.val (.int .u64)] mR zE)
theorem CV {x:Int} (hx:nh x):0<=eE x/\eE x<=9223372036854775808:=by
 have hx : -9223372036854775808<=x/\x<9223372036854775808:=hx
 unfold eE;split<;>omega
theorem L8:enters Tryz.prog 45 Tryz.f45:=ek
def ov (x:Int):Fr:=cr (zm x)
theorem vw (x:Int):ov x=zm x:=ay _
abbrev tJ:HL [.int .i64]->HO [.val .fr]:=fun (x,_)=>(ov x,())
theorem EF:aB Tryz.prog 45 [.int .i64] [.val .fr] aM mR tJ:=by
 refine ax (sp:=aF [Ib,fr.ly,fr.jb]) (ai (ak Kf) (ai (ak fr.nL) (ai (ak fr.iA) aR))) mixed L8 (by decide) (by decide) ?_
 rintro w M0 ⟨x,⟨⟩⟩
 revert x
 intro (x:Int) _ hx
 have hz:=CV hx
 refine ao (X:=(mR (x,())/\dF (eE x)/\(decide (x<0)=true->True/\(-Fc (eE x),())=tJ (x,()))/\(decide (x<0)=false->(Fc (eE x),())=tJ (x,())))) (by kernel_rfl) ?_
 refine⟨hx,⟨hz.1,by omega⟩,fun h=>⟨trivial,?_⟩,fun h=>?_⟩
 ·have h:x<0:=Odt h
  show _=(ov x,())
  rw[vw,eE,if_pos h,y7,Int.neg_neg]
 ·have h:¬ x<0:=Odf h
  show _=(ov x,())
  rw[vw,eE,if_neg h]
def wR:Nat × Eng.Spec:=(45,ar [.int .i64] [.val .fr] mR tJ)
theorem h9:enters Tryz.prog 105 Tryz.f105:=ek
def hO (x:Int):List Int:=qo (eE x) 8
abbrev fD:HL [.int .i64]->HO [.own (.int .u8)]:=fun (x,_)=>(hO x,())
def Ag (n:Int) (g:Int × Bool × Nat × List Int):St:=aY Tryz.f105.ntmps 48 [(3,bif g.2.1 then .is (.one (.v (.slice none 0 0))) else .is (.one (.sl 8 0 0 g.2.2.1 1))),(4,sI .u64 n),(5,sI .i64 g.1)] (bif g.2.1 then [] else [(8,[.ints .u8 g.2.2.1 g.2.2.2])])
def BS (n:Int) (g:Int × Bool × Nat × List Int):Prop:=∃ j:Nat,j<=8/\g.1=56-8*(j:Int)/\g.2.2.2=qo n j/\g.2.2.1=g.2.2.2.length/\(g.2.1=true->g.2.2.2=[])
def Tn (n:Int) (g:Int × Bool × Nat × List Int):Prop:=g.2.2.2=qo n 8/\g.2.2.1=g.2.2.2.length/\(g.2.1=true->g.2.2.2=[])
theorem XQ {j:Nat} (h:j<=7):(2:Int)^min (Int.toNat (56-8*(j:Int))) u64.bits=a9 (7-j):=by
 have:j=0\/j=1\/j=2\/j=3\/j=4\/j=5\/j=6\/j=7:=by omega
 rcases this with rfl|rfl|rfl|rfl|rfl|rfl|rfl|rfl<;>rfl
theorem wrap_u8 (a:Int):u8.wrap a=a%256:=by simp[IntKind.wrap,IntKind.signed,IntKind.bits]
theorem JE {n s:Int} {e:Bool} {m:Nat} {l:List Int} (hj:BS n (s,e,m,l)) (hs:s>=0):i64.wrap (s-8)=s-8 /\
  (n.fdiv (2^min (Int.toNat s) u64.bits)≠0->BS n (s-8,false,m+1,l++[u8.wrap (n.fdiv (2^min (Int.toNat s) u64.bits))])) /\
  (n.fdiv (2^min (Int.toNat s) u64.bits)=0->BS n (s-8,e,m,l)):=by
 obtain⟨j,hj,h1,h2,h3,h4⟩:=hj
 have h1:s=56-8*(j:Int):=h1
 have h2:l=qo n j:=h2
 have h3:m=l.length:=h3
 have hj7:j<=7:=by omega
 have ep:n.fdiv (2^min (Int.toNat s) u64.bits)=n/a9 (7-j):=by
  rw[h1,XQ hj7,Int.fdiv_eq_ediv_of_nonneg _ (Int.le_of_lt (gw _))]
 rw[ep,wrap_u8]
 refine⟨aG (by omega) (by omega),fun h=>⟨j+1,by omega,by show s-8=_;omega,?_,by show m+1=_;simp[h3],fun h=>nomatch h⟩,fun h=>⟨j+1,by omega,by show s-8=_;omega,?_,h3,h4⟩⟩
 ·show l++_=qo n (j+1)
  rw[qo,if_neg h,h2]
 ·show l=qo n (j+1)
  rw[qo,if_pos h,h2]
theorem NS {n s:Int} {e:Bool} {m:Nat} {l:List Int} (hj:BS n (s,e,m,l)) (hs:¬ s>=0):Tn n (s,e,m,l):=by
 obtain⟨j,hj,h1,h2,h3,h4⟩:=hj
 have h1:s=56-8*(j:Int):=h1
 have:j=8:=by omega
 subst this
 exact⟨h2,h3,h4⟩
theorem gO:aB Tryz.prog 105 [.int .i64] [.own (.int .u8)] aM mR fD:=by
 have hsp:aN Tryz.prog (aF [Ib]):=(ai (ak Kf) aR)
 refine bh (sp:=aF [Ib]) h9 (by decide) (by decide) (by kernel_rfl) ?_
 rintro w M0 ⟨x,⟨⟩⟩
 revert x
 intro (x:Int) _ hx
 have hz:=CV hx
 show Tr _ _ _ _ _ _ _
 refine aP hsp mixed 4 (Ag (eE x) (56,true,0,[])) True ?_ (fun _=>?_)
 ·refine ao (X:=(mR (x,())/\(Ag (eE x) (56,true,0,[])).ah True)) (by kernel_rfl) ?_
  exact⟨hx,aA trivial⟩
 refine bO hsp mixed (fun σ=>[(8,PO 3 σ)]) (fun σ=>(bU (.int .i64) 5 σ,rdE 3 σ,yD 3 σ,cN (.int .u8) 8 σ)) (Ag (eE x)) (BS (eE x)) (fun g=>(g.1+8).toNat)
  (fun σ=>(bU (.int .i64) 5 σ,rdE 3 σ,yD 3 σ,cN (.int .u8) 8 σ)) (Ag (eE x)) (Tn (eE x)) (56,true,0,[]) (c:=aI (aJ Tryz.f105) 4) (by kernel_rfl) (by kernel_rfl) (aC (by kernel_rfl) (by kernel_rfl) ?_) ?_ ?_
 ·exact⟨0,by decide,rfl,rfl,rfl,fun _=>rfl⟩
 ·rintro⟨s,e,m,l⟩ hj
  revert s l
  intro (s:Int) (l:List Int) hj
  have hjj:=hj
  obtain⟨j,hj8,h1,h2,h3,h4⟩:=hjj
  have h1:s=56-8*(j:Int):=h1
  have k3:m=l.length:=h3
  have hm8:m<=8:=by
   have:=(F3 hz.1 (show eE x<a9 8 from Int.lt_of_le_of_lt hz.2 (by decide)) j hj8).2.1
   have h2:l=qo (eE x) j:=h2
   rw[k3,h2];omega
  cases e with
  | true =>
   have hl:l=[]:=h4 rfl
   subst hl
   have hm:m=0:=k3
   subst hm
   refine ao (X:=((decide (s>=0)=true->0<=s/\(((eE x).fdiv (2^min s.toNat u64.bits) != 0)=true->0+1<=1/\1*1<=140737488355328/\1<=4611686018427387904/\(Ag (eE x) (i64.wrap (s-8),false,1,[u8.wrap ((eE x).fdiv (2^min s.toNat u64.bits))])).ah (BS (eE x) (i64.wrap (s-8),false,1,[u8.wrap ((eE x).fdiv (2^min s.toNat u64.bits))])/\Int.toNat (i64.wrap (s-8)+(8:au (Kd.int i64)))<Int.toNat (s+(8:au (Kd.int i64)))))/\(((eE x).fdiv (2^min s.toNat u64.bits) != 0)=false->(Ag (eE x) (i64.wrap (s-8),true,0,[])).ah (BS (eE x) (i64.wrap (s-8),true,0,[])/\Int.toNat (i64.wrap (s-8)+(8:au (Kd.int i64)))<Int.toNat (s+(8:au (Kd.int i64))))))/\(decide (s>=0)=false->(Ag (eE x) (s,true,0,[])).ah (Tn (eE x) (s,true,0,[]))))) (by kernel_rfl) ?_
   refine⟨fun h=>?_,fun h=>aA (NS hj (Odf h))⟩
   have h:s>=0:=Odt h
   obtain⟨e1,e2,e3⟩:=JE hj h
   rw[e1]
   refine⟨h,fun h5=>⟨by decide,by decide,by decide,aA ⟨e2 (by simpa using h5),by show (s-8+8).toNat<(s+8).toNat;omega⟩⟩,fun h5=>aA ⟨e3 (by simpa using h5),by show (s-8+8).toNat<(s+8).toNat;omega⟩⟩
  | false =>
   refine ao (X:=((decide (s>=0)=true->0<=s/\(((eE x).fdiv (2^min s.toNat u64.bits) != 0)=true->0+1<=1/\m<=m/\(m+1)*1<=140737488355328/\m+1<=4611686018427387904/\(Ag (eE x) (i64.wrap (s-8),false,m+1,List.take m l++List.take 1 [u8.wrap ((eE x).fdiv (2^min s.toNat u64.bits))])).ah (BS (eE x) (i64.wrap (s-8),false,m+1,List.take m l++List.take 1 [u8.wrap ((eE x).fdiv (2^min s.toNat u64.bits))])/\Int.toNat (i64.wrap (s-8)+(8:au (Kd.int i64)))<Int.toNat (s+(8:au (Kd.int i64)))))/\(((eE x).fdiv (2^min s.toNat u64.bits) != 0)=false->(Ag (eE x) (i64.wrap (s-8),false,m,l)).ah (BS (eE x) (i64.wrap (s-8),false,m,l)/\Int.toNat (i64.wrap (s-8)+(8:au (Kd.int i64)))<Int.toNat (s+(8:au (Kd.int i64))))))/\(decide (s>=0)=false->(Ag (eE x) (s,false,m,l)).ah (Tn (eE x) (s,false,m,l))))) (by kernel_rfl) ?_
   refine⟨fun h=>?_,fun h=>aA (NS hj (Odf h))⟩
   have h:s>=0:=Odt h
   obtain⟨e1,e2,e3⟩:=JE hj h
   rw[e1,show List.take m l=l by rw[k3,List.take_length]]
   refine⟨h,fun h5=>⟨by decide,Nat.le_refl _,by omega,by omega,aA ⟨e2 (by simpa using h5),by show (s-8+8).toNat<(s+8).toNat;omega⟩⟩,fun h5=>aA ⟨e3 (by simpa using h5),by show (s-8+8).toNat<(s+8).toNat;omega⟩⟩
 rintro⟨s,e,m,l⟩ ho
 revert s l
 intro (s:Int) (l:List Int) ⟨h1,h2,h3⟩
 have k1:l=qo (eE x) 8:=h1
 have k2:m=l.length:=h2
 refine bf hsp mixed _ _ ?_
 cases e with
 | true =>
  have hl:l=[]:=h3 rfl
  refine ao (X:=(([],())=fD (x,()))) (by kernel_rfl) ?_
  show _=(qo (eE x) 8,())
  rw[<- k1,hl]
 | false =>
  refine ao (X:=(0+m<=m/\(List.take m l,())=fD (x,()))) (by kernel_rfl) ?_
  rw[show List.take m l=l by rw[k2,List.take_length],k1]
  exact⟨by omega,rfl⟩
def fw:Nat × Eng.Spec:=(105,ar [.int .i64] [.own (.int .u8)] mR fD)
theorem Yg:enters Tryz.prog 16 Tryz.f16:=ek
def pat (p:List Fr) (x:Int):Fr:=cr (bS p (zm x))
theorem vm (p:List Fr) (x:Int):pat p x=bS p (zm x):=ay _
abbrev MI:HL [.sl .fr,.int .i64]->Prop:=fun (p,x,_)=>List.length p<4611686018427387904/\nh x
abbrev ME:HL [.sl .fr,.int .i64]->HO [.val .fr]:=fun (p,x,_)=>(pat p x,())
def Js (p:List Fr) (x:Int) (g:Int × Fr):St:=aY Tryz.f16.ntmps 80 [(0,.is (.one (.ro .fr p))),(4,.is (.one (.ptr 0 0))),(5,.is (.one (.ptr 24 0))),(6,.is (.one (.ptr 40 0))),(7,sI .i64 g.1)] [(0,[.row .fr 1 [0]]),(24,[.row .fr 1 [ov x]]),(40,[.row .fr 1 [g.2]])]
def atJ (p:List Fr) (x:Int) (g:Int × Fr):Prop:=∃ k:Nat,k<=p.length/\g.1=(k:Int)-1/\g.2=bS (p.drop k) (zm x)
theorem ab2:aB Tryz.prog 16 [.sl .fr,.int .i64] [.val .fr] aM MI ME:=by
 have hsp:aN Tryz.prog (aF [wR,fr.cK,fr.cv]):=(ai (ak EF) (ai (ak fr.cL) (ai (ak fr.cC) aR)))
 refine bh (sp:=aF [wR,fr.cK,fr.cv]) Yg (by decide) (by decide) (by kernel_rfl) ?_
 rintro w M0 ⟨p,x,⟨⟩⟩
 revert p x
 intro (p:List Fr) (x:Int) _ hp
 obtain⟨hl,hx⟩:=hp
 have hl:p.length<4611686018427387904:=hl
 show Tr _ _ _ _ _ _ _
 have ew:i64.wrap ((p.length:Int)-1)=(p.length:Int)-1:=aG (by omega) (by omega)
 refine aP hsp mixed 4 (Js p x (i64.wrap ((p.length:Int)-1),0)) True ?_ (fun _=>?_)
 ·refine ao (X:=(mR (x,())/\(Js p x (i64.wrap ((p.length:Int)-1),(0:Fr))).ah True)) (by kernel_rfl) ?_
  exact⟨hx,aA trivial⟩
 refine bO hsp mixed dA (fun σ=>(bU (.int .i64) 7 σ,ga .fr 40 σ)) (Js p x) (atJ p x) (fun g=>(g.1+1).toNat)
  (fun σ=>(bU (.int .i64) 7 σ,ga .fr 40 σ)) (Js p x) (fun g=>g.2=bS p (zm x)) (i64.wrap ((p.length:Int)-1),0) (c:=aI (aJ Tryz.f16) 4) (by kernel_rfl) (by kernel_rfl) (aC (by kernel_rfl) (by kernel_rfl) ?_) ?_ ?_
 ·refine⟨p.length,Nat.le_refl _,ew,?_⟩
  show 0=_
  rw[List.drop_length];rfl
 ·rintro⟨i,s⟩ hj
  revert i s
  intro (i:Int) (s:Fr) ⟨k,hk,ei,es⟩
  have ei:i=(k:Int)-1:=ei
  have es:s=bS (p.drop k) (zm x):=es
  refine ao (X:=((decide (i>=0)=true->True/\(0<=i/\i<(p.length:Int))/\i.toNat<p.length/\True/\(Js p x (i64.wrap (i-1),s*ov x+p.getD i.toNat (0:Fr))).ah (atJ p x (i64.wrap (i-1),s*ov x+p.getD i.toNat (0:Fr))/\Int.toNat (i64.wrap (i-1)+(1:au (Kd.int i64)))<Int.toNat (i+(1:au (Kd.int i64)))))/\(decide (i>=0)=false->(Js p x (i,s)).ah (s=bS p (Fc x))))) (by kernel_rfl) ?_
  refine⟨fun h=>?_,fun h=>aA ?_⟩
  ·have h:i>=0:=Odt h
   have hik:i=((k-1:Nat):Int):=by omega
   have hk1:k-1<p.length:=by omega
   have hd:p.drop (k-1)=p[k-1]::p.drop k:=by
    rw[List.drop_eq_getElem_cons hk1,show k-1+1=k by omega]
   have e:s*ov x+p.getD i.toNat 0=bS (p.drop (k-1)) (zm x):=by
    rw[hik,Int.toNat_natCast,List.getD_eq_getElem?_getD,List.getElem?_eq_getElem hk1,Option.getD_some,hd,es,vw]
    rfl
   have ew':i64.wrap (i-1)=i-1:=aG (by omega) (by omega)
   rw[ew']
   exact⟨trivial,⟨h,by omega⟩,by omega,trivial,aA ⟨⟨k-1,by omega,by show i-1=_;omega,e⟩,by show (i-1+1).toNat<(i+1).toNat;omega⟩⟩
  ·have h:¬ i>=0:=Odf h
   have:k=0:=by omega
   subst this
   exact es
 rintro⟨i,s⟩ hj
 revert i s
 intro (i:Int) (s:Fr) (hj:s=bS p (zm x))
 refine bf hsp mixed _ _ ?_
 refine ao (X:=((s,())=ME (p,x,()))) (by kernel_rfl) ?_
 show _=(pat p x,())
 rw[vm,hj]
def aa0:Nat × Eng.Spec:=(16,ar [.sl .fr,.int .i64] [.val .fr] MI ME)
theorem L2:enters Tryz.prog 18 Tryz.f18:=ek
def de (p:List Fr):List (Fp × Fp):=p.map (g1.a6 g1.gG)
abbrev yt:HL [.sl .fr]->Prop:=fun (p,_)=>List.length p<1048576
abbrev yn:HL [.sl .fr]->HO [.own bo]:=fun (p,_)=>(de p,())
def JJ (p:List Fr) (g:Int × List (Fp × Fp)):St:=aY Tryz.f18.ntmps 64 [(3,.is (.one (.sl 24 0 0 (p.length:Int).toNat 12))),(9,.is (.one (.ro .fr p))),(10,sI .i64 p.length),(11,sI .i64 g.1)] [(24,[.row bo (p.length:Int).toNat g.2])]
def F9 (p:List Fr) (k:Nat):List (Fp × Fp):=(p.take k).map (g1.a6 g1.gG)++List.replicate (p.length-k) (0,0)
def cmJ (p:List Fr) (g:Int × List (Fp × Fp)):Prop:=∃ k:Nat,k<=p.length/\g.1=(k:Int)/\g.2=F9 p k
theorem QX {p:List Fr} {k:Nat} (h:k<p.length):(F9 p k).set k (g1.a6 g1.gG (p.getD k 0))=F9 p (k+1):=by
 unfold F9
 rw[List.set_append_right _ _ (by simp;omega),List.take_succ_eq_append_getElem h]
 have e:p.length-k=(p.length-(k+1))+1:=by omega
 have e2:k-((p.take k).map (g1.a6 g1.gG)).length=0:=by simp;omega
 rw[e2,e,List.replicate_succ,List.set_cons_zero,List.map_append,List.append_assoc]
 simp[h]
theorem Ot:aB Tryz.prog 18 [.sl .fr] [.own bo] aM yt yn:=by
 have hsp:aN Tryz.prog (aF [g1.FC,g1.zW]):=(ai (ak g1.Gw) (ai (ak g1.B9) aR))
 refine bh (sp:=aF [g1.FC,g1.zW]) L2 (by decide) (by decide) (by kernel_rfl) ?_
 rintro w M0 ⟨p,⟨⟩⟩
 revert p
 intro (p:List Fr) _ hl
 have hl:p.length<1048576:=hl
 show Tr _ _ _ _ _ _ _
 refine aP hsp mixed 3 (JJ p (0,List.replicate (p.length:Int).toNat (0,0))) True ?_ (fun _=>?_)
 ·refine ao (X:=((0<=(p.length:Int)/\(p.length:Int)<=(p.length:Int)/\(↑(96:Nat):Int)*(p.length:Int)<=281474976710656/\(p.length:Int)<=9223372036854775807)/\(JJ p (0,List.replicate (p.length:Int).toNat ((0:Fp),(0:Fp)))).ah True)) (by kernel_rfl) ?_
  exact⟨⟨by omega,by omega,by omega,by omega⟩,aA trivial⟩
 refine bO hsp mixed dA (fun σ=>(bU (.int .i64) 11 σ,cN bo 24 σ)) (JJ p) (cmJ p) (fun g=>p.length-g.1.toNat)
  (fun σ=>(bU (.int .i64) 11 σ,cN bo 24 σ)) (JJ p) (fun g=>g.2=de p) (0,List.replicate (p.length:Int).toNat (0,0)) (c:=aI (aJ Tryz.f18) 3) (by kernel_rfl) (by kernel_rfl) (aC (by kernel_rfl) (by kernel_rfl) ?_) ?_ ?_
 ·exact⟨0,Nat.zero_le _,rfl,by simp[F9]⟩
 ·rintro⟨i,l⟩ hj
  revert i l
  intro (i:Int) (l:List (Fp × Fp)) ⟨k,hk,ei,el⟩
  have ei:i=(k:Int):=ei
  have kl:l=F9 p k:=el
  subst ei
  refine ao (X:=((decide ((k:Int)<(p.length:Int))=true->(0<=(k:Int)/\(k:Int)<(p.length:Int))/\(k:Int).toNat<p.length/\True/\True/\(0<=(k:Int)/\(k:Int)<(↑(p.length:Int).toNat:Int))/\(k:Int).toNat<(p.length:Int).toNat/\(JJ p (i64.wrap ((k:Int)+1),l.set (k:Int).toNat (g1.a6 g1.gG (p.getD (k:Int).toNat (0:Fr))))).ah (cmJ p (i64.wrap ((k:Int)+1),l.set (k:Int).toNat (g1.a6 g1.gG (p.getD (k:Int).toNat (0:Fr))))/\p.length-(i64.wrap ((k:Int)+1)).toNat<p.length-(k:Int).toNat))/\(decide ((k:Int)<(p.length:Int))=false->(JJ p ((k:Int),l)).ah (l=de p)))) (by kernel_rfl) ?_
  rw[Int.toNat_natCast,Int.toNat_natCast]
  refine⟨fun h=>?_,fun h=>aA ?_⟩
  ·have hlt:k<p.length:=by have:=dec_lt h;omega
   rw[aQ (by omega)]
   refine⟨⟨by omega,by omega⟩,hlt,trivial,trivial,⟨by omega,by omega⟩,hlt,aA ⟨⟨k+1,hlt,rfl,?_⟩,?_⟩⟩
   ·show l.set k _=_
    rw[kl,QX hlt]
   ·show p.length-((k+1:Nat):Int).toNat<p.length-(k:Int).toNat
    rw[Int.toNat_natCast,Int.toNat_natCast];omega
  ·have:k=p.length:=by have:=dk h;omega
   show l=de p
   rw[kl,this,F9,List.take_length,Nat.sub_self]
   exact List.append_nil _
 rintro⟨i,l⟩ hj
 revert i l
 intro (i:Int) (l:List (Fp × Fp)) (hj:l=de p)
 refine bf hsp mixed _ _ ?_
 refine ao (X:=(0+(p.length:Int).toNat<=(p.length:Int).toNat/\(List.take (p.length:Int).toNat l,())=yn (p,()))) (by kernel_rfl) ?_
 rw[Int.toNat_natCast]
 refine⟨by omega,?_⟩
 show (_,())=(de p,())
 rw[hj,List.take_of_length_le (by simp[de])]
def H8:Nat × Eng.Spec:=(18,ar [.sl .fr] [.own bo] yt yn)
end
end Go.Proofs.YtbeeaekepmnfhaaGreatDoor.poly
open Go.IntKind(i64)
namespace Go.Proofs.YtbeeaekepmnfhaaGreatDoor.poly
noncomputable section
open Go Go.Eng Go.RowKit Cr
theorem Vi:enters Tryz.prog 63 Tryz.f63:=ek
def Dn (x:Int) (s:Fp × Fp):Fp × Fp:=if x<0 then g1.iE (g1.eY s (hO x)) else g1.eY s (hO x)
def eT (x:Int):List (Fp × Fp)->Fp × Fp
 | []=>(0,0)
 | p::l=>g1.dR (Dn x (eT x l)) p
abbrev Cz:HL [.sl bo,.int .i64]->Prop:=fun (c,x,_)=>List.length c<4611686018427387904/\nh x
abbrev Hi:HL [.sl bo,.int .i64]->HO [.val bo]:=fun (c,x,_)=>(eT x c,())
def AJ (c:List (Fp × Fp)) (x:Int) (g:Int × (Fp × Fp)):St:=aY Tryz.f63.ntmps 72 [(0,.is (.one (.ro bo c))),(1,sI .i64 x),(4,.is (.one (.ptr 0 0))),(5,.is (.one (.sl 16 0 0 (hO x).length 1))),(6,.is (.one (.ptr 32 0))),(7,sI .i64 g.1)] [(0,g1.pc (0,0)),(16,[.ints .u8 (hO x).length (hO x)]),(32,g1.pc g.2)]
def QT (c:List (Fp × Fp)) (x:Int) (g:Int × (Fp × Fp)):Prop:=∃ k:Nat,k<=c.length/\g.1=(k:Int)-1/\g.2=eT x (c.drop k)
def XT (c:List (Fp × Fp)) (x:Int) (g:Int × (Fp × Fp)):Prop:=g.2=eT x c
theorem JG {x:Int} (hx:nh x):Bs (hO x)/\(hO x).length<=8/\num (hO x)=eE x:=by
 have hz:=CV hx
 have h:=F3 hz.1 (show eE x<a9 8 from Int.lt_of_le_of_lt hz.2 (by decide)) 8 (by decide)
 refine⟨h.1,h.2.1,?_⟩
 rw[show num (hO x)=eE x/a9 (8-8) from h.2.2]
 exact Int.ediv_one _
theorem Oo:aB Tryz.prog 63 [.sl bo,.int .i64] [.val bo] aM Cz Hi:=by
 have hsp:aN Tryz.prog (aF [fw,g1.zX,g1.CN,g1.oy]):=(ai (ak gO) (ai (ak g1.A0) (ai (ak g1.Ca) (ai (ak g1.se) aR))))
 refine bh (sp:=aF [fw,g1.zX,g1.CN,g1.oy]) Vi (by decide) (by decide) (by kernel_rfl) ?_
 rintro w M0 ⟨c,x,⟨⟩⟩
 revert c x
 intro (c:List (Fp × Fp)) (x:Int) _ hp
 obtain⟨hl,hx⟩:=hp
 have hl:c.length<4611686018427387904:=hl
 show Tr _ _ _ _ _ _ _
 obtain⟨b1,b2,b3⟩:=JG hx
 have ew:i64.wrap ((c.length:Int)-1)=(c.length:Int)-1:=aG (by omega) (by omega)
 refine aP hsp mixed 4 (AJ c x (i64.wrap ((c.length:Int)-1),(0,0))) True ?_ (fun _=>?_)
 ·refine ao (X:=(mR (x,())/\(AJ c x (i64.wrap ((c.length:Int)-1),(0:Fp),(0:Fp))).ah True)) (by kernel_rfl) ?_
  exact⟨hx,aA trivial⟩
 refine bO hsp mixed dA (fun σ=>(bU (.int .i64) 7 σ,ga bo 32 σ)) (AJ c x) (QT c x) (fun g=>(g.1+1).toNat)
  (fun σ=>(bU (.int .i64) 7 σ,ga bo 32 σ)) (AJ c x) (XT c x) (i64.wrap ((c.length:Int)-1),(0,0)) (c:=aI (aJ Tryz.f63) 4) (by kernel_rfl) (by kernel_rfl) (aC (by kernel_rfl) (by kernel_rfl) ?_) ?_ ?_
 ·refine⟨c.length,Nat.le_refl _,ew,?_⟩
  show (0,0)=_
  rw[List.drop_length];rfl
 ·rintro⟨i,s⟩ hj
  revert i s
  intro (i:Int) (s:Fp × Fp) ⟨k,hk,ei,es⟩
  have ei:i=(k:Int)-1:=ei
  have es:s=eT x (c.drop k):=es
  refine ao (X:=((decide (i>=0)=true->0+(hO x).length<=(hO x).length/\g1.bX (s,List.take (hO x).length (hO x),())/\(decide (x<0)=true->True/\(0<=i/\i<(c.length:Int))/\i.toNat<c.length/\True/\(AJ c x (i64.wrap (i-1),g1.dR (g1.iE (g1.eY s (List.take (hO x).length (hO x)))) (c.getD i.toNat ((0:Fp),(0:Fp))))).ah (QT c x (i64.wrap (i-1),g1.dR (g1.iE (g1.eY s (List.take (hO x).length (hO x)))) (c.getD i.toNat ((0:Fp),(0:Fp))))/\Int.toNat (i64.wrap (i-1)+(1:au (Kd.int i64)))<Int.toNat (i+(1:au (Kd.int i64)))))/\(decide (x<0)=false->(0<=i/\i<(c.length:Int))/\i.toNat<c.length/\True/\(AJ c x (i64.wrap (i-1),g1.dR (g1.eY s (List.take (hO x).length (hO x))) (c.getD i.toNat ((0:Fp),(0:Fp))))).ah (QT c x (i64.wrap (i-1),g1.dR (g1.eY s (List.take (hO x).length (hO x))) (c.getD i.toNat ((0:Fp),(0:Fp))))/\Int.toNat (i64.wrap (i-1)+(1:au (Kd.int i64)))<Int.toNat (i+(1:au (Kd.int i64))))))/\(decide (i>=0)=false->(AJ c x (i,s)).ah (XT c x (i,s))))) (by kernel_rfl) ?_
  have pt:g1.bX (s,(hO x).take (hO x).length,()):=by rw[List.take_length];exact⟨b1,by show (hO x).length<_;omega⟩
  refine⟨fun h=>?_,fun h=>aA ?_⟩
  ·have h:i>=0:=Odt h
   have hik:i=((k-1:Nat):Int):=by omega
   have hk1:k-1<c.length:=by omega
   have hd:c.drop (k-1)=c[k-1]::c.drop k:=by
    rw[List.drop_eq_getElem_cons hk1,show k-1+1=k by omega]
   have hg:c.getD i.toNat (0,0)=c[k-1]:=by rw[hik,Int.toNat_natCast,List.getD_eq_getElem?_getD,List.getElem?_eq_getElem hk1,Option.getD_some]
   have ew':i64.wrap (i-1)=i-1:=aG (by omega) (by omega)
   rw[ew',hg]
   rw[List.take_length] at pt ⊢
   refine⟨by omega,pt,fun hx0=>⟨trivial,⟨h,by omega⟩,by omega,trivial,aA ⟨⟨k-1,by omega,by show i-1=_;omega,?_⟩,by show (i-1+1).toNat<(i+1).toNat;omega⟩⟩,fun hx0=>⟨⟨h,by omega⟩,by omega,trivial,aA ⟨⟨k-1,by omega,by show i-1=_;omega,?_⟩,by show (i-1+1).toNat<(i+1).toNat;omega⟩⟩⟩
   ·show g1.dR _ _=eT x (c.drop (k-1))
    rw[hd,eT,Dn,if_pos (Odt hx0),es]
   ·show g1.dR _ _=eT x (c.drop (k-1))
    rw[hd,eT,Dn,if_neg (Odf hx0),es]
  ·have h:¬ i>=0:=Odf h
   have:k=0:=by omega
   subst this
   exact es
 rintro⟨i,s⟩ hj
 revert i s
 intro (i:Int) (s:Fp × Fp) (hj:s=eT x c)
 refine bf hsp mixed _ _ ?_
 refine ao (X:=((s,())=Hi (c,x,()))) (by kernel_rfl) ?_
 rw[hj]
def Nf:Nat × Eng.Spec:=(63,ar [.sl bo,.int .i64] [.val bo] Cz Hi)
theorem IU:enters Tryz.prog 139 Tryz.f139:=ek
def im (seen:List Int):List Int->Int
 | []=>0
 | x::xs=>if x<1\/x>9 then 34 else if x∈seen then 33 else im (x::seen) xs
def tZ (xs:List Int) (x:Int):Fr:=cr (td (xs.map fun y=>(zm y:Fr)) (zm x))
def gD (xs:List Int):List Fr:=if im [] xs=0 then xs.map (tZ xs) else []
abbrev wF:HL [.sl (.int .i64)]->Prop:=fun (xs,_)=>List.length xs<4611686018427387904/\∀ x∈(xs:List Int),nh x
abbrev mn:HL [.sl (.int .i64)]->HO [.own .fr,.val (.int .i64)]:=fun (xs,_)=>(gD xs,im [] xs,())
def CM (done:List Int):List Bool:=(List.range 10).map fun (v:Nat)=>decide ((v:Int)∈done)
def UM (xs:List Int) (g:Int × List Bool):St:=aY Tryz.f139.ntmps 48 [(0,.is (.one (.ro (.int .i64) xs))),(2,.is (.one (.v (.slice none 0 0)))),(3,sI .i64 0),(4,.is (.one (.ptr 16 0))),(14,.is (.one (.ro (.int .i64) xs))),(15,sI .i64 xs.length),(16,sI .i64 g.1)] [(16,[.row .bool 10 g.2])]
def w1J (xs:List Int) (g:Int × List Bool):Prop:=∃ k:Nat,k<=xs.length/\g.1=(k:Int)/\g.2=CM (xs.take k).reverse/\im [] xs=im (xs.take k).reverse (xs.drop k)
def w1O (xs:List Int):St:=aY Tryz.f139.ntmps 48 [(0,.is (.one (.ro (.int .i64) xs))),(2,.is (.one (.v (.slice none 0 0)))),(3,sI .i64 0)] []
theorem W9 {l:List Int} {x:Int} (h0:0<=x) (h1:x<10):(CM l).getD x.toNat false=decide (x∈l):=by
 obtain⟨n,rfl⟩:=Int.eq_ofNat_of_zero_le h0
 have:n<10:=by omega
 simp[CM,this]
theorem Xa {l:List Int} {x:Int} (h0:0<=x) (h1:x<10):(CM l).set x.toNat true=CM (x::l):=by
 obtain⟨n,rfl⟩:=Int.eq_ofNat_of_zero_le h0
 refine List.ext_getElem (by simp[CM]) fun i h2 h3=>?_
 rw[List.getElem_set]
 split
 ·rename_i e
  have e:n=i:=by simpa using e
  subst e;simp[CM]
 ·rename_i e
  have e:¬ (i:Int)=(n:Int):=by simp at e;omega
  simp[CM,e]
def Az (xs:List Int) (g:Int × List Fr):St:=aY Tryz.f139.ntmps 104 [(0,.is (.one (.ro (.int .i64) xs))),(2,.is (.one (.v (.slice none 0 0)))),(3,sI .i64 0),(7,.is (.one (.sl 64 0 0 (xs.length:Int).toNat 4))),(35,.is (.one (.ro (.int .i64) xs))),(36,sI .i64 xs.length),(37,sI .i64 g.1)] [(64,[.row .fr (xs.length:Int).toNat g.2])]
def w2J (xs:List Int) (g:Int × List Fr):Prop:=∃ k:Nat,k<=xs.length/\g.1=(k:Int)/\g.2=(xs.take k).map (tZ xs)++List.replicate (xs.length-k) 0
def w2O (xs:List Int) (g:Int × List Fr):Prop:=g.2=xs.map (tZ xs)
theorem Cw:∀ {xs seen:List Int},im seen xs=0->(∀ x∈xs,(1<=x/\x<=9)/\x∉seen)/\xs.Nodup
 | [],_,_=>⟨(fun _ h=>nomatch h),List.nodup_nil⟩
 | x::xs,seen,h=>by
  unfold im at h
  split at h
  ·cases h
  ·rename_i h1
   split at h
   ·cases h
   ·rename_i h2
    obtain⟨h3,h4⟩:=Cw h
    refine⟨fun y hy=>?_,List.nodup_cons.2 ⟨fun hx=>(h3 x hx).2 (by simp),h4⟩⟩
    rcases List.mem_cons.1 hy with rfl|hy
    ·exact⟨by omega,h2⟩
    ·exact⟨(h3 y hy).1,fun hs=>(h3 y hy).2 (by simp[hs])⟩
theorem EJ:∀ (n:Nat) {xs:List Int},xs.Nodup->(∀ x∈xs,1<=x/\x<=(n:Int))->xs.length<=n
 | 0,xs,_,h=>by
  cases xs with
  | nil=>exact Nat.le_refl _
  | cons a l=>have:=h a (by simp);omega
 | n+1,xs,hd,h=>by
  have h1:=EJ n (xs:=xs.erase ((n+1:Nat):Int)) (hd.erase _) (fun x hx=>by
   have hm:=(List.Nodup.mem_erase_iff hd).1 hx
   have:=h x hm.2
   have hne:=hm.1
   omega)
  by_cases hm:((n+1:Nat):Int)∈xs
  ·rw[List.length_erase_of_mem hm] at h1;omega
  ·rw[List.erase_of_not_mem hm] at h1;omega
theorem WO {xs:List Int} (h:im [] xs=0):xs.length<=9:=by
 obtain⟨h1,h2⟩:=Cw h
 exact EJ 9 h2 fun x hx=>(h1 x hx).1
theorem LJ {x y:Int} (hx:1<=x/\x<=9) (hy:1<=y/\y<=9) (h:(zm x:Fr)=zm y):x=y:=by
 have h:x%Mr=y%Mr:=congrArg Zm.v h
 rw[Int.emod_eq_of_lt (by omega) (by unfold Mr;omega),Int.emod_eq_of_lt (by omega) (by unfold Mr;omega)] at h
 exact h
theorem Bh {F:Type} [Rg F]:∀ (l:List F) (a:F),mA (l++[a])=mA l*a
 | [],a=>by show a*1=1*a;rw[Rg.mul_comm]
 | b::l,a=>by show b*mA (l++[a])=b*mA l*a;rw[Bh l a,Rg.mul_assoc]
def EN (xs:List Int) (x:Int):List Int:=xs.filter fun y=>decide (y≠x)
def BL (xs:List Int) (x:Int):Fr:=mA ((EN xs x).map fun y=>(zm y:Fr))
def BR (xs:List Int) (x:Int):Fr:=mA ((EN xs x).map fun y=>(zm (y-x):Fr))
theorem wx (xs:List Int) (x y:Int):EN (xs++[y]) x=if y=x then EN xs x else EN xs x++[y]:=by
 unfold EN
 rw[List.filter_append]
 by_cases h:y=x<;>simp[h]
theorem abr {xs:List Int} (h:∀ x∈xs,1<=x/\x<=9) {x:Int} (hx:x∈xs):tZ xs x=BL xs x*fr.iJ (BR xs x):=by
 have e:(xs.map fun y=>(zm y:Fr)).filter (fun y=>decide (y≠zm x))=(EN xs x).map fun y=>(zm y:Fr):=by
  rw[List.filter_map,EN]
  congr 1
  refine List.filter_congr fun y hy=>?_
  simp only[Function.comp,ne_eq]
  by_cases hyx:y=x
  ·simp[hyx]
  ·have:¬ (zm y:Fr)=zm x:=fun e=>hyx (LJ (h y hy) (h x hx) e)
   simp[hyx,this]
 rw[tZ,ay,td,e,List.map_map]
 have e2:(fun y:Fr=>y-zm x)∘(fun y=>(zm y:Fr))=fun y=>(zm (y-x):Fr):=by
  funext y;simp only[Function.comp,y8]
 rw[e2];rfl
def IA (xs:List Int) (k:Nat) (x:Int) (l:List Fr) (g:Int × Fr × Fr):St:=aY Tryz.f139.ntmps 216 [(0,.is (.one (.ro (.int .i64) xs))),(2,.is (.one (.v (.slice none 0 0)))),(3,sI .i64 0),(7,.is (.one (.sl 64 0 0 (xs.length:Int).toNat 4))),(8,sI .i64 k),(9,sI .i64 x),(10,.is (.one (.ptr 160 0))),(11,.is (.one (.ptr 168 0))),(35,.is (.one (.ro (.int .i64) xs))),(36,sI .i64 xs.length),(37,sI .i64 k),(44,.is (.one (.ro (.int .i64) xs))),(45,sI .i64 xs.length),(46,sI .i64 g.1)] [(64,[.row .fr (xs.length:Int).toNat l]),(160,[.row .fr 1 [g.2.1]]),(168,[.row .fr 1 [g.2.2]])]
def w3J (xs:List Int) (x:Int) (g:Int × Fr × Fr):Prop:=∃ j:Nat,j<=xs.length/\g.1=(j:Int)/\g.2.1=BL (xs.take j) x/\g.2.2=BR (xs.take j) x
def w3O (xs:List Int) (x:Int) (g:Int × Fr × Fr):Prop:=g.2.1=BL xs x/\g.2.2=BR xs x
theorem Mg:aB Tryz.prog 139 [.sl (.int .i64)] [.own .fr,.val (.int .i64)] aM wF mn:=by
 have hsp:aN Tryz.prog (aF [fr.ly,fr.cK,wR,fr.mS]):=(ai (ak fr.nL) (ai (ak fr.cL) (ai (ak EF) (ai (ak fr.ke) aR))))
 refine bh (sp:=aF [fr.ly,fr.cK,wR,fr.mS]) IU (by decide) (by decide) (by kernel_rfl) ?_
 rintro w M0 ⟨xs,⟨⟩⟩
 revert xs
 intro (xs:List Int) _ hp
 obtain⟨hl,hx⟩:=hp
 have hl:xs.length<4611686018427387904:=hl
 have hx:∀ x∈xs,nh x:=hx
 show Tr _ _ _ _ _ _ _
 refine aP hsp mixed 3 (UM xs (0,List.replicate 10 false)) True ?_ (fun _=>?_)
 ·refine ao (X:=((UM xs (0,List.replicate 10 false)).ah True)) (by kernel_rfl) ?_
  exact aA trivial
 refine bO hsp mixed dA (fun σ=>(bU (.int .i64) 16 σ,cN .bool 16 σ)) (UM xs) (w1J xs) (fun g=>xs.length-g.1.toNat)
  (fun _=>()) (fun _=>w1O xs) (fun _=>im [] xs=0) (0,List.replicate 10 false) (c:=aI (aJ Tryz.f139) 3) (by kernel_rfl) (by kernel_rfl) (aC (by kernel_rfl) (by kernel_rfl) ?_) ?_ ?_
 ·exact⟨0,Nat.zero_le _,rfl,rfl,rfl⟩
 ·rintro⟨i,l⟩ hj
  revert i l
  intro (i:Int) (l:List Bool) ⟨k,hk,ei,el,ep⟩
  have ei:i=(k:Int):=ei
  have kl:l=CM (xs.take k).reverse:=el
  subst ei
  refine ao (X:=((decide ((k:Int)<(xs.length:Int))=true->(0<=(k:Int)/\(k:Int)<(xs.length:Int))/\(k:Int).toNat<xs.length/\(decide (xs.getD (k:Int).toNat (0:Int)<1)=true->([],34,())=mn (xs,()))/\(decide (xs.getD (k:Int).toNat (0:Int)<1)=false->(decide (xs.getD (k:Int).toNat (0:Int)>9)=true->([],34,())=mn (xs,()))/\(decide (xs.getD (k:Int).toNat (0:Int)>9)=false->(0<=xs.getD (k:Int).toNat 0/\xs.getD (k:Int).toNat 0<(↑(10:Nat):Int))/\(xs.getD (k:Int).toNat 0).toNat<10/\(l.getD (xs.getD (k:Int).toNat 0).toNat false=true->([],33,())=mn (xs,()))/\(l.getD (xs.getD (k:Int).toNat 0).toNat false=false->(0<=xs.getD (k:Int).toNat 0/\xs.getD (k:Int).toNat 0<(↑(10:Nat):Int))/\(xs.getD (k:Int).toNat 0).toNat<10/\(UM xs (i64.wrap ((k:Int)+1),l.set (xs.getD (k:Int).toNat 0).toNat true)).ah (w1J xs (i64.wrap ((k:Int)+1),l.set (xs.getD (k:Int).toNat 0).toNat true)/\xs.length-(i64.wrap ((k:Int)+1)).toNat<xs.length-(k:Int).toNat)))))/\(decide ((k:Int)<(xs.length:Int))=false->(w1O xs).ah (im [] xs=0)))) (by kernel_rfl) ?_
  rw[Int.toNat_natCast]
  refine⟨fun h=>?_,fun h=>aA ?_⟩
  ·have hlt:k<xs.length:=by have:=dec_lt h;omega
   have hd:xs.drop k=xs[k]::xs.drop (k+1):=List.drop_eq_getElem_cons hlt
   have hg:xs.getD k 0=xs[k]:=by rw[List.getD_eq_getElem?_getD,List.getElem?_eq_getElem hlt,Option.getD_some]
   rw[hg,aQ (by omega)]
   have hr:(xs.take (k+1)).reverse=xs[k]::(xs.take k).reverse:=by
    rw[List.take_succ_eq_append_getElem hlt,List.reverse_append];rfl
   rw[hd] at ep
   generalize xs[k]=x at *
   refine⟨⟨by omega,by omega⟩,hlt,fun h1=>?_,fun h1=>⟨fun h2=>?_,fun h2=>?_⟩⟩
   ·have h1:x<1:=Odt h1
    show _=(gD xs,im [] xs,())
    rw[im,if_pos (.inl h1)] at ep
    rw[gD,ep];rfl
   ·have h2:x>9:=Odt h2
    show _=(gD xs,im [] xs,())
    rw[im,if_pos (.inr h2)] at ep
    rw[gD,ep];rfl
   ·have h1:¬ x<1:=Odf h1
    have h2:¬ x>9:=Odf h2
    rw[im,if_neg (by omega)] at ep
    have hm:l.getD x.toNat false=decide (x∈(xs.take k).reverse):=by
     rw[kl];exact W9 (by omega) (by omega)
    rw[hm]
    refine⟨⟨by omega,by omega⟩,by omega,fun h3=>?_,fun h3=>⟨⟨by omega,by omega⟩,by omega,aA ⟨⟨k+1,hlt,rfl,?_,?_⟩,?_⟩⟩⟩
    ·rw[if_pos (Odt h3)] at ep
     show _=(gD xs,im [] xs,())
     rw[gD,ep];rfl
    ·show l.set x.toNat true=_
     rw[kl,Xa (by omega) (by omega),hr]
    ·rw[if_neg (Odf h3)] at ep
     rw[ep,hr]
    ·show xs.length-((k+1:Nat):Int).toNat<xs.length-(k:Int).toNat
     rw[Int.toNat_natCast,Int.toNat_natCast];omega
  ·have:k=xs.length:=by have:=dk h;omega
   rw[this,List.drop_length] at ep
   exact ep
 rintro⟨⟩ h0
 have h0:im [] xs=0:=h0
 have hl9:xs.length<=9:=WO h0
 refine aP hsp mixed 2 (Az xs (0,List.replicate (xs.length:Int).toNat 0)) True ?_ (fun _=>?_)
 ·refine ao (X:=((0<=(xs.length:Int)/\(xs.length:Int)<=(xs.length:Int)/\(↑(32:Nat):Int)*(xs.length:Int)<=281474976710656/\(xs.length:Int)<=9223372036854775807)/\(Az xs (0,List.replicate (xs.length:Int).toNat (0:Fr))).ah True)) (by kernel_rfl) ?_
  exact⟨⟨by omega,by omega,by omega,by omega⟩,aA trivial⟩
 refine fh dA (fun σ=>(bU (.int .i64) 37 σ,cN .fr 64 σ)) (Az xs) (w2J xs) (fun g=>xs.length-g.1.toNat)
  (fun σ=>(bU (.int .i64) 37 σ,cN .fr 64 σ)) (Az xs) (w2O xs) (0,List.replicate (xs.length:Int).toNat 0) (c:=aI (aJ Tryz.f139) 6) (by kernel_rfl) (by kernel_rfl) (aC (by kernel_rfl) (by kernel_rfl) ?_) ?_ ?_
 ·exact⟨0,Nat.zero_le _,rfl,by simp⟩
 ·rintro⟨i,l⟩ hj
  revert i l
  intro (i:Int) (l:List Fr) ⟨k,hk,ei,el⟩
  have ei:i=(k:Int):=ei
  have kl:l=(xs.take k).map (tZ xs)++List.replicate (xs.length-k) 0:=el
  subst ei
  refine aP hsp mixed 2 (Az xs ((k:Int),l)) (k<xs.length) ?_ (fun hlt=>?_)
  ·refine ao (X:=((decide ((k:Int)<(xs.length:Int))=true->(Az xs ((k:Int),l)).ah (k<xs.length))/\(decide ((k:Int)<(xs.length:Int))=false->(Az xs ((k:Int),l)).ah (w2O xs ((k:Int),l))))) (by kernel_rfl) ?_
   refine⟨fun h=>aA (by have:=dec_lt h;omega),fun h=>aA ?_⟩
   have:k=xs.length:=by have:=dk h;omega
   show l=_
   rw[kl,this,List.take_length,Nat.sub_self]
   exact List.append_nil _
  refine eG (c:=aI (bQ (aI (aJ Tryz.f139) 6)) 2) (by kernel_rfl) (by kernel_rfl) ?_
  have hxk:xs[k]∈xs:=List.getElem_mem hlt
  obtain⟨hr9,_⟩:=Cw h0
  have hr9:∀ x∈xs,1<=x/\x<=9:=fun x hx=>(hr9 x hx).1
  have hgk:xs.getD k 0=xs[k]:=by rw[List.getD_eq_getElem?_getD,List.getElem?_eq_getElem hlt,Option.getD_some]
  generalize hxx:xs[k]=x at *
  refine aP hsp mixed 3 (IA xs k (xs.getD (k:Int).toNat 0) l (0,zm 1,zm 1)) True ?_ (fun _=>?_)
  ·refine ao (X:=((0<=(k:Int)/\(k:Int)<(xs.length:Int))/\(k:Int).toNat<xs.length/\dF 1/\dF 1/\(IA xs k (xs.getD (k:Int).toNat 0) l (0,Fc 1,Fc 1)).ah True)) (by kernel_rfl) ?_
   exact⟨⟨by omega,by omega⟩,by omega,⟨by decide,by decide⟩,⟨by decide,by decide⟩,aA trivial⟩
  rw[Int.toNat_natCast,hgk]
  refine bO hsp mixed dA (fun σ=>(bU (.int .i64) 46 σ,ga .fr 160 σ,ga .fr 168 σ)) (IA xs k x l) (w3J xs x) (fun g=>xs.length-g.1.toNat)
   (fun σ=>(bU (.int .i64) 46 σ,ga .fr 160 σ,ga .fr 168 σ)) (IA xs k x l) (w3O xs x) (0,zm 1,zm 1) (c:=aI (fz (aI (bQ (aI (aJ Tryz.f139) 6)) 2)) 3) (by kernel_rfl) (by kernel_rfl) (aC (by kernel_rfl) (by kernel_rfl) ?_) ?_ ?_
  ·exact⟨0,Nat.zero_le _,rfl,rfl,rfl⟩
  ·rintro⟨j,a,b⟩ hj
   revert j a b
   intro (j:Int) (a:Fr) (b:Fr) ⟨n,hn,ej,ea,eb⟩
   have ej:j=(n:Int):=ej
   have ka:a=BL (xs.take n) x:=ea
   have kb:b=BR (xs.take n) x:=eb
   subst ej
   refine ao (X:=((decide ((n:Int)<(xs.length:Int))=true->(0<=(n:Int)/\(n:Int)<(xs.length:Int))/\(n:Int).toNat<xs.length/\((xs.getD (n:Int).toNat 0 != x)=true->mR (xs.getD (n:Int).toNat 0,())/\True/\mR (i64.wrap (xs.getD (n:Int).toNat 0-x),())/\True/\(IA xs k x l (i64.wrap ((n:Int)+1),a*ov (xs.getD (n:Int).toNat 0),b*ov (i64.wrap (xs.getD (n:Int).toNat 0-x)))).ah (w3J xs x (i64.wrap ((n:Int)+1),a*ov (xs.getD (n:Int).toNat 0),b*ov (i64.wrap (xs.getD (n:Int).toNat 0-x)))/\xs.length-(i64.wrap ((n:Int)+1)).toNat<xs.length-(n:Int).toNat))/\((xs.getD (n:Int).toNat 0 != x)=false->(IA xs k x l (i64.wrap ((n:Int)+1),a,b)).ah (w3J xs x (i64.wrap ((n:Int)+1),a,b)/\xs.length-(i64.wrap ((n:Int)+1)).toNat<xs.length-(n:Int).toNat)))/\(decide ((n:Int)<(xs.length:Int))=false->(IA xs k x l ((n:Int),a,b)).ah (w3O xs x ((n:Int),a,b))))) (by kernel_rfl) ?_
   rw[Int.toNat_natCast]
   refine⟨fun h=>?_,fun h=>aA ?_⟩
   ·have hlt':n<xs.length:=by have:=dec_lt h;omega
    have hgn:xs.getD n 0=xs[n]:=by rw[List.getD_eq_getElem?_getD,List.getElem?_eq_getElem hlt',Option.getD_some]
    have hyn:xs[n]∈xs:=List.getElem_mem hlt'
    have htk:xs.take (n+1)=xs.take n++[xs[n]]:=List.take_succ_eq_append_getElem hlt'
    rw[hgn,aQ (by omega)]
    generalize xs[n]=y at *
    have hy9:=hr9 y hyn
    have hx9:=hr9 x hxk
    have hyx:i64.wrap (y-x)=y-x:=aG (by omega) (by omega)
    rw[hyx]
    have hmu:xs.length-((n+1:Nat):Int).toNat<xs.length-(n:Int).toNat:=by rw[Int.toNat_natCast,Int.toNat_natCast];omega
    refine⟨⟨by omega,by omega⟩,hlt',fun h2=>⟨⟨by omega,by omega⟩,trivial,⟨by omega,by omega⟩,trivial,aA ⟨⟨n+1,hlt',rfl,?_,?_⟩,hmu⟩⟩,fun h2=>aA ⟨⟨n+1,hlt',rfl,?_,?_⟩,hmu⟩⟩
    ·have h2:¬ y=x:=by simpa using h2
     show a*ov y=BL (xs.take (n+1)) x
     rw[htk,BL,wx,if_neg h2,List.map_append,List.map_cons,List.map_nil,Bh,ka,vw];rfl
    ·have h2:¬ y=x:=by simpa using h2
     show b*ov (y-x)=BR (xs.take (n+1)) x
     rw[htk,BR,wx,if_neg h2,List.map_append,List.map_cons,List.map_nil,Bh,kb,vw];rfl
    ·have h2:y=x:=by simpa using h2
     show _=BL (xs.take (n+1)) x
     rw[htk,BL,wx,if_pos h2,ka];rfl
    ·have h2:y=x:=by simpa using h2
     show _=BR (xs.take (n+1)) x
     rw[htk,BR,wx,if_pos h2,kb];rfl
   ·have:n=xs.length:=by have:=dk h;omega
    rw[this,List.take_length] at ka kb
    exact⟨ka,kb⟩
  rintro⟨j,a,b⟩ hj
  revert j a b
  intro (j:Int) (a:Fr) (b:Fr) ⟨ea,eb⟩
  have ka:a=BL xs x:=ea
  have kb:b=BR xs x:=eb
  refine aP hsp mixed 1 (Az xs ((k:Int),l.set k (a*fr.iJ b))) True ?_ (fun _=>?_)
  ·refine ao (X:=(True/\True/\(0<=(k:Int)/\(k:Int)<(↑(xs.length:Int).toNat:Int))/\(k:Int).toNat<(xs.length:Int).toNat/\(Az xs ((k:Int),l.set k (a*fr.iJ b))).ah True)) (by kernel_rfl) ?_
   exact⟨trivial,trivial,⟨by omega,by omega⟩,by omega,aA trivial⟩
  refine ig ?_
  refine bf hsp mixed _ _ ?_
  refine ao (X:=((Az xs (i64.wrap ((k:Int)+1),l.set k (a*fr.iJ b))).ah (w2J xs (i64.wrap ((k:Int)+1),l.set k (a*fr.iJ b))/\xs.length-(i64.wrap ((k:Int)+1)).toNat<xs.length-k))) (by kernel_rfl) ?_
  rw[aQ (by omega)]
  refine aA ⟨⟨k+1,hlt,rfl,?_⟩,by rw[Int.toNat_natCast];omega⟩
  show l.set k (a*fr.iJ b)=_
  rw[kl,ka,kb,<- abr hr9 hxk,List.set_append_right _ _ (by simp;omega),List.take_succ_eq_append_getElem hlt,hxx]
  have e:xs.length-k=(xs.length-(k+1))+1:=by omega
  have e2:k-((xs.take k).map (tZ xs)).length=0:=by simp;omega
  rw[e2,e,List.replicate_succ,List.set_cons_zero,List.map_append,List.append_assoc]
  rfl
 rintro⟨i,l⟩ hj
 revert i l
 intro (i:Int) (l:List Fr) (hj:l=xs.map (tZ xs))
 refine bf hsp mixed _ _ ?_
 refine ao (X:=(0+(xs.length:Int).toNat<=(xs.length:Int).toNat/\(List.take (xs.length:Int).toNat l,0,())=mn (xs,()))) (by kernel_rfl) ?_
 rw[Int.toNat_natCast]
 refine⟨by omega,?_⟩
 show (_,_,())=(gD xs,im [] xs,())
 rw[hj,gD,if_pos h0,h0,List.take_of_length_le (by simp)]
def E1:Nat × Eng.Spec:=(139,ar [.sl (.int .i64)] [.own .fr,.val (.int .i64)] wF mn)
end
end Go.Proofs.YtbeeaekepmnfhaaGreatDoor.poly
namespace Go.Proofs.YtbeeaekepmnfhaaGreatDoor.poly
open Go Go.Eng Go.RowKit Cr
noncomputable def KD (ws:List Fr) (ts:List (Fr)):Nat->Fr
 | 0=>0
 | k+1=>KD ws ts k+(ts.getD k 0)*(ws.getD k 0)
noncomputable def R8 (xs:List Int) (ts:List (Fr)):(Fr) × Int:=if xs.length=ts.length then (if im [] xs=0 then (KD (gD xs) ts xs.length,0) else (0,im [] xs)) else (0,1)
end Go.Proofs.YtbeeaekepmnfhaaGreatDoor.poly
namespace Go.Proofs.YtbeeaekepmnfhaaGreatDoor.poly
open Go Go.Eng Go.RowKit Cr Rg Fd
theorem U7 {x:Int} (hx:nh x) (e:Fr):Dn x (g1.a6 g1.gG e)=g1.a6 g1.gG (e*zm x):=by
 obtain⟨b1,b2,b3⟩:=JG hx
 have hz:=CV hx
 have hs:=g1.gQ g1.lG e
 have e1:g1.eY (g1.a6 g1.gG e) (hO x)=g1.a6 g1.gG (e*zm (eE x)):=by
  rw[g1.zA hs.1 b1,b3,g1.pJ g1.lG]
  refine (g1.qB hs ?_).symm
  show eE x%Mr=_
  rw[Int.toNat_of_nonneg hz.1];rfl
 unfold Dn
 rw[e1]
 unfold eE
 by_cases h:x<0
 ·rw[if_pos h,if_pos h,g1.va,<- g1.mul_neg g1.lG,<- mul_neg,y7,Int.neg_neg]
 ·rw[if_neg h,if_neg h]
theorem JH {x:Int} (hx:nh x):∀ p:List Fr,eT x (de p)=g1.a6 g1.gG (pat p x)
 | []=>by
  rw[vm]
  show (0,0)=g1.a6 g1.gG 0
  rw[g1.mul_zero g1.lG]
 | a::p=>by
  show g1.dR (Dn x (eT x (de p))) (g1.a6 g1.gG a)=_
  rw[JH hx p,U7 hx,g1.pE (g1.gQ g1.lG _).1 (g1.gQ g1.lG _).1,<- g1.mul_add g1.lG,vm,vm]
  rfl
theorem K7 {F:Type} [Rg F]:∀ (l:List F) (a:F),sm (l++[a])=sm l+a
 | [],a=>by show a+0=0+a;rw[Rg.add_comm]
 | b::l,a=>by show b+sm (l++[a])=b+sm l+a;rw[K7 l a,Rg.add_assoc]
theorem getD_map {α β:Type} (f:α->β) {l:List α} {k:Nat} (h:k<l.length) (d:β):(l.map f).getD k d=f l[k]:=by
 rw[List.getD_eq_getElem?_getD,List.getElem?_map,List.getElem?_eq_getElem h];rfl
theorem KE (xs:List Int) (g f:Int->Fr):∀ k,k<=xs.length->KD (xs.map g) (xs.map f) k=sm ((xs.take k).map fun x=>g x*f x)
 | 0,_=>rfl
 | k+1,h=>by
  have hk:k<xs.length:=h
  rw[KD,KE xs g f k (by omega),getD_map f hk,getD_map g hk,List.take_succ_eq_append_getElem hk,List.map_append,List.map_cons,List.map_nil,K7,mul_comm (f _)]
theorem Sc {xs:List Int} (h:∀ x∈xs,1<=x/\x<=9) (hd:xs.Nodup):(xs.map fun y=>(zm y:Fr)).Nodup:=by
 induction xs with
 | nil=>exact List.nodup_nil
 | cons a l ih =>
  obtain⟨h1,h2⟩:=List.nodup_cons.1 hd
  refine List.nodup_cons.2 ⟨fun hm=>?_,ih (fun x hx=>h x (by simp[hx])) h2⟩
  obtain⟨y,hy,e⟩:=List.mem_map.1 hm
  exact h1 (LJ (h y (by simp[hy])) (h a (by simp)) e▸hy)
theorem Wv {xs:List Int} (h:im [] xs=0) {q:List Fr} (hq:q.length<=xs.length):sm (xs.map fun x=>tZ xs x*bS q (zm x))=bS q 0:=by
 obtain⟨h1,h2⟩:=Cw h
 have hl:=A6 (Sc (fun x hx=>(h1 x hx).1) h2) q (by simpa using hq)
 rw[List.map_map] at hl
 rw[<- hl]
 refine wP fun x _=>?_
 rw[tZ,ay];rfl
theorem ZV {xs:List Int} (h:im [] xs=0) {p:List Fr} (hp:p.length<=xs.length):R8 xs (xs.map (pat p))=(pat p 0,0):=by
 rw[R8,if_pos (by simp),if_pos h,gD,if_pos h,KE xs _ _ _ (Nat.le_refl _),List.take_length,vm,<- show (0:Fr)=zm 0 from rfl,<- Wv h hp]
 congr 1
 refine wP fun x _=>?_
 rw[vm]
end Go.Proofs.YtbeeaekepmnfhaaGreatDoor.poly
namespace Go.Proofs.YtbeeaekepmnfhaaGreatDoor.fr
open Go Go.Eng Go.RowKit Cr
end Go.Proofs.YtbeeaekepmnfhaaGreatDoor.fr
open Go.IntKind(i64 u8)
namespace Go.Proofs.YtbeeaekepmnfhaaGreatDoor.law24
noncomputable section
open Go Go.Eng Go.RowKit Cr poly
theorem Rk:enters Tryz.prog 33 Tryz.f33:=ek
def ZS (b:List Int) (i:Nat):Fr:=cr (zm (num (b++[u8.wrap (i:Int),79])))
def qY (b:List Int) (n:Nat):List Fr:=(List.range n).map (ZS b)
def TX (b:List Int) (n:Nat) (g:Int × Nat × List Fr):St:=aY Tryz.f33.ntmps 32 [(0,.is (.one (.ro (.int .u8) b))),(1,sI .i64 n),(5,.is (.one (.sl 8 0 0 g.2.1 4))),(6,sI .i64 g.1)] [(8,[.row .fr g.2.1 g.2.2])]
def mdU (b:List Int) (g:Nat × List Fr):St:=aY Tryz.f33.ntmps 32 [(5,.is (.one (.sl 8 0 0 g.1 4)))] [(8,[.row .fr g.1 g.2])]
def mdJ (b:List Int) (n:Nat) (g:Int × Nat × List Fr):Prop:=g.2.1<=n/\g.1=(g.2.1:Int)/\g.2.2=qY b g.2.1
abbrev ML:HL [ij,.int .i64]->Prop:=fun (b,n,_)=>(Bs b/\List.length b<=100)/\1<=(n:Int)/\(n:Int)<=3
theorem VO:aB Tryz.prog 33 [ij,.int .i64] [.own .fr] aM ML (fun (b,n,_)=>(qY b (n:Int).toNat,())):=by
 have hsp:aN Tryz.prog (aF [ref01.CO,fr.yS]):=(ai (ak ref01.Kb) (ai (ak fr.DC) aR))
 refine bh (sp:=aF [ref01.CO,fr.yS]) Rk (by decide) (by decide) (by kernel_rfl) ?_
 rintro w M0 ⟨b,n0,⟨⟩⟩
 revert b n0
 intro (b:List Int) (n0:Int) _ ⟨⟨hb,hbl⟩,hn1,hn2⟩
 have hb:Bs b:=hb
 have hbl:b.length<=100:=hbl
 obtain⟨n,rfl⟩:∃ n:Nat,n0=(n:Int):=⟨n0.toNat,by have hn1:1<=n0:=hn1;omega⟩
 have hn1:1<=(n:Int):=hn1
 have hn2:(n:Int)<=3:=hn2
 show Tr _ _ _ _ _ _ _
 refine aP hsp mixed 3 (TX b n (0,0,[])) True ?_ (fun _=>?_)
 ·refine ao (X:=((TX b n (0,0,[])).ah True)) (by kernel_rfl) ?_
  exact aA trivial
 refine bO hsp mixed (fun σ=>[(8,PO 5 σ)]) (fun σ=>(bU (.int .i64) 6 σ,yD 5 σ,cN .fr 8 σ)) (TX b n) (mdJ b n) (fun g=>n-g.2.1)
  (fun σ=>(yD 5 σ,cN .fr 8 σ)) (mdU b) (fun g=>g=(n,qY b n)) (0,0,[]) (c:=aI (aJ Tryz.f33) 3) (by kernel_rfl) (by kernel_rfl) (aC (by kernel_rfl) (by kernel_rfl) ?_) ?_ ?_
 ·exact⟨Nat.zero_le _,rfl,rfl⟩
 ·rintro⟨i,k,l⟩ hj
  revert i l
  intro (i:Int) (l:List Fr) ⟨hk,ei,el⟩
  have ei:i=(k:Int):=ei
  subst ei
  have hk:k<=n:=hk
  have el:l=qY b k:=el
  refine ao (X:=((decide ((k:Int)<(n:Int))=true->ref01.zI (b,())/\0+2<=2/\b.length<=b.length/\(b.length+2)*1<=140737488355328/\b.length+2<=4611686018427387904/\0+(b.length+2)<=b.length+2/\fr.mo (List.take (b.length+2) (List.take b.length b++List.take 2 [u8.wrap (k:Int),79]),())/\0+1<=1/\k<=k/\(k+1)*32<=140737488355328/\k+1<=4611686018427387904/\(TX b n (i64.wrap ((k:Int)+1),k+1,List.take k l++List.take 1 [Fc (num (List.take (b.length+2) (List.take b.length b++List.take 2 [u8.wrap (k:Int),79])))])).ah (mdJ b n (i64.wrap ((k:Int)+1),k+1,List.take k l++List.take 1 [Fc (num (List.take (b.length+2) (List.take b.length b++List.take 2 [u8.wrap (k:Int),79])))])/\n-(k+1)<n-k))/\(decide ((k:Int)<(n:Int))=false->(mdU b (k,l)).ah ((k,l)=(n,qY b n))))) (by kernel_rfl) ?_
  have hll:l.length=k:=by rw[el,qY,List.length_map,List.length_range]
  have tb:(b++[u8.wrap (k:Int),79]).length=b.length+2:=by rw[List.length_append];rfl
  have t2:List.take 2 [u8.wrap (k:Int),79]=[u8.wrap (k:Int),79]:=rfl
  have hbb:Bs (b++[u8.wrap (k:Int),79]):=by
   intro y hy
   rcases List.mem_append.1 hy with hy|hy
   ·exact hb y hy
   ·simp only[List.mem_cons,List.not_mem_nil,or_false] at hy
    rcases hy with rfl|rfl
    ·simp[IntKind.wrap,IntKind.signed,IntKind.bits];omega
    ·decide
  rw[List.take_length,t2,List.take_of_length_le (Nat.le_of_eq tb),List.take_of_length_le (Nat.le_of_eq hll)]
  refine⟨fun h=>?_,fun h=>aA ?_⟩
  ·have hlt:k<n:=by have:=Odt h;omega
   rw[aG (show -9223372036854775808<=(k:Int)+1 by omega) (by omega)]
   refine⟨by show b.length<=_;omega,by decide,Nat.le_refl _,by omega,by omega,by omega,⟨hbb,by show List.length _<_;rw[tb];omega⟩,by decide,Nat.le_refl _,by omega,by omega,aA ⟨⟨hlt,rfl,?_⟩,by omega⟩⟩
   show l++[_]=qY b (k+1)
   rw[qY,List.range_succ,List.map_append,<- qY,<- el]
   show l++[_]=l++[ZS b k]
   rw[ZS,ay]
  ·have:k=n:=by have:=Odf h;omega
   rw[el,this]
 rintro _ rfl
 refine bf hsp mixed _ _ ?_
 refine ao (X:=(0+n<=n/\(List.take n (qY b n),())=(qY b (n:Int).toNat,()))) (by kernel_rfl) ?_
 exact⟨by omega,by rw[List.take_of_length_le (by rw[qY,List.length_map,List.length_range];exact Nat.le_refl _),Int.toNat_natCast]⟩
def Qh:Nat × Eng.Spec:=(33,ar [ij,.int .i64] [.own .fr] ML (fun (b,n,_)=>(qY b (n:Int).toNat,())))
end
end Go.Proofs.YtbeeaekepmnfhaaGreatDoor.law24
namespace Cr
open Rg Fd Go.Eng
abbrev F2:=Fp × Fp
instance : Zero F2 := ⟨((0 : Fp), (0 : Fp))⟩
instance : One F2 := ⟨((1 : Fp), (0 : Fp))⟩
noncomputable instance:Add F2:=⟨fun x y=>cr (x.1+y.1,x.2+y.2)⟩
noncomputable instance:Sub F2:=⟨fun x y=>cr (x.1-y.1,x.2-y.2)⟩
noncomputable instance:Neg F2:=⟨fun x=>cr (-x.1,-x.2)⟩
noncomputable instance:Mul F2:=⟨fun x y=>cr (x.1*y.1-x.2*y.2,x.1*y.2+x.2*y.1)⟩
theorem F2.add_def (x y:F2):x+y=(x.1+y.1,x.2+y.2):=ay _
theorem F2.sub_def (x y:F2):x-y=(x.1-y.1,x.2-y.2):=ay _
theorem F2.neg_def (x:F2) : -x=(-x.1,-x.2):=ay _
theorem F2.mul_def (x y:F2):x*y=(x.1*y.1-x.2*y.2,x.1*y.2+x.2*y.1):=ay _
theorem F2.ext {x y:F2} (h1:x.1=y.1) (h2:x.2=y.2):x=y:=Prod.ext h1 h2
theorem F2.rV (x y:F2):(x+y).1=x.1+y.1:=by rw[F2.add_def]
theorem F2.xr (x y:F2):(x+y).2=x.2+y.2:=by rw[F2.add_def]
theorem F2.af7 (x y:F2):(x-y).1=x.1-y.1:=by rw[F2.sub_def]
theorem F2.af8 (x y:F2):(x-y).2=x.2-y.2:=by rw[F2.sub_def]
theorem F2.Sa (x:F2):(-x).1=-x.1:=by rw[F2.neg_def]
theorem F2.Sb (x:F2):(-x).2=-x.2:=by rw[F2.neg_def]
theorem F2.mC (x y:F2):(x*y).1=x.1*y.1-x.2*y.2:=by rw[F2.mul_def]
theorem F2.gK (x y:F2):(x*y).2=x.1*y.2+x.2*y.1:=by rw[F2.mul_def]
theorem F2.ady:(0:F2).1=0:=rfl
theorem F2.adz:(0:F2).2=0:=rfl
theorem F2.Z7:(1:F2).1=1:=rfl
theorem F2.Z8:(1:F2).2=0:=rfl
theorem Yv {F:Type} [Rg F] (a b c d e f:F):(a*c-b*d)*e-(a*d+b*c)*f=a*(c*e-d*f)-b*(c*f+d*e) :=
 aL [a,b,c,d,e,f] ((fun (a b c d e f:PE)=>((a*c-b*d)*e-(a*d+b*c)*f)) (.v 0) (.v 1) (.v 2) (.v 3) (.v 4) (.v 5)) ((fun (a b c d e f:PE)=>(a*(c*e-d*f)-b*(c*f+d*e))) (.v 0) (.v 1) (.v 2) (.v 3) (.v 4) (.v 5)) (by kernel_rfl)
theorem Yw {F:Type} [Rg F] (a b c d e f:F):(a*c-b*d)*f+(a*d+b*c)*e=a*(c*f+d*e)+b*(c*e-d*f) :=
 aL [a,b,c,d,e,f] ((fun (a b c d e f:PE)=>((a*c-b*d)*f+(a*d+b*c)*e)) (.v 0) (.v 1) (.v 2) (.v 3) (.v 4) (.v 5)) ((fun (a b c d e f:PE)=>(a*(c*f+d*e)+b*(c*e-d*f))) (.v 0) (.v 1) (.v 2) (.v 3) (.v 4) (.v 5)) (by kernel_rfl)
theorem Yx {F:Type} [Rg F] (a b c d:F):a*c-b*d=c*a-d*b :=
 aL [a,b,c,d] ((fun (a b c d:PE)=>(a*c-b*d)) (.v 0) (.v 1) (.v 2) (.v 3)) ((fun (a b c d:PE)=>(c*a-d*b)) (.v 0) (.v 1) (.v 2) (.v 3)) (by kernel_rfl)
theorem Yy {F:Type} [Rg F] (a b c d:F):a*d+b*c=c*b+d*a :=
 aL [a,b,c,d] ((fun (a b c d:PE)=>(a*d+b*c)) (.v 0) (.v 1) (.v 2) (.v 3)) ((fun (a b c d:PE)=>(c*b+d*a)) (.v 0) (.v 1) (.v 2) (.v 3)) (by kernel_rfl)
theorem YC {F:Type} [Rg F] (a b:F):1*a-0*b=a :=
 aL [a,b] ((fun (a b:PE)=>(1*a-0*b)) (.v 0) (.v 1)) ((fun (a b:PE)=>(a)) (.v 0) (.v 1)) (by kernel_rfl)
theorem YD {F:Type} [Rg F] (a b:F):1*b+0*a=b :=
 aL [a,b] ((fun (a b:PE)=>(1*b+0*a)) (.v 0) (.v 1)) ((fun (a b:PE)=>(b)) (.v 0) (.v 1)) (by kernel_rfl)
theorem Yt {F:Type} [Rg F] (a b c d e f:F):(a+c)*e-(b+d)*f=a*e-b*f+(c*e-d*f) :=
 aL [a,b,c,d,e,f] ((fun (a b c d e f:PE)=>((a+c)*e-(b+d)*f)) (.v 0) (.v 1) (.v 2) (.v 3) (.v 4) (.v 5)) ((fun (a b c d e f:PE)=>(a*e-b*f+(c*e-d*f))) (.v 0) (.v 1) (.v 2) (.v 3) (.v 4) (.v 5)) (by kernel_rfl)
theorem Yu {F:Type} [Rg F] (a b c d e f:F):(a+c)*f+(b+d)*e=a*f+b*e+(c*f+d*e) :=
 aL [a,b,c,d,e,f] ((fun (a b c d e f:PE)=>((a+c)*f+(b+d)*e)) (.v 0) (.v 1) (.v 2) (.v 3) (.v 4) (.v 5)) ((fun (a b c d e f:PE)=>(a*f+b*e+(c*f+d*e))) (.v 0) (.v 1) (.v 2) (.v 3) (.v 4) (.v 5)) (by kernel_rfl)
theorem YB {F:Type} [Rg F] (a b c d:F):(a+b)*(c+d)-a*c-b*d=a*d+b*c :=
 aL [a,b,c,d] ((fun (a b c d:PE)=>((a+b)*(c+d)-a*c-b*d)) (.v 0) (.v 1) (.v 2) (.v 3)) ((fun (a b c d:PE)=>(a*d+b*c)) (.v 0) (.v 1) (.v 2) (.v 3)) (by kernel_rfl)
theorem YE {F:Type} [Rg F] (a b:F):(a+b)*(a-b)=a*a-b*b :=
 aL [a,b] ((fun (a b:PE)=>((a+b)*(a-b))) (.v 0) (.v 1)) ((fun (a b:PE)=>(a*a-b*b)) (.v 0) (.v 1)) (by kernel_rfl)
theorem YF {F:Type} [Rg F] (a b:F):a*b+a*b=a*b+b*a :=
 aL [a,b] ((fun (a b:PE)=>(a*b+a*b)) (.v 0) (.v 1)) ((fun (a b:PE)=>(a*b+b*a)) (.v 0) (.v 1)) (by kernel_rfl)
noncomputable instance rgF2:Rg F2 where
 add_comm a b:=F2.ext (by simp only[F2.rV,add_comm]) (by simp only[F2.xr,add_comm])
 add_assoc a b c:=F2.ext (by simp only[F2.rV,add_assoc]) (by simp only[F2.xr,add_assoc])
 zero_add a:=F2.ext (by rw[F2.rV,F2.ady,zero_add]) (by rw[F2.xr,F2.adz,zero_add])
 neg_add a:=F2.ext (by rw[F2.rV,F2.Sa,neg_add];rfl) (by rw[F2.xr,F2.Sb,neg_add];rfl)
 sub_def a b:=F2.ext (by rw[F2.rV,F2.af7,F2.Sa,sub_def]) (by rw[F2.xr,F2.af8,F2.Sb,sub_def])
 mul_comm a b:=F2.ext (by rw[F2.mC,F2.mC,Yx]) (by rw[F2.gK,F2.gK,Yy])
 mul_assoc a b c:=F2.ext (by simp only[F2.mC,F2.gK];exact Yv _ _ _ _ _ _) (by simp only[F2.mC,F2.gK];exact Yw _ _ _ _ _ _)
 one_mul a:=F2.ext (by rw[F2.mC,F2.Z7,F2.Z8,YC]) (by rw[F2.gK,F2.Z7,F2.Z8,YD])
 add_mul a b c:=F2.ext (by simp only[F2.mC,F2.rV,F2.xr];exact Yt _ _ _ _ _ _) (by simp only[F2.gK,F2.rV,F2.xr];exact Yu _ _ _ _ _ _)
section
variable {M:Int} [Md M]
theorem Ab (x:Zm M) (n:Nat):zpow x (2*n)=zpow (x*x) n:=by
 induction n with
 | zero=>rfl
 | succ n ih=>show zpow x (2*n)*x*x=zpow (x*x) n*(x*x);rw[ih,mul_assoc]
theorem Xx (n:Nat):zpow (-1:Zm M) (2*n+1)=-1:=by
 show zpow (-1:Zm M) (2*n) * -1=-1
 rw[Ab]
 have:(-1:Zm M) * -1=1:=by rw[neg_mul,mul_neg,neg_neg,mul_one]
 rw[this]
 have h1:∀ n,zpow (1:Zm M) n=1:=by
  intro n
  induction n with
  | zero=>rfl
  | succ n ih=>show zpow (1:Zm M) n*1=1;rw[ih,mul_one]
 rw[h1,one_mul]
end
theorem WE {x:Fp} (h:x*x=-1):False:=by
 have hx:x≠0:=by
  intro e
  rw[e,zero_mul] at h
  exact absurd h (by decide)
 have h1:=uc BK Fz hx (n:=4002409555221667393417789825735904156556882819939007885332058136124031650490837864442687629129015664037894272559785) (Odt (by kernel_rfl))
 have h2:=Ab x (2*1000602388805416848354447456433976039139220704984751971333014534031007912622709466110671907282253916009473568139946+1)
 rw[h,Xx] at h2
 have h3:zpow x (2*(2*1000602388805416848354447456433976039139220704984751971333014534031007912622709466110671907282253916009473568139946+1))=zpow x (4002409555221667393417789825735904156556882819939007885332058136124031650490837864442687629129015664037894272559785+1):=congrArg (zpow x) (Odt (by kernel_rfl))
 rw[h3] at h2
 have h4:zpow x (4002409555221667393417789825735904156556882819939007885332058136124031650490837864442687629129015664037894272559785+1)=zpow x 4002409555221667393417789825735904156556882819939007885332058136124031650490837864442687629129015664037894272559785*x:=rfl
 rw[h4,mul_comm,h1] at h2
 exact absurd h2 (by decide)
theorem abN {F:Type} [Rg F] (a b i:F):(a*i)*(a*i)-(-1)=(i*i)*(a*a+b*b)-(b*i+1)*(b*i-1) :=
 aL [a,b,i] ((fun (a b i:PE)=>((a*i)*(a*i)-(-1))) (.v 0) (.v 1) (.v 2)) ((fun (a b i:PE)=>((i*i)*(a*a+b*b)-(b*i+1)*(b*i-1))) (.v 0) (.v 1) (.v 2)) (by kernel_rfl)
theorem Yz {F:Type} [Rg F] (a b n:F):a*(a*n)-b*(-b*n)=(a*a+b*b)*n :=
 aL [a,b,n] ((fun (a b n:PE)=>(a*(a*n)-b*(-b*n))) (.v 0) (.v 1) (.v 2)) ((fun (a b n:PE)=>((a*a+b*b)*n)) (.v 0) (.v 1) (.v 2)) (by kernel_rfl)
theorem YA {F:Type} [Rg F] (a b n:F):a*(-b*n)+b*(a*n)=0 :=
 aL [a,b,n] ((fun (a b n:PE)=>(a*(-b*n)+b*(a*n))) (.v 0) (.v 1) (.v 2)) ((fun (a b n:PE)=>(0)) (.v 0) (.v 1) (.v 2)) (by kernel_rfl)
theorem WG {x:F2} (h:x≠0):x.1*x.1+x.2*x.2≠0:=by
 intro e
 by_cases hb:x.2=0
 ·rw[hb,mul_zero,add_zero] at e
  have ha:x.1=0:=by rcases mul_eq_zero e with e|e<;>exact e
  exact h (F2.ext ha hb)
 ·have hi:=mul_inv x.2 hb
  refine WE (x:=x.1*inv x.2) (bq ?_)
  rw[abN _ x.2,e,hi,sub_self,mul_zero,mul_zero,sub_self]
noncomputable def inv2 (x:F2):F2:=cr (x.1*inv (x.1*x.1+x.2*x.2),-x.2*inv (x.1*x.1+x.2*x.2))
theorem A4 (x:F2):inv2 x=(x.1*inv (x.1*x.1+x.2*x.2),-x.2*inv (x.1*x.1+x.2*x.2)):=ay _
noncomputable instance fdF2:Fd F2 where
 deq:=inferInstanceAs (DecidableEq (Fp × Fp))
 inv:=inv2
 mul_inv x h:=by
  have hn:=mul_inv _ (WG h)
  rw[A4]
  refine F2.ext ?_ ?_
  ·rw[F2.mC]
   show x.1*(x.1*_)-x.2*(-x.2*_)=1
   rw[Yz,hn]
  ·rw[F2.gK]
   show x.1*(-x.2*_)+x.2*(x.1*_)=0
   rw[YA]
 one_ne:=fun h=>absurd (congrArg Prod.fst h) (by decide)
 two_ne:=fun h=>absurd (congrArg Prod.fst h) (by rw[F2.rV];decide)
 three_ne:=fun h=>absurd (congrArg Prod.fst h) (by rw[F2.rV,F2.rV];decide)
end Cr
open Go.IntKind(i64 u64)
namespace Go.Proofs.YtbeeaekepmnfhaaGreatDoor.fp
noncomputable section
open Go Go.Eng Go.RowKit Cr
theorem AT:enters Tryz.prog 166 Tryz.f166:=ek
def Ee (x:Fp) (g:Int × List Int):St:=aY Tryz.f166.ntmps 56 [(1,.is (.one (.ptr 0 0))),(2,.is (.one (.ptr 8 0))),(4,.is (.one (.ptr 32 0))),(8,sI .i64 g.1)] [(0,[.row .fp 1 [x]]),(8,[.row .fp 1 [(0:Fp)]]),(32,[.ints .u64 6 g.2])]
def SP (g:Int × List Int):Int × List Int:=(i64.wrap (g.1+1),g.2.set g.1.toNat (av .or .u64 (Int.fdiv (g.2.getD g.1.toNat 0) (2^min (Int.toNat 2) u64.bits)) (u64.wrap (g.2.getD (i64.wrap (g.1+1)).toNat 0*2^min (Int.toNat 62) u64.bits))))
def SM:List Int:=[13402431016077863596,2210141511517208575,7435674573564081700,7239337960414712511,5412103778470702295,1873798617647539866]
def wT:Nat->Int × List Int
 | 0=>(0,SM)
 | k+1=>SP (wT k)
def wS (es:List Int):List Int:=es.set 5 (Int.fdiv ((es.drop 5).getD 0 0) (2^min (Int.toNat 2) u64.bits))
theorem SO:∀ k,k<=5->(wT k).1=(k:Int):=by
 intro k
 induction k with
 | zero=>intro _;rfl
 | succ k ih=>intro h;show i64.wrap ((wT k).1+1)=_;rw[ih (by omega),aQ (by omega)]
def oh:Int:=1000602388805416848354447456433976039139220704984751971333014534031007912622709466110671907282253916009473568139947
theorem SN:val (wS (wT 5).2)=oh:=by decide +kernel
theorem Xf:Ws (wS (wT 5).2):=by
 intro x hx
 have e:wS (wT 5).2=aK 6 oh:=by decide +kernel
 rw[e] at hx
 exact iB _ _ x hx
def aT (x:Fp):Fp × Bool:=if jG x oh*jG x oh=x then (jG x oh,true) else (0,false)
abbrev ik:HL [.fp]->HO [.val .fp,.val .bool]:=fun (x,_)=>((aT x).1,(aT x).2,())
theorem zu:aB Tryz.prog 166 [.fp] [.val .fp,.val .bool] aM (fun _=>True) ik:=by
 have hsp:aN Tryz.prog (aF [pX,bJ]):=ai (ak pC) (ai (ak b9) aR)
 refine bh (sp:=aF [pX,bJ]) AT (by decide) (by decide) (by kernel_rfl) ?_
 rintro w M0 ⟨x,⟨⟩⟩ _ _
 show Tr _ _ _ _ _ _ _
 refine aP hsp mixed 3 (Ee x (0,SM)) True ?_ (fun _=>?_)
 ·refine ao (X:=(Ee x (0,SM)).ah True) (by kernel_rfl) (aA trivial)
 refine dB hsp mixed (Ee x) wT 5 SP (Ee x) (c:=aI (aJ Tryz.f166) 3) (by kernel_rfl) (by kernel_rfl) (aC (by kernel_rfl) (by kernel_rfl) trivial) (fun k hk=>rfl) ?_ ?_
 ·intro k hk
  have hf:=SO k hk
  generalize wT k=g at *
  obtain⟨i,es⟩:=g
  simp only at hf
  subst hf
  refine ao (X:=((decide ((k:Int)<5)=true->(0<=(k:Int)/\(k:Int)<(6:Int))/\(k:Int).toNat<6/\(0:Int)<=2/\(0<=i64.wrap ((k:Int)+1)/\i64.wrap ((k:Int)+1)<(6:Int))/\(i64.wrap ((k:Int)+1)).toNat<6/\(0:Int)<=62/\(0<=(k:Int)/\(k:Int)<(6:Int))/\(k:Int).toNat<6/\(Ee x (SP ((k:Int),es))).ah (k<5)) /\
   (decide ((k:Int)<5)=false->(Ee x ((k:Int),es)).ah (k=5)))) (by kernel_rfl) ?_
  refine⟨fun h=>?_,fun h=>aA (by have:=dk h;omega)⟩
  have hlt:k<5:=by have:=dec_lt h;omega
  rw[aQ (by omega)]
  exact⟨⟨by omega,by omega⟩,by omega,by decide,⟨by omega,by omega⟩,by omega,by decide,⟨by omega,by omega⟩,by omega,aA hlt⟩
 have hv:=SN
 have hw:=Xf
 generalize wT 5=g at *
 obtain⟨i,es⟩:=g
 simp only at hv hw
 refine bf hsp mixed _ _ ?_
 refine ao (X:=((0:Int)<=2/\5<6/\lV (x,wS es,())/\True /\
  (((!decide (jG x (val (wS es))*jG x (val (wS es))=x))=true->(((0:Fp),false,())=ik (x,()))) /\
   ((!decide (jG x (val (wS es))*jG x (val (wS es))=x))=false->((jG x (val (wS es)),true,())=ik (x,())))))) (by kernel_rfl) ?_
 rw[hv]
 refine⟨by decide,by decide,hw,trivial,fun h=>?_,fun h=>?_⟩
 ·have h:¬ jG x oh*jG x oh=x:=by simpa using h
  simp[ik,aT,h]
 ·have h:jG x oh*jG x oh=x:=by simpa using h
  simp[ik,aT,h]
def yO:Nat × Eng.Spec:=(166,ar [.fp] [.val .fp,.val .bool] (fun _=>True) ik)
end
end Go.Proofs.YtbeeaekepmnfhaaGreatDoor.fp
namespace Go.Proofs.YtbeeaekepmnfhaaGreatDoor.fp2
noncomputable section
open Go Go.Eng Go.RowKit Cr
abbrev f2:Kd:=.pair .fp .fp
theorem Ym (a b:F2):gm (.pair .fp .fp) a b=decide (a=b):=by
 have h:=lh (e:=.pair .fp .fp) a b
 rw[Bool.eq_iff_iff,h,decide_eq_true_iff]
theorem xT:enters Tryz.prog 67 Tryz.f67:=ek
abbrev Be:HL [.int .u64,.int .u64]->HO [.val f2]:=fun (a,b,_)=>((zm a,zm b),())
theorem lK:aB Tryz.prog 67 [.int .u64,.int .u64] [.val f2] aM (fun (a,b,_)=>dF a/\dF b) Be:=by
 refine ax (sp:=aF [fp.ly]) (ai (ak fp.nL) aR) mixed xT (by decide) (by decide) ?_
 rintro w M0 ⟨a,b,⟨⟩⟩
 revert a b
 intro (a:Int) (b:Int) _ hp
 refine ao (X:=(dF a/\dF b/\((aj a,aj b),())=Be (a,b,()))) (by kernel_rfl) ?_
 exact⟨hp.1,hp.2,rfl⟩
def ln:Nat × Eng.Spec:=(67,ar [.int .u64,.int .u64] [.val f2] (fun (a,b,_)=>dF a/\dF b) Be)
theorem AV:enters Tryz.prog 146 Tryz.f146:=ek
abbrev pO:HL [f2]->HO [.val .bool]:=fun (x,_)=>(decide ((x:F2)=0),())
theorem jh:aB Tryz.prog 146 [f2] [.val .bool] aM (fun _=>True) pO:=by
 refine ax (sp:=aF []) aR mixed AV (by decide) (by decide) ?_
 rintro w M0 ⟨x,⟨⟩⟩
 revert x
 intro (x:F2) _ _
 refine ao (X:=((gm (Kd.fp.pair Kd.fp) x ((0:Fp),(0:Fp)),())=pO (x,()))) (by kernel_rfl) ?_
 rw[Ym];rfl
def k9:Nat × Eng.Spec:=(146,ar [f2] [.val .bool] (fun _=>True) pO)
theorem j9:enters Tryz.prog 27 Tryz.f27:=ek
abbrev dO:HL [f2,f2]->HO [.val f2]:=fun (x,y,_)=>((x:F2)+y,())
theorem cC:aB Tryz.prog 27 [f2,f2] [.val f2] aM (fun _=>True) dO:=by
 refine ax (sp:=aF [fp.cv]) (ai (ak fp.cC) aR) mixed j9 (by decide) (by decide) ?_
 rintro w M0 ⟨x,y,⟨⟩⟩
 revert x y
 intro (x:F2) (y:F2) _ _
 refine ao (X:=(True/\True/\((x.fst+y.fst,x.snd+y.snd),())=dO (x,y,()))) (by kernel_rfl) ?_
 exact⟨trivial,trivial,by show _=((x:F2)+y,());rw[F2.add_def]⟩
def cv:Nat × Eng.Spec:=(27,ar [f2,f2] [.val f2] (fun _=>True) dO)
theorem uU:enters Tryz.prog 147 Tryz.f147:=ek
abbrev kj:HL [f2,f2]->HO [.val f2]:=fun (x,y,_)=>((x:F2)-y,())
theorem gn:aB Tryz.prog 147 [f2,f2] [.val f2] aM (fun _=>True) kj:=by
 refine ax (sp:=aF [fp.iI]) (ai (ak fp.gn) aR) mixed uU (by decide) (by decide) ?_
 rintro w M0 ⟨x,y,⟨⟩⟩
 revert x y
 intro (x:F2) (y:F2) _ _
 refine ao (X:=(True/\True/\((x.fst-y.fst,x.snd-y.snd),())=kj (x,y,()))) (by kernel_rfl) ?_
 exact⟨trivial,trivial,by show _=((x:F2)-y,());rw[F2.sub_def]⟩
def iI:Nat × Eng.Spec:=(147,ar [f2,f2] [.val f2] (fun _=>True) kj)
theorem uS:enters Tryz.prog 112 Tryz.f112:=ek
abbrev lR:HL [f2]->HO [.val f2]:=fun (x,_)=>(-(x:F2),())
theorem iA:aB Tryz.prog 112 [f2] [.val f2] aM (fun _=>True) lR:=by
 refine ax (sp:=aF [fp.jb]) (ai (ak fp.iA) aR) mixed uS (by decide) (by decide) ?_
 rintro w M0 ⟨x,⟨⟩⟩
 revert x
 intro (x:F2) _ _
 refine ao (X:=(True/\True/\((-x.fst,-x.snd),())=lR (x,()))) (by kernel_rfl) ?_
 exact⟨trivial,trivial,by show _=(-(x:F2),());rw[F2.neg_def]⟩
def jb:Nat × Eng.Spec:=(112,ar [f2] [.val f2] (fun _=>True) lR)
theorem pk:enters Tryz.prog 66 Tryz.f66:=ek
abbrev iT:HL [f2,f2]->HO [.val f2]:=fun (x,y,_)=>((x:F2)*y,())
theorem cL:aB Tryz.prog 66 [f2,f2] [.val f2] aM (fun _=>True) iT:=by
 refine ax (sp:=aF [fp.cv,fp.iI,fp.cK]) (ai (ak fp.cC) (ai (ak fp.gn) (ai (ak fp.cL) aR))) mixed pk (by decide) (by decide) ?_
 rintro w M0 ⟨x,y,⟨⟩⟩
 revert x y
 intro (x:F2) (y:F2) _ _
 refine ao (X:=(True/\True/\True/\True/\True/\True/\True/\True/\((x.fst*y.fst-x.snd*y.snd,(x.fst+x.snd)*(y.fst+y.snd)-x.fst*y.fst-x.snd*y.snd),())=iT (x,y,()))) (by kernel_rfl) ?_
 refine⟨trivial,trivial,trivial,trivial,trivial,trivial,trivial,trivial,?_⟩
 show _=((x:F2)*y,())
 rw[F2.mul_def,YB]
def cK:Nat × Eng.Spec:=(66,ar [f2,f2] [.val f2] (fun _=>True) iT)
theorem kK:enters Tryz.prog 65 Tryz.f65:=ek
abbrev e9:HL [f2]->HO [.val f2]:=fun (x,_)=>((x:F2)*x,())
theorem b9:aB Tryz.prog 65 [f2] [.val f2] aM (fun _=>True) e9:=by
 refine ax (sp:=aF [fp.cv,fp.iI,fp.cK]) (ai (ak fp.cC) (ai (ak fp.gn) (ai (ak fp.cL) aR))) mixed kK (by decide) (by decide) ?_
 rintro w M0 ⟨x,⟨⟩⟩
 revert x
 intro (x:F2) _ _
 refine ao (X:=(True/\True/\True/\True/\True/\(((x.fst+x.snd)*(x.fst-x.snd),x.fst*x.snd+x.fst*x.snd),())=e9 (x,()))) (by kernel_rfl) ?_
 refine⟨trivial,trivial,trivial,trivial,trivial,?_⟩
 show _=((x:F2)*x,())
 rw[F2.mul_def,YE,YF]
def bJ:Nat × Eng.Spec:=(65,ar [f2] [.val f2] (fun _=>True) e9)
theorem AN:enters Tryz.prog 160 Tryz.f160:=ek
abbrev rB:HL [f2]->HO [.val f2]:=fun (x,_)=>((Prod.fst (x:F2),-Prod.snd (x:F2)),())
theorem u4:aB Tryz.prog 160 [f2] [.val f2] aM (fun _=>True) rB:=by
 refine ax (sp:=aF [fp.jb]) (ai (ak fp.iA) aR) mixed AN (by decide) (by decide) ?_
 rintro w M0 ⟨x,⟨⟩⟩
 revert x
 intro (x:F2) _ _
 refine ao (X:=(True/\((x.fst,-x.snd),())=rB (x,()))) (by kernel_rfl) ?_
 exact⟨trivial,rfl⟩
def H9:Nat × Eng.Spec:=(160,ar [f2] [.val f2] (fun _=>True) rB)
theorem xS:enters Tryz.prog 168 Tryz.f168:=ek
abbrev na:HL [f2,.fp]->HO [.val f2]:=fun (x,k,_)=>((Prod.fst (x:F2)*k,Prod.snd (x:F2)*k),())
theorem m6:aB Tryz.prog 168 [f2,.fp] [.val f2] aM (fun _=>True) na:=by
 refine ax (sp:=aF [fp.cK]) (ai (ak fp.cL) aR) mixed xS (by decide) (by decide) ?_
 rintro w M0 ⟨x,k,⟨⟩⟩
 revert x k
 intro (x:F2) (k:Fp) _ _
 refine ao (X:=(True/\True/\((x.fst*k,x.snd*k),())=na (x,k,()))) (by kernel_rfl) ?_
 exact⟨trivial,trivial,rfl⟩
def pY:Nat × Eng.Spec:=(168,ar [f2,.fp] [.val f2] (fun _=>True) na)
theorem Rn:enters Tryz.prog 167 Tryz.f167:=ek
abbrev DW:HL [f2]->HO [.val .fp]:=fun (x,_)=>(Prod.fst (x:F2)*Prod.fst (x:F2)+Prod.snd (x:F2)*Prod.snd (x:F2),())
theorem Kc:aB Tryz.prog 167 [f2] [.val .fp] aM (fun _=>True) DW:=by
 refine ax (sp:=aF [fp.cv,fp.bJ]) (ai (ak fp.cC) (ai (ak fp.b9) aR)) mixed Rn (by decide) (by decide) ?_
 rintro w M0 ⟨x,⟨⟩⟩
 revert x
 intro (x:F2) _ _
 refine ao (X:=(True/\True/\True/\(x.fst*x.fst+x.snd*x.snd,())=DW (x,()))) (by kernel_rfl) ?_
 exact⟨trivial,trivial,trivial,rfl⟩
def Qi:Nat × Eng.Spec:=(167,ar [f2] [.val .fp] (fun _=>True) DW)
theorem ph:enters Tryz.prog 148 Tryz.f148:=ek
abbrev jz:HL [f2]->HO [.val f2]:=fun (x,_)=>(inv2 x,())
theorem ke:aB Tryz.prog 148 [f2] [.val f2] aM (fun _=>True) jz:=by
 refine ax (sp:=aF [fp.mS,H9,Qi,pY]) (ai (ak fp.ke) (ai (ak u4) (ai (ak Kc) (ai (ak m6) aR)))) mixed ph (by decide) (by decide) ?_
 rintro w M0 ⟨x,⟨⟩⟩
 revert x
 intro (x:F2) _ _
 refine ao (X:=(True/\True/\True/\True/\((x.fst*fp.iJ (x.fst*x.fst+x.snd*x.snd),-x.snd*fp.iJ (x.fst*x.fst+x.snd*x.snd)),())=jz (x,()))) (by kernel_rfl) ?_
 refine⟨trivial,trivial,trivial,trivial,?_⟩
 show _=(inv2 x,())
 rw[A4];rfl
def mS:Nat × Eng.Spec:=(148,ar [f2] [.val f2] (fun _=>True) jz)
theorem Du:enters Tryz.prog 156 Tryz.f156:=ek
abbrev mH:HL [f2]->HO [.val .bool]:=fun (x,_)=>(if Prod.fst (x:F2)=0 then (fp.mH (Prod.snd (x:F2),())).1 else (fp.mH (Prod.fst (x:F2),())).1,())
theorem Gs:aB Tryz.prog 156 [f2] [.val .bool] aM (fun _=>True) mH:=by
 refine ax (sp:=aF [fp.k9,fp.ac9]) (ai (ak fp.jh) (ai (ak fp.Gs) aR)) mixed Du (by decide) (by decide) ?_
 rintro w M0 ⟨x,⟨⟩⟩
 revert x
 intro (x:F2) _ _
 refine ao (X:=(True/\(decide (x.fst=(0:Zm Mp))=true->True/\(decide (x.snd.v%(2:Int)=1),())=mH (x,()))/\(decide (x.fst=(0:Zm Mp))=false->True/\(decide (x.fst.v%(2:Int)=1),())=mH (x,())))) (by kernel_rfl) ?_
 refine⟨trivial,fun h=>⟨trivial,?_⟩,fun h=>⟨trivial,?_⟩⟩
 ·show _=(if x.1=0 then _ else _,())
  rw[if_pos (Odt h)]
 ·show _=(if x.1=0 then _ else _,())
  rw[if_neg (Odf h)]
end
end Go.Proofs.YtbeeaekepmnfhaaGreatDoor.fp2
namespace Cr
open Rg Fd
theorem q_a {F:Type} [Rg F] (a b n:F):(a+n)*(a+n)-b*b-a*(a+n+(a+n))=n*n-(a*a+b*b) :=
 aL [a,b,n] ((fun (a b n:PE)=>((a+n)*(a+n)-b*b-a*(a+n+(a+n)))) (.v 0) (.v 1) (.v 2)) ((fun (a b n:PE)=>(n*n-(a*a+b*b))) (.v 0) (.v 1) (.v 2)) (by kernel_rfl)
theorem q_s {F:Type} [Rg F] (a b n:F):(a-n)*(a-n)-b*b-a*(a-n+(a-n))=n*n-(a*a+b*b) :=
 aL [a,b,n] ((fun (a b n:PE)=>((a-n)*(a-n)-b*b-a*(a-n+(a-n)))) (.v 0) (.v 1) (.v 2)) ((fun (a b n:PE)=>(n*n-(a*a+b*b))) (.v 0) (.v 1) (.v 2)) (by kernel_rfl)
theorem q_1 {F:Type} [Rg F] (s b i:F):s*i*(s*i)-b*i*(b*i)=(s*s-b*b)*(i*i) :=
 aL [s,b,i] ((fun (s b i:PE)=>(s*i*(s*i)-b*i*(b*i))) (.v 0) (.v 1) (.v 2)) ((fun (s b i:PE)=>((s*s-b*b)*(i*i))) (.v 0) (.v 1) (.v 2)) (by kernel_rfl)
theorem q_2 {F:Type} [Rg F] (a t i:F):a*(t*t)*(i*i)=a*(t*i*(t*i)) :=
 aL [a,t,i] ((fun (a t i:PE)=>(a*(t*t)*(i*i))) (.v 0) (.v 1) (.v 2)) ((fun (a t i:PE)=>(a*(t*i*(t*i)))) (.v 0) (.v 1) (.v 2)) (by kernel_rfl)
theorem q_3 {F:Type} [Rg F] (s b i:F):s*i*(b*i)+b*i*(s*i)=b*(s+s)*(i*i) :=
 aL [s,b,i] ((fun (s b i:PE)=>(s*i*(b*i)+b*i*(s*i))) (.v 0) (.v 1) (.v 2)) ((fun (s b i:PE)=>(b*(s+s)*(i*i))) (.v 0) (.v 1) (.v 2)) (by kernel_rfl)
theorem q_4 {F:Type} [Rg F] (a n:F):(a+n)*(a-n)=a*a-n*n :=
 aL [a,n] ((fun (a n:PE)=>((a+n)*(a-n))) (.v 0) (.v 1)) ((fun (a n:PE)=>(a*a-n*n)) (.v 0) (.v 1)) (by kernel_rfl)
theorem q_5 {F:Type} [Rg F] (c d:F):(c*c-d*d)*(c*c-d*d)+(c*d+d*c)*(c*d+d*c)=(c*c+d*d)*(c*c+d*d) :=
 aL [c,d] ((fun (c d:PE)=>((c*c-d*d)*(c*c-d*d)+(c*d+d*c)*(c*d+d*c))) (.v 0) (.v 1)) ((fun (c d:PE)=>((c*c+d*d)*(c*c+d*d))) (.v 0) (.v 1)) (by kernel_rfl)
theorem q_6 {F:Type} [Rg F] (c d:F):c*c-d*d+(c*c+d*d)+(c*c-d*d+(c*c+d*d))=(c+c)*(c+c) :=
 aL [c,d] ((fun (c d:PE)=>(c*c-d*d+(c*c+d*d)+(c*c-d*d+(c*c+d*d)))) (.v 0) (.v 1)) ((fun (c d:PE)=>((c+c)*(c+c))) (.v 0) (.v 1)) (by kernel_rfl)
theorem q_7 {F:Type} [Rg F] (c d:F):c*c-d*d - -(c*c+d*d)+(c*c-d*d - -(c*c+d*d))=(c+c)*(c+c) :=
 aL [c,d] ((fun (c d:PE)=>(c*c-d*d - -(c*c+d*d)+(c*c-d*d - -(c*c+d*d)))) (.v 0) (.v 1)) ((fun (c d:PE)=>((c+c)*(c+c))) (.v 0) (.v 1)) (by kernel_rfl)
theorem q_8 {F:Type} [Rg F] (d:F):0*0-d*d=-(d*d) :=
 aL [d] ((fun (d:PE)=>(0*0-d*d)) (.v 0)) ((fun (d:PE)=>(-(d*d))) (.v 0)) (by kernel_rfl)
theorem Oi {F:Type} [Fd F] {a b n s t i:F} (hb:b≠0) (hn:n*n=a*a+b*b) (hs:s=a+n\/s=a-n) (ht:t*t=s+s) (hi:t≠0->t*i=1):s*i*(s*i)-b*i*(b*i)=a/\s*i*(b*i)+b*i*(s*i)=b:=by
 have e1:s*s-b*b=a*(s+s):=by
  refine bq ?_
  rcases hs with rfl|rfl
  ·rw[q_a,hn,sub_self]
  ·rw[q_s,hn,sub_self]
 have hs0:s≠0:=by
  intro e
  rw[e,zero_mul] at e1
  have:b*b=0:=by
   have h0:(0:F)-b*b=0:=by rw[e1,add_zero,mul_zero]
   exact (bq h0).symm
  rcases mul_eq_zero this with h|h<;>exact hb h
 have ht0:t≠0:=by
  intro e
  rw[e,zero_mul] at ht
  exact hs0 (j8 ht.symm)
 have hti:=hi ht0
 constructor
 ·rw[q_1,e1,<- ht,q_2,hti,mul_one,mul_one]
 ·rw[q_3,<- ht,q_2,hti,mul_one,mul_one]
theorem CQ {F:Type} [Fd F] {a b:F} (h:a*a=b*b):a=b\/a=-b:=by
 have:(a+b)*(a-b)=0:=by rw[q_4,h,sub_self]
 rcases mul_eq_zero this with h|h
 ·right
  rw[<- neg_neg a,neg_eq h]
 ·exact .inl (bq h)
end Cr
namespace Go.Proofs.YtbeeaekepmnfhaaGreatDoor.fp2
noncomputable section
open Go Go.Eng Go.RowKit Cr Rg Fd
def Gm (s b t:Fp):F2:=(s*fp.iJ t,b*fp.iJ t)
def bF (x:F2):F2 × Bool :=
 if x.2=0 then (if (fp.aT x.1).2=true then (((fp.aT x.1).1,0),true) else ((0,(fp.aT (-x.1)).1),(fp.aT (-x.1)).2))
 else if (fp.aT (x.1*x.1+x.2*x.2)).2=true then
  (if (fp.aT (x.1+(fp.aT (x.1*x.1+x.2*x.2)).1+(x.1+(fp.aT (x.1*x.1+x.2*x.2)).1))).2=true then
   (Gm (x.1+(fp.aT (x.1*x.1+x.2*x.2)).1) x.2 (fp.aT (x.1+(fp.aT (x.1*x.1+x.2*x.2)).1+(x.1+(fp.aT (x.1*x.1+x.2*x.2)).1))).1,true)
   else (Gm (x.1-(fp.aT (x.1*x.1+x.2*x.2)).1) x.2 (fp.aT (x.1-(fp.aT (x.1*x.1+x.2*x.2)).1+(x.1-(fp.aT (x.1*x.1+x.2*x.2)).1))).1,(fp.aT (x.1-(fp.aT (x.1*x.1+x.2*x.2)).1+(x.1-(fp.aT (x.1*x.1+x.2*x.2)).1))).2))
 else ((0,0),false)
theorem AT:enters Tryz.prog 119 Tryz.f119:=ek
abbrev ik:HL [f2]->HO [.val f2,.val .bool]:=fun (x,_)=>((bF x).1,(bF x).2,())
theorem zu:aB Tryz.prog 119 [f2] [.val f2,.val .bool] aM (fun _=>True) ik:=by
 refine ax (sp:=aF [fp.k9,fp.yO,fp.jb,fp.cv,fp.iI,Qi,fp.mS,pY]) (ai (ak fp.jh) (ai (ak fp.zu) (ai (ak fp.iA) (ai (ak fp.cC) (ai (ak fp.gn) (ai (ak Kc) (ai (ak fp.ke) (ai (ak m6) aR)))))))) mixed AT (by decide) (by decide) ?_
 rintro w M0 ⟨x,⟨⟩⟩
 revert x
 intro (x:F2) _ _
 refine ao (X:=(True/\(decide (x.snd=(0:Zm Mp))=true->True/\((fp.aT x.fst).snd=true->(((fp.aT x.fst).fst,(0:Fp)),true,())=ik (x,()))/\((fp.aT x.fst).snd=false->True/\True/\(((0:Fp),(fp.aT (-x.fst)).fst),(fp.aT (-x.fst)).snd,())=ik (x,())))/\(decide (x.snd=(0:Zm Mp))=false->True/\True/\((!(fp.aT (x.fst*x.fst+x.snd*x.snd)).snd)=true->(((0:Fp),(0:Fp)),false,())=ik (x,()))/\((!(fp.aT (x.fst*x.fst+x.snd*x.snd)).snd)=false->True/\True/\True/\((!(fp.aT (x.fst+(fp.aT (x.fst*x.fst+x.snd*x.snd)).fst+(x.fst+(fp.aT (x.fst*x.fst+x.snd*x.snd)).fst))).snd)=true->True/\True/\True/\True/\True/\(((x.fst-(fp.aT (x.fst*x.fst+x.snd*x.snd)).fst)*fp.iJ (fp.aT (x.fst-(fp.aT (x.fst*x.fst+x.snd*x.snd)).fst+(x.fst-(fp.aT (x.fst*x.fst+x.snd*x.snd)).fst))).fst,x.snd*fp.iJ (fp.aT (x.fst-(fp.aT (x.fst*x.fst+x.snd*x.snd)).fst+(x.fst-(fp.aT (x.fst*x.fst+x.snd*x.snd)).fst))).fst),(fp.aT (x.fst-(fp.aT (x.fst*x.fst+x.snd*x.snd)).fst+(x.fst-(fp.aT (x.fst*x.fst+x.snd*x.snd)).fst))).snd,())=ik (x,()))/\((!(fp.aT (x.fst+(fp.aT (x.fst*x.fst+x.snd*x.snd)).fst+(x.fst+(fp.aT (x.fst*x.fst+x.snd*x.snd)).fst))).snd)=false->True/\True/\(((x.fst+(fp.aT (x.fst*x.fst+x.snd*x.snd)).fst)*fp.iJ (fp.aT (x.fst+(fp.aT (x.fst*x.fst+x.snd*x.snd)).fst+(x.fst+(fp.aT (x.fst*x.fst+x.snd*x.snd)).fst))).fst,x.snd*fp.iJ (fp.aT (x.fst+(fp.aT (x.fst*x.fst+x.snd*x.snd)).fst+(x.fst+(fp.aT (x.fst*x.fst+x.snd*x.snd)).fst))).fst),(fp.aT (x.fst+(fp.aT (x.fst*x.fst+x.snd*x.snd)).fst+(x.fst+(fp.aT (x.fst*x.fst+x.snd*x.snd)).fst))).snd,())=ik (x,())))))) (by kernel_rfl) ?_
 refine⟨trivial,fun h=>⟨trivial,fun h2=>?_,fun h2=>⟨trivial,trivial,?_⟩⟩,fun h=>⟨trivial,trivial,fun h2=>?_,fun h2=>⟨trivial,trivial,trivial,fun h3=>⟨trivial,trivial,trivial,trivial,trivial,?_⟩,fun h3=>⟨trivial,trivial,?_⟩⟩⟩⟩
 all_goals show _=((bF x).1,(bF x).2,())
 ·rw[bF,if_pos (Odt h),if_pos h2]
 ·rw[bF,if_pos (Odt h),if_neg (by rw[h2];decide)]
 ·have h2:(fp.aT (x.1*x.1+x.2*x.2)).2=false:=by simpa using h2
  rw[bF,if_neg (Odf h),if_neg (by rw[h2];decide)]
 ·have h2:(fp.aT (x.1*x.1+x.2*x.2)).2=true:=by simpa using h2
  have h3:=(Bool.not_eq_true' _).mp h3
  rw[bF,if_neg (Odf h),if_pos h2,if_neg (by rw[h3];decide)]
  rfl
 ·have h2:(fp.aT (x.1*x.1+x.2*x.2)).2=true:=by simpa using h2
  have h3:=(Bool.not_eq_false' _).mp h3
  rw[bF,if_neg (Odf h),if_pos h2,if_pos h3]
  show (_,_,())=(Gm _ _ _,true,())
  rw[h3];rfl
def yO:Nat × Eng.Spec:=(119,ar [f2] [.val f2,.val .bool] (fun _=>True) ik)
theorem lO {x:Fp} (h:(fp.aT x).2=true):(fp.aT x).1*(fp.aT x).1=x:=by
 unfold fp.aT at h ⊢
 split at h
 ·rename_i e;rw[if_pos e];exact e
 ·cases h
theorem Tb {x:Fp} (h:x≠0):x*fp.iJ x=1:=mul_inv (F:=Fp) x h
theorem J9 {a b n s t:Fp} (hb:b≠0) (hn:n*n=a*a+b*b) (hs:s=a+n\/s=a-n) (ht:t*t=s+s):Gm s b t*Gm s b t=(a,b):=by
 have h:=Oi hb hn hs ht (i:=fp.iJ t) (fun h=>Tb h)
 refine F2.ext ?_ ?_
 ·rw[F2.mC];exact h.1
 ·rw[F2.gK];exact h.2
theorem Ig {x:F2} (h:(bF x).2=true):(bF x).1*(bF x).1=x:=by
 by_cases hb:x.2=0
 ·by_cases h1:(fp.aT x.1).2=true
  ·rw[bF,if_pos hb,if_pos h1]
   refine F2.ext ?_ ?_
   ·rw[F2.mC]
    show _*_-0*0=x.1
    rw[lO h1,mul_zero,sub_def,neg_zero,add_zero]
   ·rw[F2.gK]
    show _*0+0*_=x.2
    rw[mul_zero,zero_mul,add_zero,hb]
  ·rw[bF,if_pos hb,if_neg h1] at h ⊢
   have h:(fp.aT (-x.1)).2=true:=h
   refine F2.ext ?_ ?_
   ·rw[F2.mC]
    show 0*0-_*_=x.1
    rw[lO h,mul_zero,sub_def,neg_neg,zero_add]
   ·rw[F2.gK]
    show 0*_+_*0=x.2
    rw[mul_zero,zero_mul,add_zero,hb]
 ·by_cases h1:(fp.aT (x.1*x.1+x.2*x.2)).2=true
  ·have hn:=lO h1
   rw[bF,if_neg hb,if_pos h1] at h ⊢
   generalize (fp.aT (x.1*x.1+x.2*x.2)).1=n at *
   by_cases h2:(fp.aT (x.1+n+(x.1+n))).2=true
   ·rw[if_pos h2]
    exact J9 hb hn (.inl rfl) (lO h2)
   ·rw[if_neg h2] at h ⊢
    exact J9 hb hn (.inr rfl) (lO h)
  ·rw[bF,if_neg hb,if_neg h1] at h
   cases h
theorem Am:(fp.aT 0).2=true:=by
 unfold fp.aT
 have e:jG (0:Fp) fp.oh*jG 0 fp.oh=0:=by
  rw[ti]
  have:∀ n:Nat,n≠0->zpow (0:Fp) n=0:=by
   intro n hn
   cases n with
   | zero=>exact absurd rfl hn
   | succ n=>show zpow (0:Fp) n*0=0;rw[mul_zero]
  rw[this _ (by decide),mul_zero]
 rw[if_pos e]
end
end Go.Proofs.YtbeeaekepmnfhaaGreatDoor.fp2
namespace Go.Proofs.YtbeeaekepmnfhaaGreatDoor.g1
open Go Go.Eng Go.RowKit Cr
end Go.Proofs.YtbeeaekepmnfhaaGreatDoor.g1
open Go.IntKind(i64 u8)
namespace Go.Proofs.YtbeeaekepmnfhaaGreatDoor.fp2
open Go Go.Eng Go.RowKit Cr Go.Proofs.YtbeeaekepmnfhaaGreatDoor
theorem h9:enters Tryz.prog 114 Tryz.f114:=ek
def xc (x:F2):List Int:=bL 48 x.2.v++bL 48 x.1.v
abbrev fD:HL [f2]->HO [.val (.arr 96 (.int .u8))]:=fun (x,_)=>(xc x,())
theorem gO:aB Tryz.prog 114 [f2] [.val (.arr 96 (.int .u8))] aM (fun _=>True) fD:=by
 refine ax (sp:=aF [fp.fw]) (ai (ak fp.gO) aR) mixed h9 (by decide) (by decide) ?_
 rintro w M0 ⟨x,⟨⟩⟩
 revert x
 intro (x:F2) _ _
 exact ao (X:=(True/\True/\((0:Int)<=48/\(48:Int)<=(96:Int))/\0+48<=48/\0+48<=96/\((0:Int)<=48/\(48:Int)<=(96:Int))/\0+48<=48/\48+48<=96/\((xc x,()):List Int × Unit)=fD (x,()))) (by kernel_rfl) ⟨trivial,trivial,by decide,by decide,by decide,by decide,by decide,by decide,rfl⟩
noncomputable def fw:Nat × Eng.Spec:=(114,ar [f2] [.val (.arr 96 (.int .u8))] (fun _=>True) fD)
theorem xL:enters Tryz.prog 116 Tryz.f116:=ek
def ve (x:F2):Bool:=if x.2=0 then decide ((-x.1).v<x.1.v) else decide ((-x.2).v<x.2.v)
abbrev kP:HL [f2]->HO [.val .bool]:=fun (x,_)=>(ve x,())
theorem vX:aB Tryz.prog 116 [f2] [.val .bool] aM (fun _=>True) kP:=by
 refine ax (sp:=aF [fp.k9,fp.vy]) (ai (ak fp.jh) (ai (ak fp.vX) aR)) mixed xL (by decide) (by decide) ?_
 rintro w M0 ⟨x,⟨⟩⟩
 revert x
 intro (x:F2) _ _
 refine ao (X:=(True/\(decide (x.snd=(0:Zm Mp))=true->True/\(decide ((-x.fst).v<x.fst.v),())=kP (x,()))/\(decide (x.snd=(0:Zm Mp))=false->True/\(decide ((-x.snd).v<x.snd.v),())=kP (x,())))) (by kernel_rfl) ?_
 refine⟨trivial,fun h=>⟨trivial,?_⟩,fun h=>⟨trivial,?_⟩⟩
 ·show _=(ve x,())
  rw[ve,if_pos (Odt h)]
 ·show _=(ve x,())
  rw[ve,if_neg (Odf h)]
noncomputable def vy:Nat × Eng.Spec:=(116,ar [f2] [.val .bool] (fun _=>True) kP)
end Go.Proofs.YtbeeaekepmnfhaaGreatDoor.fp2
namespace Go.Proofs.YtbeeaekepmnfhaaGreatDoor.codec
open Go Go.Eng Go.RowKit Cr Go.Proofs.YtbeeaekepmnfhaaGreatDoor
theorem Rq:enters Tryz.prog 118 Tryz.f118:=ek
def xa (b:List Int):Int:=av .and .u8 (b.getD 0 0) 224
def jV (b:List Int):List Int:=b.set 0 (av .andNot .u8 (b.getD 0 0) 224)
def nt (b:List Int):Bool:=av .and .u8 (xa b) 128 != 0
def sf (b:List Int):Bool:=av .and .u8 (xa b) 64 != 0
def vf (b:List Int):Bool:=av .and .u8 (xa b) 32 != 0
def bP (b:List Int) (n:Int):List Int × Int × Int :=
 if (b.length:Int)≠n/\(b.length:Int)≠2*n then ([],0,10)
 else if nt b≠decide ((b.length:Int)=n) then ([],0,11)
 else if vf b=true/\(nt b=false\/sf b=true) then ([],0,11)
 else if sf b=true/\∃ v∈jV b,v≠0 then ([],0,11)
 else (jV b,xa b,0)
abbrev zN:HL [.sl (.int .u8),.int .i64]->Prop:=fun (b,n,_)=>(Bs b/\List.length b<=1000000)/\1<=(n:Int)/\(n:Int)<=1000
abbrev mi:HL [.sl (.int .u8),.int .i64]->HO [.own (.int .u8),.val (.int .u8),.val (.int .i64)]:=fun (b,n,_)=>((bP b n).1,(bP b n).2.1,(bP b n).2.2,())
noncomputable def paC (b:List Int) (n:Int) (g:Int × List Int):St:=aY Tryz.f118.ntmps 200 [(0,.is (.one (.ro (.int .u8) b))),(1,sI .i64 n),(4,.is (.one (.v (.slice none 0 0)))),(5,sI .u8 0),(6,sI .i64 0),(7,.is (.one (.sl 120 0 0 b.length 1))),(8,sI .u8 g.1)] [(120,[.ints .u8 b.length g.2])]
def paK (b:List Int) (n:Int) (g:Int × List Int):Prop:=g.1=xa b/\g.2=jV b/\1<=b.length/\((b.length:Int)=n\/(b.length:Int)=2*n)
noncomputable def paD (b:List Int) (br:Int) (bd:List Int):St:=aY Tryz.f118.ntmps 392 [(4,.is (.one (.v (.slice none 0 0)))),(5,sI .u8 0),(6,sI .i64 0),(7,.is (.one (.sl 120 0 0 b.length 1))),(8,sI .u8 br),(56,.is (.one (.v (.bool (av .and .u8 br 64 != 0)))))] [(120,[.ints .u8 b.length bd])]
noncomputable def KM (b:List Int) (br:Int) (bd:List Int) (g:Int):St:=aY Tryz.f118.ntmps 416 [(4,.is (.one (.v (.slice none 0 0)))),(5,sI .u8 0),(6,sI .i64 0),(7,.is (.one (.sl 120 0 0 b.length 1))),(8,sI .u8 br),(57,.is (.one (.sl 120 0 0 b.length 1))),(58,sI .i64 b.length),(59,sI .i64 g)] [(120,[.ints .u8 b.length bd])]
def paJ (bd:List Int) (g:Int):Prop:=∃ k:Nat,k<=bd.length/\g=(k:Int)/\∀ t,t<k->bd.getD t 0=0
theorem VT:aB Tryz.prog 118 [.sl (.int .u8),.int .i64] [.own (.int .u8),.val (.int .u8),.val (.int .i64)] aM zN mi:=by
 have hsp:aN Tryz.prog (aF []):=aR
 refine bh (sp:=aF []) Rq (by decide) (by decide) (by kernel_rfl) ?_
 rintro w M0 ⟨b,n,⟨⟩⟩
 revert b n
 intro (b:List Int) (n:Int) _ hp
 obtain⟨⟨hb,hl⟩,hn1,hn2⟩:=hp
 have hl:b.length<=1000000:=hl
 have hn1:1<=n:=hn1
 have hn2:n<=1000:=hn2
 show Tr _ _ _ _ _ _ _
 have e2n:i64.wrap (2*n)=2*n:=aG (by omega) (by omega)
 refine eB hsp mixed 6 (fun σ=>(bU (.int .u8) 8 σ,cN (.int .u8) 120 σ)) (paC b n) (paK b n) ?_ ?_
 ·refine ao (X:=((((b.length:Int) != n)=true->(((b.length:Int) != i64.wrap ((2:Int)*n))=true->([],(0:Int),(10:Int),())=mi (b,n,()))/\(((b.length:Int) != i64.wrap ((2:Int)*n))=false->b.length*1<=140737488355328/\b.length<=4611686018427387904/\((0:Int)<=(0:Int)/\(0:Int)<(b.length:Int))/\0<b.length/\((0:Int)<=(0:Int)/\(0:Int)<(b.length:Int))/\0<b.length/\((0:Int)<=(0:Int)/\(0:Int)<(b.length:Int))/\0<b.length/\(paC b n (av BinOp.and u8 (b.getD 0 (0:Int)) (224:Int),b.set 0 (av BinOp.andNot u8 (b.getD 0 (0:Int)) (224:Int)))).ah (paK b n (av BinOp.and u8 (b.getD 0 (0:Int)) (224:Int),b.set 0 (av BinOp.andNot u8 (b.getD 0 (0:Int)) (224:Int))))))/\(((b.length:Int) != n)=false->b.length*1<=140737488355328/\b.length<=4611686018427387904/\((0:Int)<=(0:Int)/\(0:Int)<(b.length:Int))/\0<b.length/\((0:Int)<=(0:Int)/\(0:Int)<(b.length:Int))/\0<b.length/\((0:Int)<=(0:Int)/\(0:Int)<(b.length:Int))/\0<b.length/\(paC b n (av BinOp.and u8 (b.getD 0 (0:Int)) (224:Int),b.set 0 (av BinOp.andNot u8 (b.getD 0 (0:Int)) (224:Int)))).ah (paK b n (av BinOp.and u8 (b.getD 0 (0:Int)) (224:Int),b.set 0 (av BinOp.andNot u8 (b.getD 0 (0:Int)) (224:Int))))))) (by kernel_rfl) ?_
  rw[e2n]
  have bl:∀ h:1<=b.length,b.length*1<=140737488355328/\b.length<=4611686018427387904/\((0:Int)<=0/\(0:Int)<(b.length:Int))/\0<b.length:=fun h=>⟨by omega,by omega,⟨by omega,by omega⟩,by omega⟩
  refine⟨fun h=>⟨fun h'=>?_,fun h'=>?_⟩,fun h=>?_⟩
  ·show _=((bP b n).1,(bP b n).2.1,(bP b n).2.2,())
   rw[bP,if_pos ⟨by simpa using h,by simpa using h'⟩]
  ·have h':(b.length:Int)=2*n:=by simpa using h'
   have hb1:1<=b.length:=by omega
   obtain⟨c1,c2,c3,c4⟩:=bl hb1
   exact⟨c1,c2,c3,c4,c3,c4,c3,c4,aA ⟨rfl,rfl,hb1,.inr h'⟩⟩
  ·have h:(b.length:Int)=n:=by simpa using h
   have hb1:1<=b.length:=by omega
   obtain⟨c1,c2,c3,c4⟩:=bl hb1
   exact⟨c1,c2,c3,c4,c3,c4,c3,c4,aA ⟨rfl,rfl,hb1,.inl h⟩⟩
 rintro⟨br,bd⟩ hK
 revert br bd
 intro (br:Int) (bd:List Int) ⟨k1,k2,k3,k4⟩
 have k1:br=xa b:=k1
 have k2:bd=jV b:=k2
 have hlen:¬ ((b.length:Int)≠n/\(b.length:Int)≠2*n):=by omega
 refine aP hsp mixed 5 (paD b br bd) (nt b=decide ((b.length:Int)=n)/\¬ (vf b=true/\(nt b=false\/sf b=true))) ?_ (fun hk=>?_)
 ·refine ao (X:=(((!(av BinOp.and u8 br (128:Int) != (0:Int))==((b.length:Int)==n))=true->([],(0:Int),(11:Int),())=mi (b,n,()))/\((!(av BinOp.and u8 br (128:Int) != (0:Int))==((b.length:Int)==n))=false->((av BinOp.and u8 br (32:Int) != (0:Int))=true->((av BinOp.and u8 br (128:Int)==(0:Int))=true->([],(0:Int),(11:Int),())=mi (b,n,()))/\((av BinOp.and u8 br (128:Int)==(0:Int))=false->((av BinOp.and u8 br (64:Int) != (0:Int))=true->([],(0:Int),(11:Int),())=mi (b,n,()))/\((av BinOp.and u8 br (64:Int) != (0:Int))=false->(paD b br bd).ah (nt b=decide ((b.length:Int)=n)/\¬(vf b=true/\(nt b=false\/sf b=true))))))/\((av BinOp.and u8 br (32:Int) != (0:Int))=false->(paD b br bd).ah (nt b=decide ((b.length:Int)=n)/\¬(vf b=true/\(nt b=false\/sf b=true))))))) (by kernel_rfl) ?_
  have s1:nt b=(av .and .u8 br 128 != 0):=by rw[nt,k1]
  have s2:sf b=(av .and .u8 br 64 != 0):=by rw[sf,k1]
  have s3:vf b=(av .and .u8 br 32 != 0):=by rw[vf,k1]
  have s4:(av .and .u8 br 128==0)=!nt b:=by rw[s1];cases h:(av .and .u8 br 128==0)<;>simp[bne,h]
  have s5:((b.length:Int)==n)=decide ((b.length:Int)=n):=rfl
  rw[s4,<- s1,<- s2,<- s3,s5]
  show ((!(nt b==decide ((b.length:Int)=n)))=true->_=((bP b n).1,(bP b n).2.1,(bP b n).2.2,()))/\_
  refine⟨fun h=>?_,fun h=>⟨fun h2=>⟨fun h3=>?_,fun h3=>⟨fun h4=>?_,fun h4=>aA ⟨by simpa using h,?_⟩⟩⟩,fun h2=>aA ⟨by simpa using h,?_⟩⟩⟩
  ·rw[bP,if_neg hlen,if_pos (by simpa using h)]
  ·show _=((bP b n).1,(bP b n).2.1,(bP b n).2.2,())
   rw[bP,if_neg hlen,if_neg (by simpa using h),if_pos ⟨h2,.inl (by simpa using h3)⟩]
  ·show _=((bP b n).1,(bP b n).2.1,(bP b n).2.2,())
   rw[bP,if_neg hlen,if_neg (by simpa using h),if_pos ⟨h2,.inr h4⟩]
  ·rintro⟨_,h5|h5⟩
   ·rw[h5] at h3;cases h3
   ·rw[h5] at h4;cases h4
  ·rintro⟨h5,_⟩
   rw[h5] at h2;cases h2
 obtain⟨ha,hb2⟩:=hk
 have hbl:bd.length=b.length:=by rw[k2,jV,List.length_set]
 have s2:sf b=(av .and .u8 br 64 != 0):=by rw[sf,k1]
 refine Lo (c:=aI (aJ Tryz.f118) 11) (av .and .u8 br 64 != 0) (by kernel_rfl) (by kernel_rfl) (by kernel_rfl) (fun ht=>?_) (fun ht=>?_)
 ·refine aP hsp mixed 1 (KM b br bd 0) True ?_ (fun _=>?_)
  ·refine ao (X:=((KM b br bd (0:Int)).ah True)) (by kernel_rfl) ?_
   exact aA trivial
  refine bO hsp mixed dA (fun σ=>bU (.int .i64) 59 σ) (KM b br bd) (paJ bd) (fun g=>b.length-g.toNat)
   (fun σ=>bU (.int .i64) 59 σ) (KM b br bd) (fun _=>∀ v∈bd,v=0) 0 (c:=aI (Qw (aI (aJ Tryz.f118) 11)) 1) (by kernel_rfl) (by kernel_rfl) (aC (by kernel_rfl) (by kernel_rfl) ?_) ?_ ?_
  ·exact⟨0,Nat.zero_le _,rfl,fun t h=>absurd h (Nat.not_lt_zero _)⟩
  ·intro (i:Int) ⟨k,hk,ei,hz⟩
   subst ei
   refine ao (X:=((decide ((k:Int)<(b.length:Int))=true->((0:Int)<=(k:Int)/\(k:Int)<(b.length:Int))/\(k:Int).toNat<b.length/\((bd.getD (k:Int).toNat (0:Int) != (0:Int))=true->([],(0:Int),(11:Int),())=mi (b,n,()))/\((bd.getD (k:Int).toNat (0:Int) != (0:Int))=false->(KM b br bd (i64.wrap ((k:Int)+(1:Int)))).ah (paJ bd (i64.wrap ((k:Int)+(1:Int)))/\b.length-(i64.wrap ((k:Int)+(1:Int))).toNat<b.length-(k:Int).toNat)))/\(decide ((k:Int)<(b.length:Int))=false->(KM b br bd (k:Int)).ah (∀ (v:Int),v∈bd->v=(0:Int))))) (by kernel_rfl) ?_
   rw[Int.toNat_natCast]
   refine⟨fun h=>?_,fun h=>aA ?_⟩
   ·have hlt:k<b.length:=by have:=dec_lt h;omega
    have hg:bd.getD k 0=bd[k]:=by rw[List.getD_eq_getElem?_getD,List.getElem?_eq_getElem (by omega),Option.getD_some]
    rw[aQ (by omega)]
    refine⟨⟨by omega,by omega⟩,hlt,fun h2=>?_,fun h2=>aA ⟨⟨k+1,by omega,rfl,fun t ht2=>?_⟩,by rw[Int.toNat_natCast];omega⟩⟩
    ·have h2:bd.getD k 0≠0:=by simpa using h2
     show _=((bP b n).1,(bP b n).2.1,(bP b n).2.2,())
     rw[bP,if_neg hlen,if_neg (by simpa using ha),if_neg hb2,if_pos ⟨by rw[s2,ht],bd[k],by rw[<- k2];exact List.getElem_mem _,by rw[<- hg];exact h2⟩]
    ·by_cases htk:t=k
     ·subst htk;simpa using h2
     ·exact hz t (by omega)
   ·have:k=b.length:=by have:=dk h;omega
    intro v hv
    obtain⟨t,ht1,ht2⟩:=List.mem_iff_getElem.1 hv
    have:=hz t (by omega)
    rw[List.getD_eq_getElem?_getD,List.getElem?_eq_getElem ht1,Option.getD_some,ht2] at this
    exact this
  intro (i:Int) (hz:∀ v∈bd,v=0)
  refine bf hsp mixed _ _ ?_
  refine ao (X:=(0+b.length<=b.length/\(List.take b.length bd,br,(0:Int),())=mi (b,n,()))) (by kernel_rfl) ?_
  refine⟨by omega,?_⟩
  show _=((bP b n).1,(bP b n).2.1,(bP b n).2.2,())
  rw[bP,if_neg hlen,if_neg (by simpa using ha),if_neg hb2,if_neg (by rintro⟨_,v,hv,hne⟩;exact hne (hz v (by rw[k2];exact hv))),k1,k2,List.take_of_length_le (by rw[jV,List.length_set];exact Nat.le_refl _)]
 ·refine bf hsp mixed _ _ ?_
  refine ao (X:=(0+b.length<=b.length/\(List.take b.length bd,br,(0:Int),())=mi (b,n,()))) (by kernel_rfl) ?_
  refine⟨by omega,?_⟩
  show _=((bP b n).1,(bP b n).2.1,(bP b n).2.2,())
  rw[bP,if_neg hlen,if_neg (by simpa using ha),if_neg hb2,if_neg (by rw[s2,ht];simp),k1,k2,List.take_of_length_le (by rw[jV,List.length_set];exact Nat.le_refl _)]
noncomputable def Qj:Nat × Eng.Spec:=(118,ar [.sl (.int .u8),.int .i64] [.own (.int .u8),.val (.int .u8),.val (.int .i64)] zN mi)
end Go.Proofs.YtbeeaekepmnfhaaGreatDoor.codec
namespace Go.Proofs.YtbeeaekepmnfhaaGreatDoor.codec
open Go Go.Eng Go.RowKit Cr
abbrev wE:HL [.sl (.int .u8)]->Prop:=fun (b,_)=>Bs b/\List.length b<=1000000
def rgK (b:List Int) (n:Int) (g:Int × List Int):Prop:=g.1=xa b/\g.2=jV b/\(bP b n).2.2=0/\sf b=false
theorem zG {b:List Int} {n:Int} (h:(bP b n).2.2=0):bP b n=(jV b,xa b,0)/\nt b=decide ((b.length:Int)=n)/\((b.length:Int)=n\/(b.length:Int)=2*n):=by
 unfold bP at h ⊢
 split at h
 ·cases h
 ·rename_i h1
  rw[if_neg h1]
  split at h
  ·cases h
  ·rename_i h2
   rw[if_neg h2]
   split at h
   ·cases h
   ·rename_i h3
    rw[if_neg h3]
    split at h
    ·cases h
    ·rename_i h4
     rw[if_neg h4]
     refine⟨rfl,by simpa using h2,by omega⟩
theorem P7 {b:List Int} (h:Bs b) {x:Int} (hx:0<=x/\x<256):Bs (b.set 0 x):=by
 intro y hy
 rcases List.mem_or_eq_of_mem_set hy with hy|hy
 ·exact h y hy
 ·rw[hy];exact hx
theorem NO {a:Int}:0<=av .andNot .u8 a 224/\av .andNot .u8 a 224<256:=by
 show 0<=IntKind.u8.wrap _/\IntKind.u8.wrap _<256
 simp only[IntKind.wrap,IntKind.signed,IntKind.bits]
 simp
 omega
theorem XL {b:List Int} (h:Bs b):Bs (jV b):=P7 h NO
theorem U3 (b:List Int):(jV b).length=b.length:=by rw[jV,List.length_set]
end Go.Proofs.YtbeeaekepmnfhaaGreatDoor.codec
namespace Go.Proofs.YtbeeaekepmnfhaaGreatDoor.fp2
open Go Go.Eng Go.RowKit Cr Go.Proofs.YtbeeaekepmnfhaaGreatDoor
def bY (bs:List Int):F2 × Int:=if bs.length=96 then (if (fp.eM (bs.take 48)).2=0 then (if (fp.eM (bs.drop 48)).2=0 then (((fp.eM (bs.drop 48)).1,(fp.eM (bs.take 48)).1),0) else ((0,0),(fp.eM (bs.drop 48)).2)) else ((0,0),(fp.eM (bs.take 48)).2)) else ((0,0),10)
theorem AS:enters Tryz.prog 101 Tryz.f101:=ek
abbrev iO:HL [.sl (.int .u8)]->Prop:=fun (bs,_)=>Bs bs
abbrev gP:HL [.sl (.int .u8)]->HO [.val f2,.val (.int .i64)]:=fun (bs,_)=>((bY bs).1,(bY bs).2,())
theorem u7:aB Tryz.prog 101 [.sl (.int .u8)] [.val f2,.val (.int .i64)] aM iO gP:=by
 refine ax (sp:=aF [fp.sW]) (ai (ak fp.u7) aR) mixed AS (by decide) (by decide) ?_
 rintro w M0 ⟨bs,⟨⟩⟩
 revert bs
 intro (bs:List Int) _ hb
 have hb:Bs bs:=hb
 refine ao (X:=((((bs.length:Int) != 96)=true->(((0:Fp),(0:Fp)),10,())=gP (bs,()))/\(((bs.length:Int) != 96)=false->((0:Int)<=48/\48<=(bs.length:Int))/\fp.iO (List.take 48 bs,())/\(((fp.eM (List.take 48 bs)).snd != 0)=true->(((0:Fp),(0:Fp)),(fp.eM (List.take 48 bs)).snd,())=gP (bs,()))/\(((fp.eM (List.take 48 bs)).snd != 0)=false->((0:Int)<=48/\48<=(bs.length:Int))/\fp.iO (List.take ((bs.length:Int)-48).toNat (List.drop 48 bs),())/\(((fp.eM (List.take ((bs.length:Int)-48).toNat (List.drop 48 bs))).snd != 0)=true->(((0:Fp),(0:Fp)),(fp.eM (List.take ((bs.length:Int)-48).toNat (List.drop 48 bs))).snd,())=gP (bs,()))/\(((fp.eM (List.take ((bs.length:Int)-48).toNat (List.drop 48 bs))).snd != 0)=false->(((fp.eM (List.take ((bs.length:Int)-48).toNat (List.drop 48 bs))).fst,(fp.eM (List.take 48 bs)).fst),0,())=gP (bs,())))))) (by kernel_rfl) ?_
 refine⟨fun h=>?_,fun h=>?_⟩
 ·have hl:¬ bs.length=96:=by simp at h;omega
  show _=((bY bs).1,(bY bs).2,())
  rw[bY,if_neg hl]
 have hl:bs.length=96:=by simp at h;omega
 have e1:List.take ((bs.length:Int)-48).toNat (List.drop 48 bs)=bs.drop 48:=List.take_of_length_le (by simp;omega)
 rw[e1]
 refine⟨⟨by omega,by omega⟩,fun x hx=>hb x (List.mem_of_mem_take hx),fun h2=>?_,fun h2=>⟨⟨by omega,by omega⟩,fun x hx=>hb x (List.mem_of_mem_drop hx),fun h3=>?_,fun h3=>?_⟩⟩
 ·have h2:¬ (fp.eM (bs.take 48)).2=0:=by simpa using h2
  show _=((bY bs).1,(bY bs).2,())
  rw[bY,if_pos hl,if_neg h2]
 ·have h2:(fp.eM (bs.take 48)).2=0:=by simpa using h2
  have h3:¬ (fp.eM (bs.drop 48)).2=0:=by simpa using h3
  show _=((bY bs).1,(bY bs).2,())
  rw[bY,if_pos hl,if_pos h2,if_neg h3]
 ·have h2:(fp.eM (bs.take 48)).2=0:=by simpa using h2
  have h3:(fp.eM (bs.drop 48)).2=0:=by simpa using h3
  show _=((bY bs).1,(bY bs).2,())
  rw[bY,if_pos hl,if_pos h2,if_pos h3]
noncomputable def sW:Nat × Eng.Spec:=(101,ar [.sl (.int .u8)] [.val f2,.val (.int .i64)] iO gP)
end Go.Proofs.YtbeeaekepmnfhaaGreatDoor.fp2
namespace Go.Proofs.YtbeeaekepmnfhaaGreatDoor.g2
open Go Go.Eng Go.RowKit Cr Go.Proofs.YtbeeaekepmnfhaaGreatDoor Go.Proofs.YtbeeaekepmnfhaaGreatDoor.fp2
abbrev ba:Kd:=.pair f2 f2
def gxA:Nat:=0x024aa2b2f08f0a91260805272dc51051c6e47ad4fa403b02b4510b647ae3d1770bac0326a805bbefd48056c8c121bdb8
def gxB:Nat:=0x13e02b6052719f607dacd3a088274f65596bd0d09920b61ab5da61bbdc7f5049334cf11213945d57e5ac7d055d042b7e
def gyA:Nat:=0x0ce5d527727d6e118cc9cdc6da2e351aadfd9baa8cbdd3a76d429a695160d12c923ac9cc3baca289e193548608b82801
def gyB:Nat:=0x0606c4a02ea734cc32acd2b02bc28b99cb3e287e85a763af267492ab572e99ab3f370d275cec1da1aaa9075ff05f79be
def gx:F2:=(zm (gxA:Int),zm (gxB:Int))
def gy:F2:=(zm (gyA:Int),zm (gyB:Int))
end Go.Proofs.YtbeeaekepmnfhaaGreatDoor.g2
namespace Go.Proofs.YtbeeaekepmnfhaaGreatDoor.g2
noncomputable section
open Go Go.Eng Go.RowKit Cr fp2
abbrev bk:Kd:=.pair f2 (.pair f2 f2)
theorem Gj (a b:F2 × F2):gm (.pair (.pair .fp .fp) (.pair .fp .fp)) a b=decide (a=b):=by
 have h:=lh (e:=.pair (.pair .fp .fp) (.pair .fp .fp)) a b
 rw[Bool.eq_iff_iff,h,decide_eq_true_iff]
theorem AO:enters Tryz.prog 99 Tryz.f99:=ek
abbrev mh:HL [ba]->HO [.val bk]:=fun (p,_)=>(df (F:=F2) p,())
theorem u6:aB Tryz.prog 99 [ba] [.val bk] aM (fun _=>True) mh:=by
 refine ax (sp:=aF [fp2.ln]) (ai (ak fp2.lK) aR) mixed AO (by decide) (by decide) ?_
 rintro w M0 ⟨p,⟨⟩⟩
 revert p
 intro (p:F2 × F2) _ _
 refine ao (X:=((gm ((Kd.fp.pair Kd.fp).pair (Kd.fp.pair Kd.fp)) p (((0:Fp),(0:Fp)),(0:Fp),(0:Fp))=true->((((0:Fp),(0:Fp)),((0:Fp),(0:Fp)),(0:Fp),(0:Fp)),())=mh (p,()))/\(gm ((Kd.fp.pair Kd.fp).pair (Kd.fp.pair Kd.fp)) p (((0:Fp),(0:Fp)),(0:Fp),(0:Fp))=false->(dF 1/\dF 0)/\((p.fst,p.snd,aj 1,aj 0),())=mh (p,())))) (by kernel_rfl) ?_
 rw[Gj]
 refine⟨fun h=>?_,fun h=>⟨⟨by constructor<;>decide,by constructor<;>decide⟩,?_⟩⟩
 ·show _=(df p,())
  unfold df
  rw[if_pos (show p=O2 from Odt h)];rfl
 ·show _=(df p,())
  unfold df
  rw[if_neg (show ¬ p=O2 from Odf h)];rfl
def oz:Nat × Eng.Spec:=(99,ar [ba] [.val bk] (fun _=>True) mh)
theorem qq:enters Tryz.prog 100 Tryz.f100:=ek
abbrev kQ:HL [bk]->HO [.val ba]:=fun (a,_)=>(cZ (F:=F2) a,())
theorem m5:aB Tryz.prog 100 [bk] [.val ba] aM (fun _=>True) kQ:=by
 refine ax (sp:=aF [fp2.k9,fp2.mS,fp2.bJ,fp2.cK]) (ai (ak fp2.jh) (ai (ak fp2.ke) (ai (ak fp2.b9) (ai (ak fp2.cL) aR)))) mixed qq (by decide) (by decide) ?_
 rintro w M0 ⟨a,⟨⟩⟩
 revert a
 intro (a:F2 × F2 × F2) _ _
 refine ao (X:=(True/\(decide (a.2.2=0)=true->(((0:F2),(0:F2)),())=kQ (a,()))/\(decide (a.2.2=0)=false->Ae 5 (((a.1*(inv2 a.2.2*inv2 a.2.2),a.2.1*(inv2 a.2.2*inv2 a.2.2)*inv2 a.2.2),())=kQ (a,()))))) (by kernel_rfl) ?_
 refine⟨trivial,fun h=>?_,fun h=>E6 ?_ _⟩
 ·show _=(cZ a,())
  unfold cZ
  rw[if_pos (Odt h)]
 ·show _=(cZ a,())
  unfold cZ
  rw[if_neg (Odf h)]
  rfl
def jk:Nat × Eng.Spec:=(100,ar [bk] [.val ba] (fun _=>True) kQ)
theorem nJ:enters Tryz.prog 102 Tryz.f102:=ek
abbrev fW:HL [bk]->HO [.val bk]:=fun (a,_)=>(iF (F:=F2) a,())
theorem kA:aB Tryz.prog 102 [bk] [.val bk] aM (fun _=>True) fW:=by
 refine ax (sp:=aF [fp2.k9,fp2.cv,fp2.iI,fp2.bJ,fp2.cK]) (ai (ak fp2.jh) (ai (ak fp2.cC) (ai (ak fp2.gn) (ai (ak fp2.b9) (ai (ak fp2.cL) aR))))) mixed nJ (by decide) (by decide) ?_
 rintro w M0 ⟨a,⟨⟩⟩
 revert a
 intro (a:F2 × F2 × F2) _ _
 refine ao (X:=(True/\(decide (a.2.2=0)=true->(((0:F2),(0:F2),(0:F2)),())=fW (a,()))/\(decide (a.2.2=0)=false->Ae 18 ((DK a,())=fW (a,()))))) (by kernel_rfl) ?_
 refine⟨trivial,fun h=>?_,fun h=>E6 ?_ _⟩
 ·show _=(iF a,())
  unfold iF
  rw[if_pos (Odt h)]
 ·show _=(iF a,())
  unfold iF
  rw[if_neg (Odf h)]
def jS:Nat × Eng.Spec:=(102,ar [bk] [.val bk] (fun _=>True) fW)
theorem j9:enters Tryz.prog 98 Tryz.f98:=ek
abbrev dO:HL [bk,bk]->HO [.val bk]:=fun (a,b,_)=>(fC (F:=F2) a b,())
abbrev wd (a b:F2 × F2 × F2):F2:=b.1*(a.2.2*a.2.2)-a.1*(b.2.2*b.2.2)
abbrev rs (a b:F2 × F2 × F2):F2:=b.2.1*(a.2.2*a.2.2)*a.2.2-a.2.1*(b.2.2*b.2.2)*b.2.2
theorem cC:aB Tryz.prog 98 [bk,bk] [.val bk] aM (fun _=>True) dO:=by
 refine ax (sp:=aF [fp2.k9,fp2.iI,fp2.bJ,fp2.cK,jS]) (ai (ak fp2.jh) (ai (ak fp2.gn) (ai (ak fp2.b9) (ai (ak fp2.cL) (ai (ak kA) aR))))) mixed j9 (by decide) (by decide) ?_
 rintro w M0 ⟨a,b,⟨⟩⟩
 revert a b
 intro (a:F2 × F2 × F2) (b:F2 × F2 × F2) _ _
 refine ao (X:=(True/\(decide (a.2.2=0)=true->(b,())=dO (a,b,()))/\(decide (a.2.2=0)=false->True/\(decide (b.2.2=0)=true->(a,())=dO (a,b,()))/\(decide (b.2.2=0)=false ->
  Ae 11 ((decide (wd a b=0)=true->True/\(decide (rs a b=0)=true->True/\(iF (F:=F2) a,())=dO (a,b,()))/\(decide (rs a b=0)=false->(((0:F2),(0:F2),(0:F2)),())=dO (a,b,()))) /\
   (decide (wd a b=0)=false->Ae 13 ((DL (F:=F2) (wd a b) (rs a b) (a.1*(b.2.2*b.2.2)) (a.2.1*(b.2.2*b.2.2)*b.2.2) a.2.2 b.2.2,())=dO (a,b,())))))))) (by kernel_rfl) ?_
 refine⟨trivial,fun h=>?_,fun h=>⟨trivial,fun h2=>?_,fun h2=>E6 ⟨fun h3=>⟨trivial,fun h4=>⟨trivial,?_⟩,fun h4=>?_⟩,fun h3=>E6 ?_ _⟩ _⟩⟩
 all_goals show _=(fC a b,())
 all_goals unfold fC
 ·rw[if_pos (Odt h)]
 ·rw[if_neg (Odf h),if_pos (Odt h2)]
 ·rw[if_neg (Odf h),if_neg (Odf h2),if_pos (Odt h3),if_pos (Odt h4)]
 ·rw[if_neg (Odf h),if_neg (Odf h2),if_pos (Odt h3),if_neg (Odf h4)]
 ·rw[if_neg (Odf h),if_neg (Odf h2),if_neg (Odf h3)]
def cv:Nat × Eng.Spec:=(98,ar [bk,bk] [.val bk] (fun _=>True) dO)
end
end Go.Proofs.YtbeeaekepmnfhaaGreatDoor.g2
namespace Go.Proofs.YtbeeaekepmnfhaaGreatDoor.g2
noncomputable section
open Go Go.Eng Go.RowKit Cr fp2
abbrev bc (s:F2 × F2 × F2):List Cell:=[.row .fp 1 [s.1.1],.row .fp 1 [s.1.2],.row .fp 1 [s.2.1.1],.row .fp 1 [s.2.1.2],.row .fp 1 [s.2.2.1],.row .fp 1 [s.2.2.2]]
abbrev pc (s:F2 × F2):List Cell:=[.row .fp 1 [s.1.1],.row .fp 1 [s.1.2],.row .fp 1 [s.2.1],.row .fp 1 [s.2.2]]
theorem uV:enters Tryz.prog 58 Tryz.f58:=ek
def p4 (ps:List (F2 × F2)) (g:Int × (F2 × F2 × F2)):St:=aY Tryz.f58.ntmps 40 [(2,.is (.one (.ptr 0 0))),(3,.is (.one (.ptr 8 0))),(6,.is (.one (.ro ba ps))),(7,sI .i64 ps.length),(8,sI .i64 g.1)] [(8,bc g.2),(0,pc (0,0))]
def dS (ps:List (F2 × F2)) (g:Int × (F2 × F2 × F2)):Int × (F2 × F2 × F2):=(IntKind.i64.wrap (g.1+1),fC (F:=F2) g.2 (df (F:=F2) (ps.getD g.1.toNat (0,0))))
abbrev mI:HL [.sl ba]->Prop:=fun (ps,_)=>List.length ps<4611686018427387904
abbrev og:HL [.sl ba]->HO [.val ba]:=fun (ps,_)=>(cZ (F:=F2) (mz ps (List.length ps)),())
theorem u9:aB Tryz.prog 58 [.sl ba] [.val ba] aM mI og:=by
 have hsp:aN Tryz.prog (aF [oz,cv,jk]):=ai (ak u6) (ai (ak cC) (ai (ak m5) aR))
 refine bh (sp:=aF [oz,cv,jk]) uV (by decide) (by decide) (by kernel_rfl) ?_
 rintro w M0 ⟨ps,⟨⟩⟩
 revert ps
 intro (ps:List (F2 × F2)) _ hl
 have hl:ps.length<4611686018427387904:=hl
 show Tr _ _ _ _ _ _ _
 refine aP hsp mixed 3 (p4 ps (0,mz ps 0)) True ?_ (fun _=>?_)
 ·exact ao (X:=(p4 ps (0,mz ps 0)).ah True) (by kernel_rfl) (aA trivial)
 refine dB hsp mixed (p4 ps) (fun k=>((k:Int),mz ps k)) ps.length (dS ps) (p4 ps) (c:=aI (aJ Tryz.f58) 3) (by kernel_rfl) (by kernel_rfl) (aC (by kernel_rfl) (by kernel_rfl) trivial)
  (fun k hk=>by show (_,_)=(_,_);rw[aQ (by omega)];rfl) ?_ ?_
 ·intro k hk
  generalize hs:mz ps k=s
  refine ao (X:=((decide ((k:Int)<(ps.length:Int))=true->(0<=(k:Int)/\(k:Int)<(ps.length:Int))/\(k:Int).toNat<ps.length/\True/\True/\(p4 ps (dS ps ((k:Int),s))).ah (k<ps.length)) /\
   (decide ((k:Int)<(ps.length:Int))=false->(p4 ps ((k:Int),s)).ah (k=ps.length)))) (by kernel_rfl) ?_
  refine⟨fun h=>?_,fun h=>aA (by have:=dk h;omega)⟩
  have hlt:k<ps.length:=by have:=dec_lt h;omega
  exact⟨⟨by omega,by omega⟩,by omega,trivial,trivial,aA hlt⟩
 ·refine bf hsp mixed _ _ ?_
  exact ao (X:=(True/\(cZ (F:=F2) (mz ps ps.length),())=og (ps,()))) (by kernel_rfl) ⟨trivial,rfl⟩
def z0:Nat × Eng.Spec:=(58,ar [.sl ba] [.val ba] mI og)
theorem AP:enters Tryz.prog 24 Tryz.f24:=ek
abbrev vl:HL [ba,ba]->HO [.val ba]:=fun (p,q,_)=>(cZ (F:=F2) (mz [p,q] 2),())
theorem DB:aB Tryz.prog 24 [ba,ba] [.val ba] aM (fun _=>True) vl:=by
 refine ax (sp:=aF [z0]) (ai (ak u9) aR) mixed AP (by decide) (by decide) ?_
 rintro w M0 ⟨p,q,⟨⟩⟩
 revert p q
 intro (p:F2 × F2) (q:F2 × F2) _ _
 refine ao (X:=((0+2:Nat)<=2/\mI ([p,q],())/\og ([p,q],())=vl (p,q,()))) (by kernel_rfl) ?_
 exact⟨by decide,show (2:Nat)<4611686018427387904 by decide,rfl⟩
theorem AR:enters Tryz.prog 69 Tryz.f69:=ek
abbrev rD:HL [ba]->HO [.val ba]:=fun (p,_)=>(aX (F:=F2) p,())
theorem zr:aB Tryz.prog 69 [ba] [.val ba] aM (fun _=>True) rD:=by
 refine ax (sp:=aF [fp2.jb]) (ai (ak fp2.iA) aR) mixed AR (by decide) (by decide) ?_
 rintro w M0 ⟨p,⟨⟩⟩
 revert p
 intro (p:F2 × F2) _ _
 exact ao (X:=(True/\(((p.1,-p.2),())=rD (p,())))) (by kernel_rfl) ⟨trivial,rfl⟩
def aa9:Nat × Eng.Spec:=(69,ar [ba] [.val ba] (fun _=>True) rD)
def b4:F2:=(zm 4,zm 4)
theorem Yl:enters Tryz.prog 30 Tryz.f30:=ek
def m8 (p:F2 × F2):Bool:=decide (p=((0:F2),(0:F2)))||decide (p.2*p.2=p.1*p.1*p.1+b4)
theorem v9 (p:F2 × F2):m8 p=true↔aV b4 p:=by
 unfold m8 aV On
 simp
abbrev Fu:HL [ba]->HO [.val .bool]:=fun (p,_)=>(m8 p,())
theorem Tz:aB Tryz.prog 30 [ba] [.val .bool] aM (fun _=>True) Fu:=by
 refine ax (sp:=aF [fp2.bJ,fp2.cK,fp2.ln,fp2.cv]) (ai (ak fp2.b9) (ai (ak fp2.cL) (ai (ak fp2.lK) (ai (ak fp2.cC) aR)))) mixed Yl (by decide) (by decide) ?_
 rintro w M0 ⟨p,⟨⟩⟩
 revert p
 intro (p:F2 × F2) _ _
 refine ao (X:=((gm ((Kd.fp.pair Kd.fp).pair (Kd.fp.pair Kd.fp)) p (((0:Fp),(0:Fp)),(0:Fp),(0:Fp))=true->(true,())=Fu (p,()))/\(gm ((Kd.fp.pair Kd.fp).pair (Kd.fp.pair Kd.fp)) p (((0:Fp),(0:Fp)),(0:Fp),(0:Fp))=false->True/\True/\True/\(dF 4/\dF 4)/\True/\(gm (Kd.fp.pair Kd.fp) (p.snd*p.snd) (p.fst*p.fst*p.fst+(aj 4,aj 4)),())=Fu (p,())))) (by kernel_rfl) ?_
 rw[Gj]
 refine⟨fun h=>?_,fun h=>⟨trivial,trivial,trivial,⟨by constructor<;>decide,by constructor<;>decide⟩,trivial,?_⟩⟩
 ·show _=(m8 p,())
  rw[m8,show decide (p=((0:F2),(0:F2)))=true from h,Bool.true_or]
 ·show _=(m8 p,())
  rw[m8,show decide (p=((0:F2),(0:F2)))=false from h,Bool.false_or,Ym]
  rfl
def af5:Nat × Eng.Spec:=(30,ar [ba] [.val .bool] (fun _=>True) Fu)
end
end Go.Proofs.YtbeeaekepmnfhaaGreatDoor.g2
open Go.IntKind(i64)
namespace Go.Proofs.YtbeeaekepmnfhaaGreatDoor.g2
noncomputable section
open Go Go.Eng Go.RowKit Cr fp2
abbrev Jp:=F2 × F2 × F2
def vE (k:List Int) (o:Jp) (g:Int × List Jp):St:=aY Tryz.f61.ntmps 64 [(1,.is (.one (.ro (.int .u8) k))),(4,.is (.one (.ptr 8 0))),(5,.is (.one (.ptr 16 0))),(6,.is (.one (.ptr 40 0))),(15,sI .i64 g.1)] [(40,bc o),(16,[.row bk 16 g.2]),(8,pc (0,0))]
def Iq (k:List Int) (tb:List Jp) (s:Jp) (nx:Nat) (xs:List (Nat × SV)):St:=aY Tryz.f61.ntmps nx ([(4,.is (.one (.ptr 8 0))),(5,.is (.one (.ptr 16 0))),(8,.is (.one (.ptr 64 0))),(27,.is (.one (.ro (.int .u8) k))),(28,sI .i64 k.length)]++xs) [(64,bc s),(16,[.row bk 16 tb]),(8,pc (0,0))]
abbrev oZ (k:List Int) (tb:List Jp) (g:Int × Jp):St:=Iq k tb g.2 96 [(29,sI .i64 g.1)]
abbrev mM (k:List Int) (tb:List Jp) (i:Int) (ds:List Int) (g:Int × Jp):St:=Iq k tb g.2 168 [(29,sI .i64 i),(37,.is (.agg [.ints .u8 2 ds])),(38,sI .i64 g.1)]
abbrev vF (k:List Int) (tb:List Jp) (i:Int) (ds:List Int) (j d:Int) (g:Int × Jp):St:=Iq k tb g.2 184 [(29,sI .i64 i),(37,.is (.agg [.ints .u8 2 ds])),(38,sI .i64 j),(12,sI .u8 d),(41,sI .i64 g.1)]
theorem lI:enters Tryz.prog 61 Tryz.f61:=ek
abbrev bX:HL [ba,.sl (.int .u8)]->Prop:=fun (_,k,_)=>Bs k/\List.length k<4611686018427387904
abbrev fb:HL [ba,.sl (.int .u8)]->HO [.val ba]:=fun (p,k,_)=>(cZ (F:=F2) (nT (cX (jt (df (F:=F2) p)) (0,0,0) 15) k (List.length k)),())
theorem eF:aB Tryz.prog 61 [ba,.sl (.int .u8)] [.val ba] aM bX fb:=by
 have hsp:aN Tryz.prog (aF [oz,cv,jk,jS]):=ai (ak u6) (ai (ak cC) (ai (ak m5) (ai (ak kA) aR)))
 refine bh (sp:=aF [oz,cv,jk,jS]) lI (by decide) (by decide) (by kernel_rfl) ?_
 rintro w M0 ⟨p,k,⟨⟩⟩
 revert p k
 intro (p:F2 × F2) (k:List Int) _ hp
 obtain⟨hk,hl⟩:=hp
 have hk:Bs k:=hk
 have hl:k.length<4611686018427387904:=hl
 show Tr _ _ _ _ _ _ _
 refine aP hsp mixed 4 (vE k (df (F:=F2) p) (0,cX (jt (df (F:=F2) p)) (0,0,0) 0)) True ?_ (fun _=>?_)
 ·exact ao (X:=(True/\(vE k (df (F:=F2) p) (0,cX (jt (df (F:=F2) p)) (0,0,0) 0)).ah True)) (by kernel_rfl) ⟨trivial,aA trivial⟩
 generalize ho:df (F:=F2) p=o
 refine dB hsp mixed (vE k o) (fun n=>((n:Int),cX (jt o) (0,0,0) n)) 15 (fun g=>(i64.wrap (g.1+1),g.2.set (i64.wrap (g.1+1)).toNat (fC (F:=F2) (g.2.getD g.1.toNat (0,0,0)) o))) (vE k o) (c:=aI (aJ Tryz.f61) 4) (by kernel_rfl) (by kernel_rfl) (aC (by kernel_rfl) (by kernel_rfl) trivial)
  (fun n hn=>by
   show (_,_)=(_,_)
   rw[aQ (by omega),Int.toNat_natCast,Int.toNat_natCast,l6 _ _ _ (Nat.le_refl n) (by omega),show fC (F:=F2) (jt o n) o=jt o (n+1) from rfl,tT]) ?_ ?_
 ·intro n hn
  generalize cX (jt o) (0,0,0) n=tb
  refine ao (X:=((decide ((n:Int)<15)=true->(0<=(n:Int)/\(n:Int)<(16:Int))/\(n:Int).toNat<16/\True/\(0<=i64.wrap ((n:Int)+1)/\i64.wrap ((n:Int)+1)<(16:Int))/\(i64.wrap ((n:Int)+1)).toNat<16 /\
    (vE k o (i64.wrap ((n:Int)+1),tb.set (i64.wrap ((n:Int)+1)).toNat (fC (F:=F2) (tb.getD (n:Int).toNat (0,0,0)) o))).ah (n<15)) /\
   (decide ((n:Int)<15)=false->(vE k o ((n:Int),tb)).ah (n=15)))) (by kernel_rfl) ?_
  refine⟨fun h=>?_,fun h=>aA (by have:=dk h;omega)⟩
  have hlt:n<15:=by have:=dec_lt h;omega
  rw[aQ (by omega)]
  exact⟨⟨by omega,by omega⟩,by omega,trivial,⟨by omega,by omega⟩,by omega,aA hlt⟩
 subst ho
 show Tr _ _ _ _ _ _ _
 generalize htb:cX (jt (df (F:=F2) p)) (0,0,0) 15=tb
 refine aP hsp mixed 2 (oZ k tb (0,nT tb k 0)) True ?_ (fun _=>?_)
 ·exact ao (X:=(oZ k tb (0,nT tb k 0)).ah True) (by kernel_rfl) (aA trivial)
 refine nv (oZ k tb) (fun i=>((i:Int),nT tb k i)) k.length (fun g=>(i64.wrap (g.1+1),Ao tb g.2 (k.getD g.1.toNat 0))) (oZ k tb) (c:=aI (aJ Tryz.f61) 7) (by kernel_rfl) (by kernel_rfl) (aC (by kernel_rfl) (by kernel_rfl) trivial)
  (fun i hi=>by show (_,_)=(_,_);rw[aQ (by omega),Int.toNat_natCast];rfl) ?_ ?_
 ·intro i hi
  generalize nT tb k i=s
  refine aP hsp mixed 2 (oZ k tb ((i:Int),s)) (i<k.length) ?_ (fun hlt=>?_)
  ·refine ao (X:=((decide ((i:Int)<(k.length:Int))=true->(oZ k tb ((i:Int),s)).ah (i<k.length))/\(decide ((i:Int)<(k.length:Int))=false->(oZ k tb ((i:Int),s)).ah (i=k.length)))) (by kernel_rfl) ?_
   exact⟨fun h=>aA (by have:=dec_lt h;omega),fun h=>aA (by have:=dk h;omega)⟩
  have hb:0<=k.getD i 0/\k.getD i 0<256:=by
   have:k.getD i 0∈k:=by rw[List.getD_eq_getElem?_getD,List.getElem?_eq_getElem hlt];exact List.getElem_mem hlt
   exact hk _ this
  have hbi:k.getD (i:Int).toNat 0=k.getD i 0:=by rw[Int.toNat_natCast]
  generalize hbb:k.getD i 0=b at hb hbi
  obtain⟨_,d1,d2⟩:=LY hb.1 hb.2
  obtain⟨_,d3,d4⟩:=L0 hb.1 hb.2
  refine eG (c:=aI (bQ (aI (aJ Tryz.f61) 7)) 2) (by kernel_rfl) (by kernel_rfl) ?_
  refine aP hsp mixed 2 (mM k tb (i:Int) [dh (k.getD (i:Int).toNat 0),dl (k.getD (i:Int).toNat 0)] (0,tB tb [dh b,dl b] s 0)) True ?_ (fun _=>?_)
  ·refine ao (X:=((0<=(i:Int)/\(i:Int)<(k.length:Int))/\(i:Int).toNat<k.length/\(0:Int)<=4/\(mM k tb (i:Int) [dh (k.getD (i:Int).toNat 0),dl (k.getD (i:Int).toNat 0)] (0,tB tb [dh b,dl b] s 0)).ah True)) (by kernel_rfl) ?_
   exact⟨⟨by omega,by omega⟩,by omega,by decide,aA trivial⟩
  rw[hbi]
  generalize hds:[dh b,dl b]=ds
  have hdd:∀ j,j<2->0<=ds.getD j 0/\ds.getD j 0<16:=by
   intro j hj
   subst hds
   match j,hj with
   | 0,_=>exact⟨d1,d2⟩
   | 1,_=>exact⟨d3,d4⟩
  refine nv (mM k tb (i:Int) ds) (fun j=>((j:Int),tB tb ds s j)) 2 (fun g=>(i64.wrap (g.1+1),yj tb g.2 (ds.getD g.1.toNat 0))) (mM k tb (i:Int) ds) (c:=aI (fz (aI (bQ (aI (aJ Tryz.f61) 7)) 2)) 2) (by kernel_rfl) (by kernel_rfl) (aC (by kernel_rfl) (by kernel_rfl) trivial)
   (fun j hj=>by show (_,_)=(_,_);rw[aQ (by omega),Int.toNat_natCast];rfl) ?_ ?_
  ·intro j hj
   generalize tB tb ds s j=y
   refine aP hsp mixed 2 (mM k tb (i:Int) ds ((j:Int),y)) (j<2) ?_ (fun hj2=>?_)
   ·refine ao (X:=((decide ((j:Int)<2)=true->(mM k tb (i:Int) ds ((j:Int),y)).ah (j<2))/\(decide ((j:Int)<2)=false->(mM k tb (i:Int) ds ((j:Int),y)).ah (j=2)))) (by kernel_rfl) ?_
    exact⟨fun h=>aA (by have:=dec_lt h;omega),fun h=>aA (by have:=dk h;omega)⟩
   have hd:=hdd j hj2
   have hdj:ds.getD (j:Int).toNat 0=ds.getD j 0:=by rw[Int.toNat_natCast]
   generalize ds.getD j 0=d at hd hdj
   refine eG (c:=aI (bQ (aI (fz (aI (bQ (aI (aJ Tryz.f61) 7)) 2)) 2)) 2) (by kernel_rfl) (by kernel_rfl) ?_
   refine aP hsp mixed 2 (vF k tb (i:Int) ds (j:Int) (ds.getD (j:Int).toNat 0) (0,yh y 0)) True ?_ (fun _=>?_)
   ·refine ao (X:=((0<=(j:Int)/\(j:Int)<(2:Int))/\(vF k tb (i:Int) ds (j:Int) (ds.getD (j:Int).toNat 0) (0,yh y 0)).ah True)) (by kernel_rfl) ?_
    exact⟨⟨by omega,by omega⟩,aA trivial⟩
   rw[hdj]
   refine dB hsp mixed (vF k tb (i:Int) ds (j:Int) d) (fun n=>((n:Int),yh y n)) 4 (fun g=>(i64.wrap (g.1+1),iF (F:=F2) g.2)) (vF k tb (i:Int) ds (j:Int) d) (c:=aI (fz (aI (bQ (aI (fz (aI (bQ (aI (aJ Tryz.f61) 7)) 2)) 2)) 2)) 2) (by kernel_rfl) (by kernel_rfl) (aC (by kernel_rfl) (by kernel_rfl) trivial)
    (fun n hn=>by show (_,_)=(_,_);rw[aQ (by omega)];rfl) ?_ ?_
   ·intro n hn
    generalize yh y n=z
    refine ao (X:=((decide ((n:Int)<4)=true->True/\(vF k tb (i:Int) ds (j:Int) d (i64.wrap ((n:Int)+1),iF (F:=F2) z)).ah (n<4))/\(decide ((n:Int)<4)=false->(vF k tb (i:Int) ds (j:Int) d ((n:Int),z)).ah (n=4)))) (by kernel_rfl) ?_
    exact⟨fun h=>⟨trivial,aA (by have:=dec_lt h;omega)⟩,fun h=>aA (by have:=dk h;omega)⟩
   refine aP hsp mixed 1 (mM k tb (i:Int) ds ((j:Int),yj tb y d)) True ?_ (fun _=>?_)
   ·refine ao (X:=((0<=d/\d<(16:Int))/\d.toNat<16/\True/\(mM k tb (i:Int) ds ((j:Int),yj tb y d)).ah True)) (by kernel_rfl) ?_
    exact⟨⟨hd.1,by omega⟩,by omega,trivial,aA trivial⟩
   refine ig ?_
   refine bf hsp mixed _ _ ?_
   exact ao (X:=(mM k tb (i:Int) ds (i64.wrap ((j:Int)+1),yj tb y d)).ah (j<2)) (by kernel_rfl) (aA hj2)
  refine ig ?_
  refine bf hsp mixed _ _ ?_
  have ey:Ao tb s b=tB tb ds s 2:=by unfold Ao;rw[hds]
  show VC _ _ _ (fun σ'=>σ'.le _ (oZ k tb (i64.wrap ((i:Int)+1),Ao tb s b)) (i<k.length)) _ _
  rw[ey]
  generalize tB tb ds s 2=z
  exact ao (X:=(oZ k tb (i64.wrap ((i:Int)+1),z)).ah (i<k.length)) (by kernel_rfl) (aA hlt)
 ·refine bf hsp mixed _ _ ?_
  refine ao (X:=(True/\(cZ (F:=F2) (nT tb k k.length),())=fb (p,k,()))) (by kernel_rfl) ⟨trivial,?_⟩
  show _=(cZ (F:=F2) (nT (cX (jt (df (F:=F2) p)) (0,0,0) 15) k k.length),())
  rw[htb]
def fy:Nat × Eng.Spec:=(61,ar [ba,.sl (.int .u8)] [.val ba] bX fb)
end
end Go.Proofs.YtbeeaekepmnfhaaGreatDoor.g2
namespace Go.Proofs.YtbeeaekepmnfhaaGreatDoor.g2
noncomputable section
open Go Go.Eng Go.RowKit Cr fp2
def CW (p:F2 × F2) (k:List Int):F2 × F2:=cZ (F:=F2) (nT (cX (jt (df (F:=F2) p)) (0,0,0) 15) k (List.length k))
def lE (p:F2 × F2) (k:Fr):F2 × F2:=CW p (bL 32 k.v)
theorem AQ:enters Tryz.prog 26 Tryz.f26:=ek
abbrev rC:HL [ba,.fr]->HO [.val ba]:=fun (p,k,_)=>(lE p k,())
theorem zq:aB Tryz.prog 26 [ba,.fr] [.val ba] aM (fun _=>True) rC:=by
 refine ax (sp:=aF [fr.fw,fy]) (ai (ak fr.gO) (ai (ak eF) aR)) mixed AQ (by decide) (by decide) ?_
 rintro w M0 ⟨p,k,⟨⟩⟩
 revert p k
 intro (p:F2 × F2) (k:Fr) _ _
 refine ao (X:=(True/\0+32<=32/\bX (p,(bL 32 k.v).take 32,())/\(CW p ((bL 32 k.v).take 32),())=rC (p,k,()))) (by kernel_rfl) ?_
 rw[List.take_of_length_le (by rw[cO];exact Nat.le_refl _)]
 exact⟨trivial,by decide,⟨kt _ _,by show (bL 32 k.v).length<_;rw[cO];decide⟩,rfl⟩
def aa8:Nat × Eng.Spec:=(26,ar [ba,.fr] [.val ba] (fun _=>True) rC)
end
end Go.Proofs.YtbeeaekepmnfhaaGreatDoor.g2
namespace Go.Proofs.YtbeeaekepmnfhaaGreatDoor.g2
noncomputable section
open Go Go.Eng Go.RowKit Cr fp2
theorem cg:b4≠0:=fun h=>absurd (congrArg Prod.fst h) (by decide)
def gG:F2 × F2:=cr (gx,gy)
def dR (p q:F2 × F2):F2 × F2:=cr (cZ (F:=F2) (mz [p,q] 2))
def v8 (ps:List (F2 × F2)):F2 × F2:=cr (cZ (F:=F2) (mz ps ps.length))
def iE (p:F2 × F2):F2 × F2:=cr (aX (F:=F2) p)
def eY (p:F2 × F2) (k:List Int):F2 × F2:=cr (CW p k)
def a6 (p:F2 × F2) (k:Fr):F2 × F2:=cr (lE p k)
def lP (p:F2 × F2):Bool:=cr (m8 p)
theorem se:aB Tryz.prog 24 [ba,ba] [.val ba] aM (fun _=>True) (fun (p,q,_)=>(dR p q,())):=DB.out fun (p,q,_)=>by show (dR p q,())=(_,());rw[dR,ay]
theorem Y0:aB Tryz.prog 58 [.sl ba] [.val ba] aM mI (fun (ps,_)=>(v8 ps,())):=u9.out fun (ps,_)=>by show (v8 ps,())=(_,());rw[v8,ay]
theorem Ca:aB Tryz.prog 69 [ba] [.val ba] aM (fun _=>True) (fun (p,_)=>(iE p,())):=zr.out fun (p,_)=>by show (iE p,())=(_,());rw[iE,ay]
theorem A0:aB Tryz.prog 61 [ba,.sl (.int .u8)] [.val ba] aM bX (fun (p,k,_)=>(eY p k,())):=eF.out fun (p,k,_)=>by show (eY p k,())=(_,());rw[eY,ay];rfl
theorem B9:aB Tryz.prog 26 [ba,.fr] [.val ba] aM (fun _=>True) (fun (p,k,_)=>(a6 p k,())):=zq.out fun (p,k,_)=>by show (a6 p k,())=(_,());rw[a6,ay]
theorem ab8:aB Tryz.prog 30 [ba] [.val .bool] aM (fun _=>True) (fun (p,_)=>(lP p,())):=Tz.out fun (p,_)=>by show (lP p,())=(_,());rw[lP,ay]
def oy:Nat × Eng.Spec:=(24,ar [ba,ba] [.val ba] (fun _=>True) (fun (p,q,_)=>(dR p q,())))
def ac6:Nat × Eng.Spec:=(58,ar [.sl ba] [.val ba] mI (fun (ps,_)=>(v8 ps,())))
def CN:Nat × Eng.Spec:=(69,ar [ba] [.val ba] (fun _=>True) (fun (p,_)=>(iE p,())))
def zX:Nat × Eng.Spec:=(61,ar [ba,.sl (.int .u8)] [.val ba] bX (fun (p,k,_)=>(eY p k,())))
def zW:Nat × Eng.Spec:=(26,ar [ba,.fr] [.val ba] (fun _=>True) (fun (p,k,_)=>(a6 p k,())))
def aaX:Nat × Eng.Spec:=(30,ar [ba] [.val .bool] (fun _=>True) (fun (p,_)=>(lP p,())))
abbrev mE (p:F2 × F2):Prop:=aV b4 p
theorem lz:gG=(gx,gy):=ay _
theorem me:mE gG:=by
 rw[lz]
 refine .inr ?_
 show gy*gy=gx*gx*gx+b4
 refine F2.ext ?_ ?_
 ·simp only[F2.mC,F2.gK,F2.rV];decide +kernel
 ·simp only[F2.mC,F2.gK,F2.xr];decide +kernel
theorem pE {p q:F2 × F2} (hp:mE p) (hq:mE q):dR p q=ae p q:=by rw[dR,ay];exact add_eq cg hp hq
theorem V8 {ps:List (F2 × F2)} (h:∀ p∈ps,mE p):v8 ps=pS ps:=by rw[v8,ay];exact Qu cg h
theorem va (p:F2 × F2):iE p=aX p:=ay _
theorem zA {p:F2 × F2} (hp:mE p) {k:List Int} (hk:Bs k):eY p k=aq p (num k).toNat:=by rw[eY,ay];exact wZ cg hp hk
theorem eh {p:F2 × F2} (hp:mE p) (k:Fr):a6 p k=aq p k.v.toNat:=by
 rw[a6,ay,lE,CW,wZ cg hp (kt _ _),wq 32 _ k.nn (Int.lt_trans k.lt (by decide))]
theorem ry (p:F2 × F2):lP p=true↔mE p:=by rw[lP,ay];exact v9 p
end
end Go.Proofs.YtbeeaekepmnfhaaGreatDoor.g2
namespace Cr
open Rg Fd
def q9 (a b:Nat):Nat:=(a+b)%pN
def oH (a b:Nat):Nat:=(a+(pN-b%pN))%pN
def Cm (a b:Nat):Nat:=(a*b)%pN
theorem zd (a b:Nat):(zm ((q9 a b:Nat):Int):Fp)=zm (a:Int)+zm (b:Int):=vT.add_φ a b
theorem vB (a b:Nat):(zm ((oH a b:Nat):Int):Fp)=zm (a:Int)-zm (b:Int):=vT.sub_φ a b
theorem KC (a b:Nat):(zm ((Cm a b:Nat):Int):Fp)=zm (a:Int)*zm (b:Int):=vT.mul_φ a b
noncomputable def cJ:Ev F2 where
 V:=Nat × Nat
 φ n:=(zm (n.1:Int),zm (n.2:Int))
 add a b:=(q9 a.1 b.1,q9 a.2 b.2)
 sub a b:=(oH a.1 b.1,oH a.2 b.2)
 mul a b:=(oH (a.1*b.1) (a.2*b.2),q9 (a.1*b.2) (a.2*b.1))
 isz a:=Nat.beq (a.1%pN) 0&&Nat.beq (a.2%pN) 0
 zero:=(0,0)
 force a k:=fc a.1 fun x=>fc a.2 fun y=>k (x,y)
 add_φ a b:=by rw[F2.add_def,zd,zd]
 sub_φ a b:=by rw[F2.sub_def,vB,vB]
 mul_φ a b:=by
  rw[F2.mul_def,zd,vB]
  simp only[Int.natCast_mul,<- mN]
 isz_φ a:=by
  rw[Bool.and_eq_true]
  have h1:=vT.isz_φ a.1
  have h2:=vT.isz_φ a.2
  constructor
  ·rintro⟨e1,e2⟩
   exact F2.ext (h1.1 e1) (h2.1 e2)
  ·intro e
   exact⟨h1.2 (congrArg Prod.fst e),h2.2 (congrArg Prod.snd e)⟩
 zero_φ:=rfl
 force_eq a k:=by rw[zp,zp]
def qxA:Nat:=0x024aa2b2f08f0a91260805272dc51051c6e47ad4fa403b02b4510b647ae3d1770bac0326a805bbefd48056c8c121bdb8
def qxB:Nat:=0x13e02b6052719f607dacd3a088274f65596bd0d09920b61ab5da61bbdc7f5049334cf11213945d57e5ac7d055d042b7e
def qyA:Nat:=0x0ce5d527727d6e118cc9cdc6da2e351aadfd9baa8cbdd3a76d429a695160d12c923ac9cc3baca289e193548608b82801
def qyB:Nat:=0x0606c4a02ea734cc32acd2b02bc28b99cb3e287e85a763af267492ab572e99ab3f370d275cec1da1aaa9075ff05f79be
theorem aac:cJ.isz (cJ.gK ((qxA,qxB),(qyA,qyB),(1,0)) 256 52435875175126190479447740508185965837690552500527637822603658699938581184513).2.2=true:=by kernel_rfl
end Cr
namespace Go.Proofs.YtbeeaekepmnfhaaGreatDoor.g2
open Go Go.Eng Go.RowKit Cr fp2
theorem v7:gG≠O2:=by rw[lz];exact fun h=>absurd (congrArg (fun p:F2 × F2=>p.1.1) h) (by decide)
abbrev rN:Nat:=g1.rN
theorem Gy:aq gG rN=O2:=by
 have h1:du b4 (cJ.φ3 ((qxA,qxB),(qyA,qyB),((1:Nat),(0:Nat)))) gG:=by
  have h:=sL me
  unfold df at h
  rw[if_neg v7,lz] at h
  rw[lz]
  exact h
 have h2:=Ev.wg cg h1 256 rN (by decide)
 have h3:=(cJ.isz_φ _).1 aac
 rcases h2 with ⟨_,h⟩|⟨h,_⟩
 ·exact h
 ·exact absurd h3 h
def Sub (p:F2 × F2):Prop:=mE p/\aq p rN=O2
theorem lG:Sub gG:=⟨me,Gy⟩
theorem wY {p:F2 × F2} (h:Sub p) (n:Nat):Sub (aq p n):=by
 refine⟨a7 cg h.1 n,?_⟩
 rw[bu cg h.1,Nat.mul_comm,<- bu cg h.1,h.2,fV]
theorem gQ {p:F2 × F2} (h:Sub p) (k:Fr):Sub (a6 p k):=by rw[eh h.1];exact wY h _
theorem A8 {p:F2 × F2} (h:Sub p) (m:Nat):aq p m=aq p (m%rN):=by
 conv=>lhs;rw[<- Nat.div_add_mod m rN]
 rw[cn cg h.1,<- bu cg h.1,h.2,fV,ct]
theorem qW (x:Fr):∃ n:Nat,x.v=(n:Int)/\n<rN:=g1.qW x
theorem qB {p:F2 × F2} (h:Sub p) {x:Fr} {m:Nat} (hx:x.v=(m:Int)%(rN:Int)):a6 p x=aq p m:=by
 rw[eh h.1,hx,A8 h m,<- Int.natCast_emod,Int.toNat_natCast]
theorem mul_add {p:F2 × F2} (h:Sub p) (x y:Fr):a6 p (x+y)=ae (a6 p x) (a6 p y):=by
 obtain⟨m,hm,_⟩:=qW x
 obtain⟨n,hn,_⟩:=qW y
 rw[qB h (x:=x+y) (m:=m+n) (by rw[ze,hm,hn,Int.natCast_add];rfl),eh h.1,eh h.1,hm,hn,Int.toNat_natCast,Int.toNat_natCast,cn cg h.1]
theorem pJ {p:F2 × F2} (h:Sub p) (x y:Fr):a6 p (x*y)=a6 (a6 p x) y:=by
 obtain⟨m,hm,_⟩:=qW x
 obtain⟨n,hn,_⟩:=qW y
 rw[qB h (x:=x*y) (m:=m*n) (by rw[n9,hm,hn,Int.natCast_mul];rfl),eh (gQ h x).1,eh h.1,hm,hn,Int.toNat_natCast,Int.toNat_natCast,bu cg h.1]
theorem mul_zero {p:F2 × F2} (h:Sub p):a6 p 0=O2:=by
 rw[eh h.1,ma];rfl
theorem mul_one {p:F2 × F2} (h:Sub p):a6 p 1=p:=by
 rw[eh h.1,tH];exact gv
theorem mul_neg {p:F2 × F2} (h:Sub p) (x:Fr):a6 p (-x)=aX (a6 p x):=by
 have e:ae (a6 p x) (a6 p (-x))=O2:=by rw[<- mul_add h,Rg.add_neg,mul_zero h]
 have hx:=(gQ h x).1
 have hn:=(gQ h (-x)).1
 have:=cancel cg hx hn
 rw[e,dD] at this
 exact this.symm
end Go.Proofs.YtbeeaekepmnfhaaGreatDoor.g2
namespace Go.Proofs.YtbeeaekepmnfhaaGreatDoor.g2
noncomputable section
open Go Go.Eng Go.RowKit Cr fp2
theorem Yi:enters Tryz.prog 31 Tryz.f31:=ek
def yf (p:F2 × F2):Bool:=m8 p&&decide (lE p (-1)=aX (F:=F2) p)
abbrev MF:HL [ba]->HO [.val .bool]:=fun (p,_)=>(yf p,())
theorem ab4:aB Tryz.prog 31 [ba] [.val .bool] aM (fun _=>True) MF:=by
 refine ax (sp:=aF [af5,fr.ly,fr.jb,aa8,aa9]) (ai (ak Tz) (ai (ak fr.nL) (ai (ak fr.iA) (ai (ak zq) (ai (ak zr) aR))))) mixed Yi (by decide) (by decide) ?_
 rintro w M0 ⟨p,⟨⟩⟩
 revert p
 intro (p:F2 × F2) _ _
 refine ao (X:=(True/\(m8 p=true->dF 1/\True/\True/\True/\(gm ((Kd.fp.pair Kd.fp).pair (Kd.fp.pair Kd.fp)) (lE p (-Fc 1)) (p.fst,-p.snd),())=MF (p,()))/\(m8 p=false->(false,())=MF (p,())))) (by kernel_rfl) ?_
 rw[Gj]
 refine⟨trivial,fun h=>⟨by constructor<;>decide,trivial,trivial,trivial,?_⟩,fun h=>?_⟩
 ·show _=(yf p,())
  rw[yf,h,Bool.true_and]
  rfl
 ·show _=(yf p,())
  rw[yf,h,Bool.false_and]
def my (p:F2 × F2):Bool:=cr (yf p)
theorem ab7:aB Tryz.prog 31 [ba] [.val .bool] aM (fun _=>True) (fun (p,_)=>(my p,())):=ab4.out fun (p,_)=>by show (my p,())=(_,());rw[my,ay]
def aaV:Nat × Eng.Spec:=(31,ar [ba] [.val .bool] (fun _=>True) (fun (p,_)=>(my p,())))
theorem CU {p:F2 × F2} (h:Sub p):my p=true:=by
 rw[my,ay,yf]
 have h1:m8 p=true:=(v9 p).2 h.1
 have h2:lE p (-1)=aX p:=by
  have:=mul_neg h 1
  rw[mul_one h,a6,ay] at this
  exact this
 rw[h1,h2];simp
theorem Za {p:F2 × F2} (h:mE p):my p=decide (aq p rN=(0,0)):=by
 rw[Bool.eq_iff_iff,decide_eq_true_iff]
 constructor
 ·intro hi
  rw[my,ay,yf,Bool.and_eq_true,decide_eq_true_iff] at hi
  have e:lE p (-1)=aq p (rN-1):=by
   have:=eh h (-1)
   rw[a6,ay] at this
   rw[this];rfl
  rw[e] at hi
  have:aq p (rN-1+1)=ae (aq p (rN-1)) p:=rfl
  rw[hi.2,eZ] at this
  exact this
 ·intro hi;exact CU ⟨h,hi⟩
end
end Go.Proofs.YtbeeaekepmnfhaaGreatDoor.g2
namespace Go.Proofs.YtbeeaekepmnfhaaGreatDoor.codec
noncomputable section
open Go Go.Eng Go.RowKit Cr
theorem L7:enters Tryz.prog 77 Tryz.f77:=ek
def uh (p:F2 × F2):(F2 × F2) × Int:=if p=((0:F2),(0:F2)) then (((0:F2),(0:F2)),13) else if g2.lP p=true then (if g2.my p=true then (p,0) else (((0:F2),(0:F2)),14)) else (((0:F2),(0:F2)),13)
def Nb (y:F2) (l:Bool):F2:=if fp2.ve y=l then y else -y
def wM (x:F2):F2:=(fp2.bF (x*x*x+(zm 4,zm 4))).1
def lF (b:List Int):(F2 × F2) × Int :=
 if (bP b 96).2.2=0 then
  if sf b=true then (((0:F2),(0:F2)),0)
  else if (fp2.bY ((jV b).take 96)).2=0 then
   if nt b=true then uh ((fp2.bY ((jV b).take 96)).1,Nb (wM (fp2.bY ((jV b).take 96)).1) (vf b))
   else if (fp2.bY ((jV b).drop 96)).2=0 then uh ((fp2.bY ((jV b).take 96)).1,(fp2.bY ((jV b).drop 96)).1)
   else (((0:F2),(0:F2)),12)
  else (((0:F2),(0:F2)),12)
 else (((0:F2),(0:F2)),(bP b 96).2.2)
abbrev oe:HL [.sl (.int .u8)]->HO [.val g2.ba,.val (.int .i64)]:=fun (b,_)=>((lF b).1,(lF b).2,())
def rhC (g:Int × List Int):St:=aY Tryz.f77.ntmps 144 [(2,.is (.one (.ptr 0 0))),(3,sI .i64 0),(4,.is (.one (.sl 24 0 0 g.2.length 1))),(5,sI .u8 g.1)] [(0,g2.pc (0,0)),(24,[.ints .u8 g.2.length g.2])]
def Uk (p:F2 × F2):St:=aY Tryz.f77.ntmps 352 [(2,.is (.one (.ptr 0 0))),(3,sI .i64 0),(7,.is (.one (.ptr 144 0)))] [(0,g2.pc (0,0)),(144,g2.pc p)]
theorem OC:aB Tryz.prog 77 [.sl (.int .u8)] [.val g2.ba,.val (.int .i64)] aM wE oe:=by
 have hsp:aN Tryz.prog (aF [Qj,fp2.sW,fp2.bJ,fp2.cK,fp2.cv,fp2.ln,fp2.yO,fp2.vy,fp2.jb,g2.aaX,g2.aaV]):=(ai (ak VT) (ai (ak fp2.u7) (ai (ak fp2.b9) (ai (ak fp2.cL) (ai (ak fp2.cC) (ai (ak fp2.lK) (ai (ak fp2.zu) (ai (ak fp2.vX) (ai (ak fp2.iA) (ai (ak g2.ab8) (ai (ak g2.ab7) aR)))))))))))
 refine bh (sp:=aF [Qj,fp2.sW,fp2.bJ,fp2.cK,fp2.cv,fp2.ln,fp2.yO,fp2.vy,fp2.jb,g2.aaX,g2.aaV]) L7 (by decide) (by decide) (by kernel_rfl) ?_
 rintro w M0 ⟨b,⟨⟩⟩
 revert b
 intro (b:List Int) _ hp
 obtain⟨hb,hl⟩:=hp
 have hl:b.length<=1000000:=hl
 show Tr _ _ _ _ _ _ _
 have pp:zN (b,96,()):=⟨⟨hb,hl⟩,by decide,by decide⟩
 refine eB hsp mixed 4 (fun σ=>(bU (.int .u8) 5 σ,cN (.int .u8) 24 σ)) rhC (rgK b 96) ?_ ?_
 ·refine ao (X:=(zN (b,96,())/\(((bP b 96).snd.snd != 0)=true->((((0:Fp),(0:Fp)),(0:Fp),(0:Fp)),(bP b 96).snd.snd,())=oe (b,()))/\(((bP b 96).snd.snd != 0)=false->((av BinOp.and IntKind.u8 (bP b 96).snd.fst 64 != 0)=true->((((0:Fp),(0:Fp)),(0:Fp),(0:Fp)),(bP b 96).snd.snd,())=oe (b,()))/\((av BinOp.and IntKind.u8 (bP b 96).snd.fst 64 != 0)=false->(rhC ((bP b 96).snd.fst,(bP b 96).fst)).ah (rgK b 96 ((bP b 96).snd.fst,(bP b 96).fst)))))) (by kernel_rfl) ?_
  have s2:(bP b 96).2.2=0->(av .and .u8 (bP b 96).2.1 64 != 0)=sf b:=fun h=>by rw[(zG h).1];rfl
  refine⟨pp,fun h=>?_,fun h=>?_⟩
  ·have h:¬ (bP b 96).2.2=0:=by simpa using h
   show _=((lF b).1,(lF b).2,())
   rw[lF,if_neg h];rfl
  ·have h:(bP b 96).2.2=0:=by simpa using h
   rw[s2 h]
   refine⟨fun h2=>?_,fun h2=>aA ⟨?_,?_,h,h2⟩⟩
   ·show _=((lF b).1,(lF b).2,())
    rw[lF,if_pos h,if_pos h2,h];rfl
   ·show (bP b 96).2.1=xa b
    rw[(zG h).1]
   ·show (bP b 96).1=jV b
    rw[(zG h).1]
 rintro⟨br,bd⟩ hK
 revert br bd
 intro (br:Int) (bd:List Int) ⟨k1,k2,k3,k4⟩
 have k1:br=xa b:=k1
 have k2:bd=jV b:=k2
 obtain⟨_,ha,hlen⟩:=zG k3
 have hbl:bd.length=b.length:=by rw[k2,U3]
 have hbs:Bs bd:=by rw[k2];exact XL hb
 have s1:(av .and .u8 br 128==0)=!nt b:=by rw[nt,k1];cases h:(av .and .u8 (xa b) 128==0)<;>simp[bne,h]
 have s3:(av .and .u8 br 32 != 0)=vf b:=by rw[vf,k1]
 refine eB hsp mixed 6 (fun σ=>ga g2.ba 144 σ) Uk (fun p=>lF b=uh p) ?_ ?_
 ·refine ao (X:=(((0:Int)<=96/\96<=(bd.length:Int))/\0+96<=bd.length/\fp2.iO (List.take 96 bd,())/\(((fp2.bY (List.take 96 bd)).snd != 0)=true->((((0:Fp),(0:Fp)),(0:Fp),(0:Fp)),12,())=oe (b,()))/\(((fp2.bY (List.take 96 bd)).snd != 0)=false->((av BinOp.and IntKind.u8 br (128:Int)==0)=true->((0:Int)<=96/\96<=(bd.length:Int))/\96+((bd.length:Int)-96).toNat<=bd.length/\fp2.iO (List.take ((bd.length:Int)-96).toNat (List.drop 96 bd),())/\(((fp2.bY (List.take ((bd.length:Int)-96).toNat (List.drop 96 bd))).snd != 0)=true->((((0:Fp),(0:Fp)),(0:Fp),(0:Fp)),12,())=oe (b,()))/\(((fp2.bY (List.take ((bd.length:Int)-96).toNat (List.drop 96 bd))).snd != 0)=false->(Uk ((fp2.bY (List.take 96 bd)).fst,(fp2.bY (List.take ((bd.length:Int)-96).toNat (List.drop 96 bd))).fst)).ah (lF b=uh ((fp2.bY (List.take 96 bd)).fst,(fp2.bY (List.take ((bd.length:Int)-96).toNat (List.drop 96 bd))).fst))))/\((av BinOp.and IntKind.u8 br (128:Int)==0)=false->True/\True/\(dF 4/\dF 4)/\True/\True/\True/\((!fp2.ve (fp2.bF ((fp2.bY (List.take 96 bd)).fst*(fp2.bY (List.take 96 bd)).fst*(fp2.bY (List.take 96 bd)).fst+(aj 4,aj 4))).fst==(av BinOp.and IntKind.u8 br 32 != 0))=true->True/\(Uk ((fp2.bY (List.take 96 bd)).fst,-(fp2.bF ((fp2.bY (List.take 96 bd)).fst*(fp2.bY (List.take 96 bd)).fst*(fp2.bY (List.take 96 bd)).fst+(aj 4,aj 4))).fst)).ah (lF b=uh ((fp2.bY (List.take 96 bd)).fst,-(fp2.bF ((fp2.bY (List.take 96 bd)).fst*(fp2.bY (List.take 96 bd)).fst*(fp2.bY (List.take 96 bd)).fst+(aj 4,aj 4))).fst)))/\((!fp2.ve (fp2.bF ((fp2.bY (List.take 96 bd)).fst*(fp2.bY (List.take 96 bd)).fst*(fp2.bY (List.take 96 bd)).fst+(aj 4,aj 4))).fst==(av BinOp.and IntKind.u8 br 32 != 0))=false->(Uk ((fp2.bY (List.take 96 bd)).fst,(fp2.bF ((fp2.bY (List.take 96 bd)).fst*(fp2.bY (List.take 96 bd)).fst*(fp2.bY (List.take 96 bd)).fst+(aj 4,aj 4))).fst)).ah (lF b=uh ((fp2.bY (List.take 96 bd)).fst,(fp2.bF ((fp2.bY (List.take 96 bd)).fst*(fp2.bY (List.take 96 bd)).fst*(fp2.bY (List.take 96 bd)).fst+(aj 4,aj 4))).fst))))))) (by kernel_rfl) ?_
  rw[s1,s3,show List.take ((bd.length:Int)-96).toNat (List.drop 96 bd)=List.drop 96 bd from List.take_of_length_le (by simp;omega)]
  have er:lF b=if (fp2.bY (bd.take 96)).2=0 then
    if nt b=true then uh ((fp2.bY (bd.take 96)).1,Nb (wM (fp2.bY (bd.take 96)).1) (vf b))
    else if (fp2.bY (bd.drop 96)).2=0 then uh ((fp2.bY (bd.take 96)).1,(fp2.bY (bd.drop 96)).1)
    else (((0:F2),(0:F2)),12)
   else (((0:F2),(0:F2)),12):=by rw[lF,if_pos k3,if_neg (by rw[k4];decide),k2]
  have r1:fp2.iO (bd.take 96,()):=fun x hx=>hbs x (List.mem_of_mem_take hx)
  have r2:fp2.iO (bd.drop 96,()):=fun x hx=>hbs x (List.mem_of_mem_drop hx)
  generalize hX:(fp2.bY (bd.take 96))=X at *
  generalize hY:(fp2.bY (bd.drop 96))=Y at *
  rw[show (fp2.bF (X.1*X.1*X.1+(aj 4,aj 4))).1=wM X.1 from rfl]
  refine⟨⟨by decide,by omega⟩,by omega,r1,fun h=>?_,fun h=>⟨fun h2=>⟨⟨by decide,by omega⟩,by omega,r2,fun h3=>?_,fun h3=>aA ?_⟩,fun h2=>⟨trivial,trivial,⟨by constructor<;>decide,by constructor<;>decide⟩,trivial,trivial,trivial,fun h3=>⟨trivial,aA ?_⟩,fun h3=>aA ?_⟩⟩⟩
  ·show _=((lF b).1,(lF b).2,())
   rw[er,if_neg (by simpa using h)];rfl
  ·show _=((lF b).1,(lF b).2,())
   rw[er,if_pos (by simpa using h),if_neg (by simpa using h2),if_neg (by simpa using h3)];rfl
  ·rw[er,if_pos (by simpa using h),if_neg (by simpa using h2),if_pos (by simpa using h3)]
  ·rw[er,if_pos (by simpa using h),if_pos (by simpa using h2),Nb,if_neg (by simpa using h3)]
  ·rw[er,if_pos (by simpa using h),if_pos (by simpa using h2),Nb,if_pos (by simpa using h3)]
 intro (p:F2 × F2) (hp:lF b=uh p)
 refine bf hsp mixed _ _ ?_
 refine ao (X:=((gm ((Kd.fp.pair Kd.fp).pair (Kd.fp.pair Kd.fp)) p (((0:Fp),(0:Fp)),(0:Fp),(0:Fp))=true->((((0:Fp),(0:Fp)),(0:Fp),(0:Fp)),13,())=oe (b,()))/\(gm ((Kd.fp.pair Kd.fp).pair (Kd.fp.pair Kd.fp)) p (((0:Fp),(0:Fp)),(0:Fp),(0:Fp))=false->True/\((!g2.lP p)=true->((((0:Fp),(0:Fp)),(0:Fp),(0:Fp)),13,())=oe (b,()))/\((!g2.lP p)=false->True/\((!g2.my p)=true->((((0:Fp),(0:Fp)),(0:Fp),(0:Fp)),14,())=oe (b,()))/\((!g2.my p)=false->(p,0,())=oe (b,())))))) (by kernel_rfl) ?_
 rw[g2.Gj]
 refine⟨fun h=>?_,fun h=>⟨trivial,fun h2=>?_,fun h2=>⟨trivial,fun h3=>?_,fun h3=>?_⟩⟩⟩
 all_goals show _=((lF b).1,(lF b).2,())
 all_goals rw[hp,uh]
 ·rw[if_pos (show p=((0:F2),(0:F2)) from Odt h)];try rfl
 ·rw[if_neg (show ¬ p=((0:F2),(0:F2)) from Odf h),if_neg (by simpa using h2)];try rfl
 ·rw[if_neg (show ¬ p=((0:F2),(0:F2)) from Odf h),if_pos (by simpa using h2),if_neg (by simpa using h3)];try rfl
 ·rw[if_neg (show ¬ p=((0:F2),(0:F2)) from Odf h),if_pos (by simpa using h2),if_pos (by simpa using h3)];try rfl
end
end Go.Proofs.YtbeeaekepmnfhaaGreatDoor.codec
namespace Go.Proofs.YtbeeaekepmnfhaaGreatDoor.codec
open Go Go.Eng Go.RowKit Cr
theorem uG:∀ v:Fin 32,∀ k:Fin 8,av .and .u8 ((v.val+32*k.val:Nat):Int) 224=((32*k.val:Nat):Int)/\av .andNot .u8 ((v.val+32*k.val:Nat):Int) 224=((v.val:Nat):Int)/\(av .and .u8 ((32*k.val:Nat):Int) 128 != 0)=decide (4<=k.val)/\(av .and .u8 ((32*k.val:Nat):Int) 64 != 0)=decide (k.val/2%2=1)/\(av .and .u8 ((32*k.val:Nat):Int) 32 != 0)=decide (k.val%2=1):=by decide +kernel
theorem Z9:∀ v:Fin 32,av .or .u8 ((v.val:Nat):Int) 128=((v.val+32*4:Nat):Int)/\av .or .u8 ((v.val:Nat):Int) 160=((v.val+32*5:Nat):Int)/\av .or .u8 ((v.val:Nat):Int) 192=((v.val+32*6:Nat):Int)/\av .or .u8 ((v.val:Nat):Int) 64=((v.val+32*2:Nat):Int):=by decide +kernel
def BD (l:List Int):Prop:=1<=l.length/\0<=l.getD 0 0/\l.getD 0 0<32
def qX (l:List Int) (k:Nat):List Int:=l.set 0 (l.getD 0 0+((32*k:Nat):Int))
theorem BD.cons {l:List Int} (h:BD l):∃ (v:Nat) (t:List Int),v<32/\l=((v:Nat):Int)::t:=by
 obtain⟨h1,h2,h3⟩:=h
 cases l with
 | nil=>simp at h1
 | cons a t =>
  simp at h2 h3
  exact⟨a.toNat,t,by omega,by rw[Int.toNat_of_nonneg h2]⟩
theorem A2 (v:Nat) (t:List Int) (k:Nat):qX (((v:Nat):Int)::t) k=((v+32*k:Nat):Int)::t:=by
 simp[qX]
theorem Ki (l:List Int) (k:Nat):(qX l k).length=l.length:=by rw[qX,List.length_set]
theorem DE {l:List Int} (h:BD l) {k:Nat} (hk:k<8):xa (qX l k)=((32*k:Nat):Int):=by
 obtain⟨v,t,hv,rfl⟩:=h.cons
 rw[A2]
 exact (uG ⟨v,hv⟩ ⟨k,hk⟩).1
theorem V9 {l:List Int} (h:BD l) {k:Nat} (hk:k<8):jV (qX l k)=l:=by
 obtain⟨v,t,hv,rfl⟩:=h.cons
 rw[A2,jV]
 show av .andNot .u8 ((v+32*k:Nat):Int) 224::t=_
 rw[(uG ⟨v,hv⟩ ⟨k,hk⟩).2.1]
theorem Zg {l:List Int} (h:BD l) {k:Nat} (hk:k<8):nt (qX l k)=decide (4<=k):=by
 rw[nt,DE h hk];exact (uG ⟨0,by decide⟩ ⟨k,hk⟩).2.2.1
theorem Zd {l:List Int} (h:BD l) {k:Nat} (hk:k<8):sf (qX l k)=decide (k/2%2=1):=by
 rw[sf,DE h hk];exact (uG ⟨0,by decide⟩ ⟨k,hk⟩).2.2.2.1
theorem Ze {l:List Int} (h:BD l) {k:Nat} (hk:k<8):vf (qX l k)=decide (k%2=1):=by
 rw[vf,DE h hk];exact (uG ⟨0,by decide⟩ ⟨k,hk⟩).2.2.2.2
theorem Zf {l:List Int} (h:BD l):l.set 0 (av .or .u8 (l.getD 0 0) 128)=qX l 4/\l.set 0 (av .or .u8 (l.getD 0 0) 160)=qX l 5/\l.set 0 (av .or .u8 (l.getD 0 0) 192)=qX l 6/\l.set 0 (av .or .u8 (l.getD 0 0) 64)=qX l 2:=by
 obtain⟨v,t,hv,rfl⟩:=h.cons
 obtain⟨e1,e2,e3,e4⟩:=Z9 ⟨v,hv⟩
 simp only[A2]
 refine⟨?_,?_,?_,?_⟩
 ·exact congrArg (· :: t) e1
 ·exact congrArg (· :: t) e2
 ·exact congrArg (· :: t) e3
 ·exact congrArg (· :: t) e4
structure iL (F:Type) where
 n:Nat
 bts:F->List Int
 rd:List Int->F × Int
 lg:F->Bool
 rt:F->F
 lP:F × F->Bool
 my:F × F->Bool
section
variable {F:Type} [Cr.Fd F] [DecidableEq F]
structure iL.Ok (S:iL F):Prop where
 n0:1<=S.n
 len:∀ x,(S.bts x).length=S.n
 bs:∀ x,Bs (S.bts x)
 hd:∀ x,(S.bts x).getD 0 0<32
 rdb:∀ x,S.rd (S.bts x)=(x,0)
 brd:∀ b,Bs b->(S.rd b).2=0->S.bts (S.rd b).1=b
 lgn:∀ y,y≠0->S.lg (-y)=!S.lg y
 z:S.bts 0=List.replicate S.n 0
 root:∀ x y,S.lP (x,y)=true->(x,y)≠((0:F),(0:F))->y=S.rt x\/y=-S.rt x
 on0:S.lP (0,0)=true
 in0:S.my (0,0)=true
 iny:∀ x y,S.lP (x,y)=true->S.my (x,y)=true->(x,y)≠((0:F),(0:F))->y≠0/\x≠0
 onn:∀ x y,S.lP (x,y)=true->S.lP (x,-y)=true
 inn:∀ x y,S.lP (x,y)=true->S.my (x,y)=true->S.my (x,-y)=true
def iL.K4 (S:iL F) (y:F) (l:Bool):F:=if S.lg y=l then y else -y
def iL.Ez (S:iL F) (p:F × F):(F × F) × Int:=if p=((0:F),(0:F)) then (((0:F),(0:F)),13) else if S.lP p=true then (if S.my p=true then (p,0) else (((0:F),(0:F)),14)) else (((0:F),(0:F)),13)
def iL.rg (S:iL F) (b:List Int):(F × F) × Int :=
 if (bP b S.n).2.2=0 then
  if sf b=true then (((0:F),(0:F)),0)
  else if (S.rd ((jV b).take S.n)).2=0 then
   if nt b=true then S.Ez ((S.rd ((jV b).take S.n)).1,S.K4 (S.rt (S.rd ((jV b).take S.n)).1) (vf b))
   else if (S.rd ((jV b).drop S.n)).2=0 then S.Ez ((S.rd ((jV b).take S.n)).1,(S.rd ((jV b).drop S.n)).1)
   else (((0:F),(0:F)),12)
  else (((0:F),(0:F)),12)
 else (((0:F),(0:F)),(bP b S.n).2.2)
def iL.short (S:iL F) (p:F × F):List Int:=(S.bts p.1).set 0 (av .or .u8 ((S.bts p.1).getD 0 0) (if p=((0:F),(0:F)) then (192:Int) else if S.lg p.2=true then 160 else 128))
def iL.full (S:iL F) (p:F × F):List Int:=if p=((0:F),(0:F)) then (S.bts p.1++S.bts p.2).set 0 (av .or .u8 ((S.bts p.1++S.bts p.2).getD 0 0) 64) else S.bts p.1++S.bts p.2
variable {S:iL F}
omit [DecidableEq F] in
theorem iL.Ok.Xy (h:S.Ok) (x:F):BD (S.bts x):=by
 have hl:=h.len x
 have h0:=h.n0
 refine⟨by omega,?_,h.hd x⟩
 cases hx:S.bts x with
 | nil=>simp
 | cons a t =>
  have:=h.bs x a (by rw[hx];simp)
  simpa using this.1
theorem iL.Ok.Bo (h:S.Ok) (p:F × F):S.short p=qX (S.bts p.1) (if p=((0:F),(0:F)) then 6 else if S.lg p.2=true then 5 else 4):=by
 obtain⟨e1,e2,e3,e4⟩:=Zf (h.Xy p.1)
 unfold iL.short
 split
 ·exact e3
 ·split
  ·exact e2
  ·exact e1
omit [DecidableEq F] in
theorem iL.Ok.nz (h:S.Ok) {x:F} (hx:x≠0):∃ v∈S.bts x,v≠0:=by
 refine Classical.byContradiction fun c=>hx ?_
 have e:S.bts x=List.replicate S.n 0:=by
  rw[<- h.len x]
  refine List.eq_replicate_of_mem fun v hv=>Classical.byContradiction fun c2=>c ⟨v,hv,c2⟩
 have h1:=h.rdb x
 rw[e,<- h.z,h.rdb] at h1
 exact (congrArg Prod.fst h1).symm
theorem iL.Ok.aaG {l:List Int} (hl:BD l) {k:Nat} (hk:k<8):S.rg (qX l k) =
  if l.length≠S.n/\l.length≠2*S.n then (((0:F),(0:F)),10)
  else if decide (4<=k)≠decide (l.length=S.n) then (((0:F),(0:F)),11)
  else if k%2=1/\(k<4\/k/2%2=1) then (((0:F),(0:F)),11)
  else if k/2%2=1 then (if ∃ v∈l,v≠0 then (((0:F),(0:F)),11) else (((0:F),(0:F)),0))
  else if (S.rd (l.take S.n)).2=0 then
   if 4<=k then S.Ez ((S.rd (l.take S.n)).1,S.K4 (S.rt (S.rd (l.take S.n)).1) (decide (k%2=1)))
   else if (S.rd (l.drop S.n)).2=0 then S.Ez ((S.rd (l.take S.n)).1,(S.rd (l.drop S.n)).1)
   else (((0:F),(0:F)),12)
  else (((0:F),(0:F)),12):=by
 unfold iL.rg bP
 rw[V9 hl hk,Zg hl hk,Zd hl hk,Ze hl hk,Ki]
 have c1:((l.length:Int)≠(S.n:Int)/\(l.length:Int)≠2*(S.n:Int))↔(l.length≠S.n/\l.length≠2*S.n):=by omega
 have c2:decide ((l.length:Int)=(S.n:Int))=decide (l.length=S.n):=by simp[Int.ofNat_inj]
 by_cases h1:l.length≠S.n/\l.length≠2*S.n
 ·simp only[if_pos (c1.2 h1),if_pos h1]
  rw[if_neg (by decide)]
 ·simp only[if_neg (fun c=>h1 (c1.1 c)),if_neg h1,c2]
  by_cases h2:decide (4<=k)≠decide (l.length=S.n)
  ·simp only[if_pos h2]
   rw[if_neg (by decide)]
  ·simp only[if_neg h2]
   have c3:(decide (k%2=1)=true/\(decide (4<=k)=false\/decide (k/2%2=1)=true))↔(k%2=1/\(k<4\/k/2%2=1)):=by
    simp only[decide_eq_true_iff,decide_eq_false_iff_not]
    omega
   by_cases h3:k%2=1/\(k<4\/k/2%2=1)
   ·simp only[if_pos (c3.2 h3),if_pos h3]
    rw[if_neg (by decide)]
   ·simp only[if_neg (fun c=>h3 (c3.1 c)),if_neg h3]
    by_cases h4:k/2%2=1
    ·simp only[if_pos h4,decide_eq_true h4,true_and]
     by_cases h5:∃ v∈l,v≠0
     ·simp only[if_pos h5]
      rw[if_neg (by decide)]
     ·simp only[if_neg h5]
      simp only[if_true]
    ·have h4':¬ (decide (k/2%2=1)=true):=by simpa using h4
     simp only[if_neg h4,if_neg h4',if_neg (show ¬ (decide (k/2%2=1)=true/\∃ v∈l,v≠0) from fun c=>h4' c.1),if_true]
     by_cases h6:4<=k
     ·simp only[if_pos h6,decide_eq_true h6,if_true]
     ·have h6':¬ (decide (4<=k)=true):=by simpa using h6
      simp only[if_neg h6,if_neg h6']
theorem iL.NV {p:F × F} (h0:p≠((0:F),(0:F))) (h1:S.lP p=true) (h2:S.my p=true):S.Ez p=(p,0):=by
 rw[iL.Ez,if_neg h0,if_pos h1,if_pos h2]
omit [DecidableEq F] in
theorem iL.Ok.aaR (h:S.Ok) {x y:F} (h0:(x,y)≠((0:F),(0:F))) (h1:S.lP (x,y)=true) (h2:S.my (x,y)=true):S.K4 (S.rt x) (S.lg y)=y:=by
 obtain⟨hy,_⟩:=h.iny x y h1 h2 h0
 unfold iL.K4
 rcases h.root x y h1 h0 with e|e
 ·rw[<- e,if_pos rfl]
 ·have hr:S.rt x≠0:=fun c=>hy (by rw[e,c,Rg.neg_zero])
  rw[if_neg,e]
  rw[e,h.lgn _ hr]
  cases S.lg (S.rt x)<;>decide
theorem iL.Ok.Nc (h:S.Ok) {p:F × F} (h1:S.lP p=true) (h2:S.my p=true):S.rg (S.short p)=(p,0):=by
 have hn:=h.n0
 have hl:=h.len p.1
 rw[h.Bo,iL.Ok.aaG (h.Xy p.1) (by split;decide;split<;>decide),if_neg (by omega)]
 by_cases h0:p=((0:F),(0:F))
 ·rw[if_pos h0,if_neg (by simp[hl]),if_neg (by decide),if_pos (by decide),if_neg,h0]
  rintro⟨v,hv,hne⟩
  rw[h0,h.z] at hv
  exact hne (List.eq_of_mem_replicate hv)
 ·rw[if_neg h0]
  obtain⟨x,y⟩:=p
  have hx:S.rd ((S.bts x).take S.n)=(x,0):=by rw[List.take_of_length_le (by rw[h.len];exact Nat.le_refl _),h.rdb]
  have hs:=h.aaR h0 h1 h2
  by_cases hg:S.lg y=true
  ·rw[hg] at hs
   rw[if_pos hg,if_neg (by simp[h.len]),if_neg (by decide),if_neg (by decide),hx,if_pos rfl,if_pos (by decide)]
   show S.Ez (x,S.K4 (S.rt x) true)=_
   rw[hs,iL.NV h0 h1 h2]
  ·have hg':S.lg y=false:=by simpa using hg
   rw[hg'] at hs
   rw[if_neg hg,if_neg (by simp[h.len]),if_neg (by decide),if_neg (by decide),hx,if_pos rfl,if_pos (by decide)]
   show S.Ez (x,S.K4 (S.rt x) false)=_
   rw[hs,iL.NV h0 h1 h2]
end
end Go.Proofs.YtbeeaekepmnfhaaGreatDoor.codec
namespace Go.Proofs.YtbeeaekepmnfhaaGreatDoor.codec
open Go Go.Eng Go.RowKit Cr Go.Proofs.YtbeeaekepmnfhaaGreatDoor
theorem Yh:enters Tryz.prog 74 Tryz.f74:=ek
def OK (p:F2 × F2):List Int:=(fp2.xc p.1).set 0 (av .or .u8 ((fp2.xc p.1).getD 0 0) (if gm (.pair (.pair .fp .fp) (.pair .fp .fp)) p ((0,0),(0,0))=true then (192:Int) else if fp2.ve p.2=true then 160 else 128))
abbrev T0:HL [g2.ba]->HO [.val (.arr 96 (.int .u8))]:=fun (p,_)=>(OK p,())
theorem ab3:aB Tryz.prog 74 [g2.ba] [.val (.arr 96 (.int .u8))] aM (fun _=>True) T0:=by
 refine ax (sp:=aF [fp2.fw,fp2.vy,aa6]) (ai (ak fp2.gO) (ai (ak fp2.vX) (ai (ak VP) aR))) mixed Yh (by decide) (by decide) ?_
 rintro w M0 ⟨⟨x,y⟩,⟨⟩⟩ _ _
 refine ao (X:=(True/\True/\True/\0<96/\((OK (x,y),()):List Int × Unit)=T0 ((x,y),()))) (by kernel_rfl) ⟨trivial,trivial,trivial,by decide,rfl⟩
end Go.Proofs.YtbeeaekepmnfhaaGreatDoor.codec
namespace Go.Proofs.YtbeeaekepmnfhaaGreatDoor.law09
open Go Go.Eng Go.RowKit Cr Go.Proofs.YtbeeaekepmnfhaaGreatDoor Go.Proofs.YtbeeaekepmnfhaaGreatDoor.codec
end Go.Proofs.YtbeeaekepmnfhaaGreatDoor.law09
namespace Cr
open Rg Fd Go.Eng
section
variable {F:Type} [Fd F] {b:F}
theorem abc (hb:b≠0) {P:F × F} (oP:aV b P) {r:Nat} (hr:r%2=1) (h:aq P r=O2) (h0:P.2=0):P=O2:=by
 have e:aX P=P:=by
  show (P.1,-P.2)=P
  rw[h0,neg_zero,<- h0]
 have h2:aq P 2=O2:=by
  rw[A9]
  have:=bE P
  rwa [e] at this
 have hrr:r=2*(r/2)+1:=by omega
 rw[hrr,cn hb oP,<- bu hb oP,h2,fV,ct,gv] at h
 exact h
theorem SL (hb:b≠0) {P:F × F} (oP:aV b P) {r:Nat} (hr:r%3=1) (h:aq P r=O2) (h0:P.1=0):P=O2:=by
 rcases oP with rfl|o
 ·rfl
 have oP:aV b P:=.inr o
 have hl:gX P P 0:=by
  refine⟨?_,?_⟩
  ·rw[zero_mul,sub_self]
  ·rw[h0,zero_mul,zero_mul,add_zero,add_zero]
 have e:ae P P=aX P:=by
  rw[bV hb o o hl,h0]
  show (0*0-0-0,-(P.2+0*_))=(P.1,-P.2)
  rw[zero_mul,zero_mul,sub_self,sub_self,add_zero,h0]
 have h3:aq P 3=O2:=by
  show ae (aq P 2) P=O2
  rw[A9,e,eZ]
 have hrr:r=3*(r/3)+1:=by omega
 rw[hrr,cn hb oP,<- bu hb oP,h3,fV,ct,gv] at h
 exact h
end
theorem IM (n:Nat) (N:Int):bL (n+1) N=bL n (N/256)++[N%256]:=by
 unfold bL
 rw[List.range_succ,List.map_append]
 congr 1
 ·apply List.map_congr_left
  intro i hi
  have hi:=List.mem_range.1 hi
  rw[show n+1-1-i=(n-1-i)+1 by omega]
  rw[show a9 (n-1-i+1)=256*a9 (n-1-i) from rfl,<- Int.ediv_ediv_of_nonneg (by decide)]
 ·simp[a9]
theorem BT:∀ (n:Nat) (l:List Int),l.length=n->Bs l->bL n (num l)=l:=by
 intro n
 induction n with
 | zero=>intro l h _;rw[List.length_eq_zero_iff.1 h];rfl
 | succ n ih =>
  intro l h hb
  have hne:l≠[]:=by intro c;rw[c] at h;simp at h
  have e:=List.dropLast_concat_getLast hne
  have hlast:=hb _ (List.getLast_mem hne)
  have hd:Bs l.dropLast:=fun x hx=>hb x (List.dropLast_subset l hx)
  have hl:l.dropLast.length=n:=by rw[List.length_dropLast];omega
  rw[IM]
  have hn:num l=num l.dropLast*256+l.getLast hne:=by rw[<- so,e]
  rw[hn,show (num l.dropLast*256+l.getLast hne)/256=num l.dropLast by omega,show (num l.dropLast*256+l.getLast hne)%256=l.getLast hne by omega,ih _ hl hd,e]
theorem IN (n:Nat):bL n 0=List.replicate n 0:=by
 have e:((List.replicate n (0:Int)).length=n):=List.length_replicate
 have hb:Bs (List.replicate n (0:Int)):=fun x hx=>by rw[List.eq_of_mem_replicate hx];decide
 have hz:∀ n:Nat,num (List.replicate n 0)=0:=by
  intro n
  induction n with
  | zero=>rfl
  | succ n ih=>rw[List.replicate_succ',so,ih];rfl
 have:=BT n _ e hb
 rwa [hz] at this
theorem NU {N:Int} (h0:0<=N) (h1:N<Mp):(bL 48 N).getD 0 0<32:=by
 show N/a9 47%256<32
 have hm:Mp<=32*a9 47:=by decide +kernel
 have hp:0<a9 47:=gw 47
 have:N/a9 47<32:=Int.ediv_lt_of_lt_mul hp (by omega)
 have:0<=N/a9 47:=Int.ediv_nonneg h0 (Int.le_of_lt hp)
 omega
theorem Z0 {y:Fp} (h:y≠0):(-y).v=Mp-y.v:=by
 have h0:=y.nn
 have h1:=y.lt
 have:y.v≠0:=fun c=>h (Zm.ext (by rw[c,ma]))
 rw[Cn,<- Int.add_emod_right]
 rw[Int.emod_eq_of_lt (by omega) (by omega)]
 omega
theorem Pb {y:Fp} (h:y≠0):decide ((- -y).v<(-y).v)=!decide ((-y).v<y.v):=by
 rw[neg_neg]
 have e:=Z0 h
 have hodd:Mp%2=1:=by decide +kernel
 by_cases c:(-y).v<y.v
 ·rw[decide_eq_true c,decide_eq_false (by omega)];rfl
 ·rw[decide_eq_false c,decide_eq_true (by omega)];rfl
end Cr
namespace Go.Proofs.YtbeeaekepmnfhaaGreatDoor.codec
open Go Go.Eng Go.RowKit Cr Go.Proofs.YtbeeaekepmnfhaaGreatDoor Rg Fd
theorem fT (y:Fp):(fp.aT (y*y)).2=true:=by
 by_cases hy:y=0
 ·rw[hy,mul_zero];exact fp2.Am
 ·unfold fp.aT
  have e:jG (y*y) fp.oh*jG (y*y) fp.oh=y*y:=by
   have hf:=Es hy
   rw[ti] at hf ⊢
   rw[<- Ab,<- zpow_add]
   have en:2*fp.oh.toNat+2*fp.oh.toNat=(4002409555221667393417789825735904156556882819939007885332058136124031650490837864442687629129015664037894272559785:Int).toNat+1+1+1:=Odt (by kernel_rfl)
   rw[en]
   generalize (4002409555221667393417789825735904156556882819939007885332058136124031650490837864442687629129015664037894272559785:Int).toNat=m at *
   show zpow y m*y*y*y=y*y
   rw[mul_comm (zpow y m) y,hf,one_mul]
  rw[if_pos e]
theorem Br (z:F2):(fp2.bF (z*z)).2=true:=by
 obtain⟨c,d⟩:=z
 have e1:(((c,d):F2)*(c,d)).1=c*c-d*d:=F2.mC _ _
 have e2:(((c,d):F2)*(c,d)).2=c*d+d*c:=F2.gK _ _
 by_cases hb:(((c,d):F2)*(c,d)).2=0
 ·rw[fp2.bF,if_pos hb]
  by_cases h1:(fp.aT (((c,d):F2)*(c,d)).1).2=true
  ·rw[if_pos h1]
  ·rw[if_neg h1]
   show (fp.aT (-(((c,d):F2)*(c,d)).1)).2=true
   rw[e1] at h1 ⊢
   rw[e2,mul_comm d c] at hb
   rcases mul_eq_zero (j8 hb) with h|h
   ·rw[h,q_8,neg_neg];exact fT d
   ·rw[h,mul_zero,sub_def,neg_zero,add_zero] at h1
    exact absurd (fT c) h1
 ·rw[fp2.bF,if_neg hb,e1,e2,q_5,if_pos (fT _)]
  have hn:=fp2.lO (fT (c*c+d*d))
  generalize (fp.aT ((c*c+d*d)*(c*c+d*d))).1=n at *
  rcases CQ hn with h|h
  ·rw[h,q_6,if_pos (fT _)]
  ·by_cases h2:(fp.aT (c*c-d*d+n+(c*c-d*d+n))).2=true
   ·rw[if_pos h2]
   ·rw[if_neg h2]
    show (fp.aT (c*c-d*d-n+(c*c-d*d-n))).2=true
    rw[h,q_7]
    exact fT _
theorem Uj (x:Fp):fp.eM (bL 48 x.v)=(x,0):=by
 have hlt:x.v<a9 48:=Int.lt_trans x.lt (by decide +kernel)
 rw[fp.eM,if_pos (cO _ _),wq 48 _ x.nn hlt,if_pos x.lt,gR]
theorem To {b:List Int} (hb:Bs b) (h:(fp.eM b).2=0):bL 48 (fp.eM b).1.v=b/\b.length=48:=by
 unfold fp.eM at h ⊢
 split at h
 ·rename_i hl
  rw[if_pos hl]
  split at h
  ·rename_i hm
   rw[if_pos hm]
   refine⟨?_,hl⟩
   have:(zm (num b):Fp).v=num b:=by rw[w8];exact Int.emod_eq_of_lt (sn hb).1 hm
   show bL 48 (zm (num b):Fp).v=b
   rw[this,BT 48 b hl hb]
  ·cases h
 ·cases h
noncomputable def A1:iL F2:=⟨96,fp2.xc,fp2.bY,fp2.ve,wM,g2.lP,g2.my⟩
theorem OX {x y:F2} (h1:g2.lP (x,y)=true) (h2:g2.my (x,y)=true):g2.Sub (x,y):=by
 have o:=(g2.ry _).1 h1
 rw[g2.Za o,decide_eq_true_iff] at h2
 exact⟨o,h2⟩
theorem JB (x:F2):(fp2.xc x).length=96:=by rw[fp2.xc,List.length_append,cO,cO]
theorem QR (x:F2):(fp2.xc x).take 48=bL 48 x.2.v:=by
 rw[fp2.xc,List.take_append_of_le_length (by rw[cO];exact Nat.le_refl _),List.take_of_length_le (by rw[cO];exact Nat.le_refl _)]
theorem QQ (x:F2):(fp2.xc x).drop 48=bL 48 x.1.v:=by
 have:=List.drop_left (l₁:=bL 48 x.2.v) (l₂:=bL 48 x.1.v)
 rwa [cO] at this
theorem DD:A1.Ok where
 n0:=by decide
 len x:=JB x
 bs x v hv:=by
  have hv:v∈bL 48 x.2.v++bL 48 x.1.v:=hv
  rcases List.mem_append.1 hv with c|c
  ·exact kt _ _ v c
  ·exact kt _ _ v c
 hd x:=by
  show (bL 48 x.2.v++bL 48 x.1.v).getD 0 0<32
  have:=NU x.2.nn x.2.lt
  have hl:=cO 48 x.2.v
  cases h:bL 48 x.2.v with
  | nil=>rw[h] at hl;simp at hl
  | cons a t=>rw[h] at this;exact this
 rdb x:=by
  show fp2.bY (fp2.xc x)=(x,0)
  rw[fp2.bY,if_pos (JB x),QR,QQ,Uj,Uj,if_pos rfl,if_pos rfl]
 brd b hb h:=by
  have h:(fp2.bY b).2=0:=h
  show fp2.xc (fp2.bY b).1=b
  unfold fp2.bY at h ⊢
  split at h
  ·rename_i hl
   rw[if_pos hl]
   split at h
   ·rename_i h1
    rw[if_pos h1]
    split at h
    ·rename_i h2
     rw[if_pos h2]
     have e1:=(To (fun v hv=>hb v (List.mem_of_mem_take hv)) h1).1
     have e2:=(To (fun v hv=>hb v (List.mem_of_mem_drop hv)) h2).1
     show bL 48 (fp.eM (b.take 48)).1.v++bL 48 (fp.eM (b.drop 48)).1.v=b
     rw[e1,e2,List.take_append_drop]
    ·rename_i h2;exact absurd h h2
   ·rename_i h1;exact absurd h h1
  ·cases h
 lgn y hy:=by
  show fp2.ve (-y)=!fp2.ve y
  unfold fp2.ve
  rw[F2.Sa,F2.Sb]
  by_cases h2:y.2=0
  ·have h1:y.1≠0:=fun c=>hy (F2.ext c h2)
   rw[if_pos h2,if_pos (by rw[h2,neg_zero]),Pb h1]
  ·rw[if_neg h2,if_neg (fun c=>h2 (by rw[<- neg_neg y.2,c,neg_zero])),Pb h2]
 z:=by
  show bL 48 (0:Fp).v++bL 48 (0:Fp).v=_
  rw[ma,IN,List.replicate_append_replicate]
  rfl
 root x y h h0:=by
  rcases (g2.ry _).1 h with c|c
  ·exact absurd c h0
  ·have c:y*y=x*x*x+(zm 4,zm 4):=c
   have:=fp2.Ig (Br y)
   show y=wM x\/y=-wM x
   rw[wM,<- c]
   exact CQ this.symm
 on0:=(g2.ry _).2 (.inl rfl)
 in0:=by rw[show ((0:F2),(0:F2))=O2 from rfl];exact g2.CU ⟨.inl rfl,fV _⟩
 iny x y h1 h2 h0:=by
  obtain⟨o,hr⟩:=OX h1 h2
  exact⟨fun c=>h0 (abc g2.cg o (by decide +kernel) hr c),fun c=>h0 (SL g2.cg o (by decide +kernel) hr c)⟩
 onn x y h:=(g2.ry _).2 (cP ((g2.ry _).1 h))
 inn x y h1 h2:=by
  obtain⟨o,hr⟩:=OX h1 h2
  refine g2.CU ⟨cP o,?_⟩
  show aq (aX (x,y)) g2.rN=O2
  rw[Hb g2.cg o,hr,iC]
theorem aaF (b:List Int):lF b=A1.rg b:=rfl
theorem Y4 (p:F2 × F2):OK p=A1.short p:=by
 unfold OK iL.short
 rw[g2.Gj]
 simp only[decide_eq_true_eq]
 rfl
end Go.Proofs.YtbeeaekepmnfhaaGreatDoor.codec
namespace Go.Proofs.YtbeeaekepmnfhaaGreatDoor.codec
noncomputable section
open Go Go.Eng Go.RowKit Cr
def gi (p:F2 × F2):List Int:=cr (A1.short p)
theorem Ct (p:F2 × F2):gi p=A1.short p:=ay _
theorem TB:aB Tryz.prog 74 [g2.ba] [.val (.arr 96 (.int .u8))] aM (fun _=>True) (fun (p,_)=>(gi p,())):=ab3.out fun (p,_)=>by show (gi p,())=(OK p,());rw[Ct,Y4]
def aaU:Nat × Eng.Spec:=(74,ar [g2.ba] [.val (.arr 96 (.int .u8))] (fun _=>True) (fun (p,_)=>(gi p,())))
def gh (b:List Int):(F2 × F2) × Int:=cr (A1.rg b)
theorem Pw (b:List Int):gh b=A1.rg b:=ay _
theorem OF:aB Tryz.prog 77 [.sl (.int .u8)] [.val g2.ba,.val (.int .i64)] aM wE (fun (b,_)=>((gh b).1,(gh b).2,())):=OC.out fun (b,_)=>by show ((gh b).1,(gh b).2,())=((lF b).1,(lF b).2,());rw[Pw,aaF]
def H4:Nat × Eng.Spec:=(77,ar [.sl (.int .u8)] [.val g2.ba,.val (.int .i64)] wE (fun (b,_)=>((gh b).1,(gh b).2,())))
end
end Go.Proofs.YtbeeaekepmnfhaaGreatDoor.codec
