import Derived.Test.YtbeeaekepmnfhaaGreatDoorML15cPZ
set_option maxRecDepth 100000
namespace Cr
noncomputable section
open Rg Fd Go.Eng
theorem sw_1 {F:Type} [Rg F] (x t d a b:F):x*t*(x*t)*(x*t)+a*(x*t)+b-t*t*t*(x*x*x+a*x+b)=(t-t*t*t)*(a*x - -b*(1+d))+(b*(1-t))*(1-d*(t*t+t)) :=
 rid [x,t,d,a,b] ((fun (x t d a b:PE)=>(x*t*(x*t)*(x*t)+a*(x*t)+b-t*t*t*(x*x*x+a*x+b))) (.v 0) (.v 1) (.v 2) (.v 3) (.v 4)) ((fun (x t d a b:PE)=>((t-t*t*t)*(a*x - -b*(1+d))+(b*(1-t))*(1-d*(t*t+t)))) (.v 0) (.v 1) (.v 2) (.v 3) (.v 4)) (by kernel_rfl)
theorem sw_2 {F:Type} [Rg F] (b i d a:F):a*(-b*i*(1+d))=-b*(1+d)*(a*i) :=
 rid [b,i,d,a] ((fun (b i d a:PE)=>(a*(-b*i*(1+d)))) (.v 0) (.v 1) (.v 2) (.v 3)) ((fun (b i d a:PE)=>(-b*(1+d)*(a*i))) (.v 0) (.v 1) (.v 2) (.v 3)) (by kernel_rfl)
theorem sw_4 {F:Type} [Rg F] (z u g:F):z*(u*u)*(z*(u*u))*(z*(u*u))*g=z*u*u*u*(z*u*u*u)*(z*g) :=
 rid [z,u,g] ((fun (z u g:PE)=>(z*(u*u)*(z*(u*u))*(z*(u*u))*g)) (.v 0) (.v 1) (.v 2)) ((fun (z u g:PE)=>(z*u*u*u*(z*u*u*u)*(z*g))) (.v 0) (.v 1) (.v 2)) (by kernel_rfl)
theorem sw_5 {F:Type} [Rg F] (a y:F):a*a*(y*y)=a*y*(a*y) :=
 rid [a,y] ((fun (a y:PE)=>(a*a*(y*y))) (.v 0) (.v 1)) ((fun (a y:PE)=>(a*y*(a*y))) (.v 0) (.v 1)) (by kernel_rfl)
theorem hv_2 {F:Type} [Rg F] (s t x c d:F):s*x+c+(t*x+d)=(s+t)*x+(c+d) :=
 rid [s,t,x,c,d] ((fun (s t x c d:PE)=>(s*x+c+(t*x+d))) (.v 0) (.v 1) (.v 2) (.v 3) (.v 4)) ((fun (s t x c d:PE)=>((s+t)*x+(c+d))) (.v 0) (.v 1) (.v 2) (.v 3) (.v 4)) (by kernel_rfl)
theorem hv_3 {F:Type} [Rg F] (s x c k:F):k*(s*x+c)=k*s*x+k*c :=
 rid [s,x,c,k] ((fun (s x c k:PE)=>(k*(s*x+c))) (.v 0) (.v 1) (.v 2) (.v 3)) ((fun (s x c k:PE)=>(k*s*x+k*c)) (.v 0) (.v 1) (.v 2) (.v 3)) (by kernel_rfl)
theorem hv_4 {F:Type} [Rg F] (s h x c g:F):c*g+(s*g*x+0)=(s*x+c)*g :=
 rid [s,h,x,c,g] ((fun (s h x c g:PE)=>(c*g+(s*g*x+0))) (.v 0) (.v 1) (.v 2) (.v 3) (.v 4)) ((fun (s h x c g:PE)=>((s*x+c)*g)) (.v 0) (.v 1) (.v 2) (.v 3) (.v 4)) (by kernel_rfl)
theorem is_1 {F:Type} [Rg F] (y h u i g:F):y*h*u*i*(y*h*u*i)=y*y*(h*h)*(u*u)*(i*i) :=
 rid [y,h,u,i,g] ((fun (y h u i g:PE)=>(y*h*u*i*(y*h*u*i))) (.v 0) (.v 1) (.v 2) (.v 3) (.v 4)) ((fun (y h u i g:PE)=>(y*y*(h*h)*(u*u)*(i*i))) (.v 0) (.v 1) (.v 2) (.v 3) (.v 4)) (by kernel_rfl)
theorem is_2 {F:Type} [Rg F] (g h u b i:F):g*(h*h)*(u*u)*(i*i)*(u*b*i)=g*(h*h)*(u*u*u)*(b*(i*i*i)) :=
 rid [g,h,u,b,i] ((fun (g h u b i:PE)=>(g*(h*h)*(u*u)*(i*i)*(u*b*i))) (.v 0) (.v 1) (.v 2) (.v 3) (.v 4)) ((fun (g h u b i:PE)=>(g*(h*h)*(u*u*u)*(b*(i*i*i)))) (.v 0) (.v 1) (.v 2) (.v 3) (.v 4)) (by kernel_rfl)
theorem is_3 {F:Type} [Rg F] (w u b i t:F):b*b*(w*w*w+t*(u*u*u))*(b*(i*i*i))=w*b*i*(w*b*i)*(w*b*i)+t*(u*b*i*(u*b*i)*(u*b*i)) :=
 rid [w,u,b,i,t] ((fun (w u b i t:PE)=>(b*b*(w*w*w+t*(u*u*u))*(b*(i*i*i)))) (.v 0) (.v 1) (.v 2) (.v 3) (.v 4)) ((fun (w u b i t:PE)=>(w*b*i*(w*b*i)*(w*b*i)+t*(u*b*i*(u*b*i)*(u*b*i)))) (.v 0) (.v 1) (.v 2) (.v 3) (.v 4)) (by kernel_rfl)
theorem fs_1 {F:Type} [Rg F] (t i:F):t*i*(t*i)=t*t*(i*i) :=
 rid [t,i] ((fun (t i:PE)=>(t*i*(t*i))) (.v 0) (.v 1)) ((fun (t i:PE)=>(t*t*(i*i))) (.v 0) (.v 1)) (by kernel_rfl)
def hv (x:F2) (l:List F2):F2:=l.foldr (fun c s=>s*x+c) 0
def hq (x:F2) (l:List V2):F2:=hv x (l.map q2)
theorem hq_nil (x:F2):hq x []=0:=rfl
theorem hq_cons (x:F2) (c:V2) (l:List V2):hq x (c::l)=hq x l*x+q2 c:=rfl
def pls:List V2->List V2->List V2
 | [],b=>b
 | x::a,[]=>x::a
 | x::a,y::b=>vadd x y::pls a b
theorem hq_pls (x:F2):∀ a b,hq x (pls a b)=hq x a+hq x b
 | [],b=>by show hq x b=_;rw[hq_nil,zero_add]
 | c::a,[]=>by show hq x (c::a)=_;rw[hq_nil,add_zero]
 | c::a,d::b=>by
  show hq x (pls a b)*x+q2 (vadd c d)=(hq x a*x+q2 c)+(hq x b*x+q2 d)
  rw[hq_pls x a b,q2_add];exact (hv_2 _ _ _ _ _).symm
theorem hq_scl (x:F2) (c:V2):∀ b:List V2,hq x (b.map (vmul c))=q2 c*hq x b
 | []=>by show (0:F2)=_;rw[hq_nil,mul_zero]
 | d::b=>by
  show hq x (b.map (vmul c))*x+q2 (vmul c d)=q2 c*(hq x b*x+q2 d)
  rw[hq_scl x c b,q2_mul];exact (hv_3 _ _ _ _).symm
def pml:List V2->List V2->List V2
 | [],_=>[]
 | c::a,b=>pls (b.map (vmul c)) ((0,0)::pml a b)
theorem hq_pml (x:F2):∀ a b,hq x (pml a b)=hq x a*hq x b
 | [],b=>by show (0:F2)=_;rw[hq_nil,zero_mul]
 | c::a,b=>by
  show hq x (pls (b.map (vmul c)) ((0,0)::pml a b))=(hq x a*x+q2 c)*hq x b
  rw[hq_pls,hq_scl,hq_cons,hq_pml x a b,q2_zero];exact hv_4 _ 0 _ _ _
def fl2 {α:Type}:List V2->(List V2->α)->α
 | [],k=>k []
 | x::l,k=>fo2 x fun x=>fl2 l fun l=>k (x::l)
theorem fl2_eq {α:Type}:∀ (l:List V2) (k:List V2->α),fl2 l k=k l
 | [],k=>rfl
 | x::l,k=>by rw[fl2,fo2_eq,fl2_eq l]
def alz (l:List V2):Bool:=l.all fun c=>evP2.isz c
theorem alz_ok (x:F2):∀ l:List V2,alz l=true->hq x l=0
 | [],_=>rfl
 | c::l,h=>by
  have h:(evP2.isz c&&alz l)=true:=h
  rw[Bool.and_eq_true] at h
  have h1:q2 c=0:=(evP2.isz_φ c).1 h.1
  rw[hq_cons,alz_ok x l h.2,h1,zero_mul,add_zero]
def cU:List V2:=[(0,4002409555221667393417789825735904156556882819939007885332058136124031650490837864442687629129015664037894272559715),(12,4002409555221667393417789825735904156556882819939007885332058136124031650490837864442687629129015664037894272559775),(1,0)]
def cB:List V2:=[(4002409555221667393417789825735904156556882819939007885332058136124031650490837864442687629129015664037894272559355,4002409555221667393417789825735904156556882819939007885332058136124031650490837864442687629129015664037894272559355),(0,4002409555221667393417789825735904156556882819939007885332058136124031650490837864442687629129015664037894272559571),(18,4002409555221667393417789825735904156556882819939007885332058136124031650490837864442687629129015664037894272559769),(1,0)]
def cW:List V2:=[(889424345604814976315064405719089812568196182208668418962679585805340366775741747653930584250892369786198727235542,889424345604814976315064405719089812568196182208668418962679585805340366775741747653930584250892369786198727235542),(0,2668273036814444928945193217157269437704588546626005256888038757416021100327225242961791752752677109358596181706522),(2668273036814444928945193217157269437704588546626005256888038757416021100327225242961791752752677109358596181706526,1334136518407222464472596608578634718852294273313002628444019378708010550163612621480895876376338554679298090853261),(3557697382419259905260257622876359250272784728834673675850718343221361467102966990615722337003569479144794908942033,0)]
def cH:List V2:=[(3261222600550988246488569487636662646083386001431784202863158481286248011511053074731078808919938689216061999863558,3261222600550988246488569487636662646083386001431784202863158481286248011511053074731078808919938689216061999863558),(0,889424345604814976315064405719089812568196182208668418962679585805340366775741747653930584250892369786198727235518),(2668273036814444928945193217157269437704588546626005256888038757416021100327225242961791752752677109358596181706524,1334136518407222464472596608578634718852294273313002628444019378708010550163612621480895876376338554679298090853263),(2816510427748580758331037284777117739799287910327449993381818688383577828123182200904113516794492504322962636245776,0)]
def cG:List V2:=[(1012,1012),(0,240),(0,0),(1,0)]
def isc:Bool:=fl2 (pml cH cH) fun HH=>fl2 (pml cU cU) fun UU=>fl2 (pml UU cU) fun UUU=>fl2 (pml cG HH) fun GHH=>fl2 (pml GHH UUU) fun L =>
 fl2 (pml cB cB) fun BB=>fl2 (pml cW cW) fun WW=>fl2 (pml WW cW) fun WWW=>fl2 (pls WWW (UUU.map (vmul (4,4)))) fun S=>fl2 (pml BB S) fun R=>alz (pls L (R.map (vmul (4002409555221667393417789825735904156556882819939007885332058136124031650490837864442687629129015664037894272559786,0))))
theorem isc_ok:isc=true:=by kernel_rfl
theorem q2_m1:q2 (4002409555221667393417789825735904156556882819939007885332058136124031650490837864442687629129015664037894272559786,0)=-1:=by
 rw[F2.neg_def];exact F2.ext (Zm.ext (of_decide_eq_true (by kernel_rfl))) (Zm.ext (of_decide_eq_true (by kernel_rfl)))
theorem iso (x:F2):hq x cG*(hq x cH*hq x cH)*(hq x cU*hq x cU*hq x cU)=hq x cB*hq x cB*(hq x cW*hq x cW*hq x cW+tb*(hq x cU*hq x cU*hq x cU)):=by
 have h:=isc_ok
 unfold isc at h
 simp only[fl2_eq] at h
 have h1:=alz_ok x _ h
 simp only[hq_pls,hq_scl,hq_pml,q2_m1] at h1
 rw[neg_mul,one_mul,<- Rg.sub_def] at h1
 exact eq_of_sub h1
theorem iso_on {x y i:F2} (hy:y*y=hq x cG) (hi:hq x cU*hq x cB*i=1):OnF tb (hq x cW*hq x cB*i,y*hq x cH*hq x cU*i):=by
 show y*hq x cH*hq x cU*i*(y*hq x cH*hq x cU*i)=hq x cW*hq x cB*i*(hq x cW*hq x cB*i)*(hq x cW*hq x cB*i)+tb
 have h:=iso x
 have e:=is_3 (hq x cW) (hq x cU) (hq x cB) i tb
 rw[hi,mul_one,mul_one,mul_one,<- h,<- is_2,hi,mul_one] at e
 rw[is_1 _ _ _ _ 0,hy];exact e
def ca:F2:=q2 (0,240)
def cb:F2:=q2 (1012,1012)
def cz:F2:=q2 (4002409555221667393417789825735904156556882819939007885332058136124031650490837864442687629129015664037894272559785,4002409555221667393417789825735904156556882819939007885332058136124031650490837864442687629129015664037894272559786)
theorem hG (x:F2):hq x cG=x*x*x+ca*x+cb:=by
 show (((0*x+q2 (1,0))*x+q2 (0,0))*x+q2 (0,240))*x+q2 (1012,1012)=_
 have h1:q2 (1,0)=1:=rfl
 rw[h1,q2_zero,zero_mul,zero_add,one_mul,add_zero,add_mul];rfl
theorem ca_ne:ca≠0:=fun h=>absurd (congrArg Prod.snd h) (by decide)
theorem sw_t {x t d:F2} (hd:d*(t*t+t)=1) (hx:x=-cb*inv ca*(1+d)):hq (x*t) cG=t*t*t*hq x cG:=by
 have h1:ca*x=-cb*(1+d):=by rw[hx,sw_2,mul_inv ca ca_ne,mul_one]
 rw[hG,hG]
 exact lc2 _ _ (sw_1 x t d ca cb) h1 hd.symm
theorem sqm (a:Fp):∃ s:Fp,s*s=a\/s*s=-a:=by
 by_cases ha:a=0
 ·exact⟨0,.inl (by rw[ha,mul_zero])⟩
 obtain⟨m,hm⟩:∃ m,m=(fpP-1)/2:=⟨_,rfl⟩
 obtain⟨k,hk⟩:∃ k,k=(fpP+1)/4:=⟨_,rfl⟩
 have h1:fpP-1=m+m:=by rw[hm];exact of_decide_eq_true (by kernel_rfl)
 have h2:k+k=m+1:=by rw[hm,hk];exact of_decide_eq_true (by kernel_rfl)
 have hf:=fp_fermat ha
 rw[h1,zpow_add'] at hf
 have hs:zpow a k*zpow a k=zpow a m*a:=by rw[<- zpow_add',h2];rfl
 have h3:zpow a m*zpow a m=1*1:=by rw[hf,one_mul]
 refine⟨zpow a k,?_⟩
 rw[hs]
 rcases sq_eq h3 with e|e
 ·rw[e,one_mul];exact .inl rfl
 ·rw[e,neg_mul,one_mul];exact .inr rfl
theorem sq_nm {x:F2} {n:Fp} (h:nm2 x=n*n):∃ y:F2,y*y=x:=by
 by_cases hb:x.2=0
 ·obtain⟨s,hs⟩:=sqm x.1
  rcases hs with hs|hs
  ·refine⟨(s,0),?_⟩
   rw[F2.mul_def]
   refine F2.ext ?_ ?_
   ·show s*s-0*0=x.1
    rw[hs,mul_zero,sub_z]
   ·show s*0+0*s=x.2
    rw[mul_zero,zero_mul,add_zero,hb]
  ·refine⟨(0,s),?_⟩
   rw[F2.mul_def]
   refine F2.ext ?_ ?_
   ·show 0*0-s*s=x.1
    rw[hs,mul_zero,Rg.sub_def,neg_neg,zero_add]
   ·show 0*s+s*0=x.2
    rw[mul_zero,zero_mul,add_zero,hb]
 ·have hn:n*n=x.1*x.1+x.2*x.2:=h.symm
  have key:∀ s t:Fp,(s=x.1+n\/s=x.1-n)->t*t=s+s->∃ y:F2,y*y=x:=fun s t hs ht=>by
   have k:=fin_ok hb hn hs ht (i:=inv t) (fun h=>mul_inv t h)
   refine⟨(s*inv t,x.2*inv t),?_⟩
   refine F2.ext ?_ ?_
   ·rw[F2.mul1];exact k.1
   ·rw[F2.mul2];exact k.2
  obtain⟨s,hs⟩:=sqm (x.1+n+(x.1+n))
  rcases hs with hs|hs
  ·exact key _ s (.inl rfl) hs
  ·by_cases hs0:s=0
   ·rw[hs0,mul_zero] at hs
    have e:x.1+n+(x.1+n)=0:=by rw[<- neg_neg (x.1+n+(x.1+n)),<- hs];exact neg_zero
    exact key _ 0 (.inl rfl) (by rw[mul_zero,e])
   ·-- 2 (a+n) times 2 (a-n) is-(2 b)^2
    have e1:(x.1+n+(x.1+n))*(x.1-n+(x.1-n))=-((x.2+x.2)*(x.2+x.2)):=by
     have q:=q_4 x.1 n
     have e2:(x.1+n+(x.1+n))*(x.1-n+(x.1-n))=(x.1+n)*(x.1-n)+(x.1+n)*(x.1-n)+((x.1+n)*(x.1-n)+(x.1+n)*(x.1-n)):=by
      rw[add_mul,mul_add]
     rw[e2,q,hn]
     have e3:x.1*x.1-(x.1*x.1+x.2*x.2)=-(x.2*x.2):=by
      rw[Rg.sub_def,neg_add_rev,<- add_assoc,add_neg,zero_add]
     rw[e3,<- neg_add_rev,<- neg_add_rev,add_mul,mul_add]
    have e4:x.1+n+(x.1+n)=-(s*s):=by rw[hs,neg_neg]
    rw[e4,neg_mul] at e1
    have e5:s*s*(x.1-n+(x.1-n))=(x.2+x.2)*(x.2+x.2):=by
     rw[<- neg_neg (s*s*_),e1,neg_neg]
    refine key _ ((x.2+x.2)*inv s) (.inr rfl) ?_
    rw[fs_1,<- e5]
    have e6:s*s*(x.1-n+(x.1-n))*(inv s*inv s)=(s*inv s)*(s*inv s)*(x.1-n+(x.1-n)):=by ac_rfl
    rw[e6,mul_inv s hs0,one_mul,one_mul]
def wN:Int:=3754115229487400743760384662840082984744650971178826659753975400945528899667118516813924993650507119217982417812692
theorem cz_nm:(zm wN:Fp)*zm wN=-nm2 cz:=by
 unfold nm2 cz
 exact Zm.ext (of_decide_eq_true (by kernel_rfl))
theorem sq_z {g:F2} (h:∀ y:F2,y*y≠g):∃ y:F2,y*y=cz*g:=by
 obtain⟨s,hs⟩:=sqm (nm2 g)
 rcases hs with hs|hs
 ·obtain⟨y,hy⟩:=sq_nm (x:=g) (n:=s) hs.symm
  exact absurd hy (h y)
 ·refine sq_nm (n:=zm wN*s) ?_
  have e:(zm wN*s)*(zm wN*s)=(zm wN*zm wN)*(s*s):=by ac_rfl
  rw[nm2_mul,e,cz_nm,hs,neg_mul,mul_neg,neg_neg]
theorem sw_two {u t d x:F2} (ht:t=cz*(u*u)) (hd:d*(t*t+t)=1) (hx:x=-cb*inv ca*(1+d)) (h:∀ y:F2,y*y≠hq x cG):∃ y:F2,y*y=hq (x*t) cG:=by
 obtain⟨y,hy⟩:=sq_z h
 refine⟨cz*u*u*u*y,?_⟩
 rw[sw_t hd hx,ht,sw_4,<- hy]
 exact (sw_5 _ _).symm
def s0:V2:=(391013756818087021228608844186469378708965029305944648629640836944759185027123020480318340657013194950516187264795,3578796461873081174841411974298466426866052387096285028890861355461367155938811896227938614244375769879856986283402)
theorem sw_c:evP2.isz (vsub (vmul (vmul s0 s0) (vmul (vmul (vmul (4002409555221667393417789825735904156556882819939007885332058136124031650490837864442687629129015664037894272559785,4002409555221667393417789825735904156556882819939007885332058136124031650490837864442687629129015664037894272559786) (0,240)) (vmul (4002409555221667393417789825735904156556882819939007885332058136124031650490837864442687629129015664037894272559785,4002409555221667393417789825735904156556882819939007885332058136124031650490837864442687629129015664037894272559786) (0,240))) (vmul (4002409555221667393417789825735904156556882819939007885332058136124031650490837864442687629129015664037894272559785,4002409555221667393417789825735904156556882819939007885332058136124031650490837864442687629129015664037894272559786) (0,240)))) (vadd (vadd (vmul (vmul (1012,1012) (1012,1012)) (1012,1012)) (vmul (vmul (0,240) (1012,1012)) (vmul (vmul (4002409555221667393417789825735904156556882819939007885332058136124031650490837864442687629129015664037894272559785,4002409555221667393417789825735904156556882819939007885332058136124031650490837864442687629129015664037894272559786) (0,240)) (vmul (4002409555221667393417789825735904156556882819939007885332058136124031650490837864442687629129015664037894272559785,4002409555221667393417789825735904156556882819939007885332058136124031650490837864442687629129015664037894272559786) (0,240))))) (vmul (1012,1012) (vmul (vmul (vmul (4002409555221667393417789825735904156556882819939007885332058136124031650490837864442687629129015664037894272559785,4002409555221667393417789825735904156556882819939007885332058136124031650490837864442687629129015664037894272559786) (0,240)) (vmul (4002409555221667393417789825735904156556882819939007885332058136124031650490837864442687629129015664037894272559785,4002409555221667393417789825735904156556882819939007885332058136124031650490837864442687629129015664037894272559786) (0,240))) (vmul (4002409555221667393417789825735904156556882819939007885332058136124031650490837864442687629129015664037894272559785,4002409555221667393417789825735904156556882819939007885332058136124031650490837864442687629129015664037894272559786) (0,240))))))=true:=by kernel_rfl
theorem cz_ne:cz≠0:=fun h=>absurd (congrArg Prod.snd h) (by decide)
theorem sw_0:∃ y:F2,y*y=hq (cb*inv (cz*ca)) cG:=by
 have h1:=(evP2.isz_φ _).1 sw_c
 have h2:q2 (vsub (vmul (vmul s0 s0) (vmul (vmul (vmul (4002409555221667393417789825735904156556882819939007885332058136124031650490837864442687629129015664037894272559785,4002409555221667393417789825735904156556882819939007885332058136124031650490837864442687629129015664037894272559786) (0,240)) (vmul (4002409555221667393417789825735904156556882819939007885332058136124031650490837864442687629129015664037894272559785,4002409555221667393417789825735904156556882819939007885332058136124031650490837864442687629129015664037894272559786) (0,240))) (vmul (4002409555221667393417789825735904156556882819939007885332058136124031650490837864442687629129015664037894272559785,4002409555221667393417789825735904156556882819939007885332058136124031650490837864442687629129015664037894272559786) (0,240)))) (vadd (vadd (vmul (vmul (1012,1012) (1012,1012)) (1012,1012)) (vmul (vmul (0,240) (1012,1012)) (vmul (vmul (4002409555221667393417789825735904156556882819939007885332058136124031650490837864442687629129015664037894272559785,4002409555221667393417789825735904156556882819939007885332058136124031650490837864442687629129015664037894272559786) (0,240)) (vmul (4002409555221667393417789825735904156556882819939007885332058136124031650490837864442687629129015664037894272559785,4002409555221667393417789825735904156556882819939007885332058136124031650490837864442687629129015664037894272559786) (0,240))))) (vmul (1012,1012) (vmul (vmul (vmul (4002409555221667393417789825735904156556882819939007885332058136124031650490837864442687629129015664037894272559785,4002409555221667393417789825735904156556882819939007885332058136124031650490837864442687629129015664037894272559786) (0,240)) (vmul (4002409555221667393417789825735904156556882819939007885332058136124031650490837864442687629129015664037894272559785,4002409555221667393417789825735904156556882819939007885332058136124031650490837864442687629129015664037894272559786) (0,240))) (vmul (4002409555221667393417789825735904156556882819939007885332058136124031650490837864442687629129015664037894272559785,4002409555221667393417789825735904156556882819939007885332058136124031650490837864442687629129015664037894272559786) (0,240))))))=0:=h1
 simp only[q2_sub,q2_add,q2_mul] at h2
 have h3:q2 s0*q2 s0*(cz*ca*(cz*ca)*(cz*ca))=cb*cb*cb+ca*cb*(cz*ca*(cz*ca))+cb*(cz*ca*(cz*ca)*(cz*ca)):=eq_of_sub h2
 have hne:cz*ca≠0:=mul_ne cz_ne ca_ne
 obtain⟨D,hD⟩:∃ D,D=cz*ca:=⟨_,rfl⟩
 rw[<- hD] at h3 hne
 refine⟨q2 s0,?_⟩
 rw[<- hD,hG]
 refine mul_left (mul_ne (mul_ne hne hne) hne) ?_
 have e:D*D*D*(cb*inv D*(cb*inv D)*(cb*inv D)+ca*(cb*inv D)+cb)=(D*inv D)*(D*inv D)*(D*inv D)*(cb*cb*cb)+(D*inv D)*(ca*cb*(D*D))+cb*(D*D*D):=by
  rw[mul_add,mul_add]
  congr 1
  ·congr 1
   ·ac_rfl
   ·ac_rfl
  ·ac_rfl
 rw[e,mul_inv D hne,one_mul,one_mul,one_mul,one_mul,<- h3]
 ac_rfl
end
end Cr
namespace Go.Proofs.YtbeeaekepmnfhaaGreatDoor.fp
open Go Go.Eng Go.RowKit Cr
theorem ent_wide:enters Tryz.prog 153 Tryz.f153:=ek
noncomputable def wideI (g:List Int × Fp):St:=mkSt Tryz.f153.ntmps 40 [(0,.is (.one (.ro (.int .u8) g.1))),(2,.is (.one (.ptr 0 0))),(3,.is (.one (.ptr 8 0))),(4,.is (.one (.ptr 24 0)))] [(0,[.row .fp 1 [(0:Fp)]]),(8,[.row .fp 1 [g.2]]),(24,[.row .fp 1 [(R2:Fp)]])]
def wn (len:Int):Int:=IntKind.i64.wrap ((IntKind.i64.wrap (len-1)).tmod 48+1)
def wch (bs:List Int):List Int:=List.take (wn bs.length-0).toNat (List.drop (Int.toNat 0) bs)
def wideN (g:List Int × Fp):List Int × Fp:=(List.take ((g.1.length:Int)-wn g.1.length).toNat (List.drop (wn g.1.length).toNat g.1),g.2*R2+dec (lim 6 (val (enc (R2:Fp))*val (lim 6 (num (wch g.1)))*rinv%M)))
def wp (len k:Nat):Nat:=len-48*((len+47)/48-k)
def wideG (bs:List Int) (k:Nat):List Int × Fp:=(bs.drop (wp bs.length k),zm (num (bs.take (wp bs.length k))))
theorem wn_eq {L:Nat} (h0:0<L) (h1:L<4611686018427387904):wn L=(((L-1)%48+1:Nat):Int):=by
 unfold wn
 rw[wrap_i64' (a:=(L:Int)-1) (by omega) (by omega),Int.tmod_eq_emod_of_nonneg (by omega),wrap_i64' (by omega) (by omega)]
 omega
theorem wide_next {bs:List Int} (hb:Bs bs) (hl:bs.length<4611686018427387904) {k:Nat} (hk:k<(bs.length+47)/48) :
  0<bs.length-wp bs.length k/\wideN (wideG bs k)=wideG bs (k+1)/\(wch (bs.drop (wp bs.length k))).length<=48/\1<=(bs.length-wp bs.length k-1)%48+1/\(bs.length-wp bs.length k-1)%48+1<=bs.length-wp bs.length k:=by
 have hL:0<bs.length-wp bs.length k:=by unfold wp;omega
 have hn:(bs.length-wp bs.length k-1)%48+1=wp bs.length (k+1)-wp bs.length k:=by unfold wp;omega
 have hle:wp bs.length (k+1)<=bs.length:=by unfold wp;omega
 have hlt:wp bs.length k<wp bs.length (k+1):=by unfold wp;omega
 have hlen:(bs.drop (wp bs.length k)).length=bs.length-wp bs.length k:=List.length_drop
 have hwn:wn (bs.drop (wp bs.length k)).length=((wp bs.length (k+1)-wp bs.length k:Nat):Int):=by
  rw[wn_eq (by omega) (by omega),hlen,hn]
 have hch:wch (bs.drop (wp bs.length k))=(bs.drop (wp bs.length k)).take (wp bs.length (k+1)-wp bs.length k):=by
  unfold wch
  rw[hwn]
  congr 1
 refine⟨hL,?_,?_,by omega,by omega⟩
 ·unfold wideN wideG
  simp only
  rw[hwn,hch]
  have e1:List.take (((bs.drop (wp bs.length k)).length:Int)-((wp bs.length (k+1)-wp bs.length k:Nat):Int)).toNat (List.drop ((wp bs.length (k+1)-wp bs.length k:Nat):Int).toNat (bs.drop (wp bs.length k)))=bs.drop (wp bs.length (k+1)):=by
   rw[Int.toNat_natCast,List.drop_drop,show wp bs.length k+(wp bs.length (k+1)-wp bs.length k)=wp bs.length (k+1) by omega]
   exact List.take_of_length_le (by simp;omega)
  rw[e1]
  congr 1
  have hcb:Bs ((bs.drop (wp bs.length k)).take (wp bs.length (k+1)-wp bs.length k)):=Bs_take (Bs_drop hb _) _
  have hcl:((bs.drop (wp bs.length k)).take (wp bs.length (k+1)-wp bs.length k)).length=wp bs.length (k+1)-wp bs.length k:=by simp;omega
  have hc48:wp bs.length (k+1)-wp bs.length k<=48:=by omega
  have hnb:=num_bd hcb
  rw[hcl] at hnb
  have hpl:p256 (wp bs.length (k+1)-wp bs.length k)<=pw 6:=by
   rw[<- p256_8,show 8*6=(wp bs.length (k+1)-wp bs.length k)+(48-(wp bs.length (k+1)-wp bs.length k)) by omega,p256_add]
   have h1:=p256_pos (wp bs.length (k+1)-wp bs.length k)
   have h2:=p256_pos (48-(wp bs.length (k+1)-wp bs.length k))
   have:=Int.mul_le_mul_of_nonneg_left (show 1<=p256 (48-(wp bs.length (k+1)-wp bs.length k)) by omega) (Int.le_of_lt h1)
   omega
  rw[show lim 6 (val (enc (R2:Fp))*val (lim 6 (num ((bs.drop (wp bs.length k)).take (wp bs.length (k+1)-wp bs.length k))))*rinv%M)=enc (zm (val (lim 6 (num ((bs.drop (wp bs.length k)).take (wp bs.length (k+1)-wp bs.length k))))):Fp) from shift_enc (M:=Mp),val_lim_of hnb.1 (by omega),dec_enc]
  show zm _*zm (pw 6)+zm _=zm _
  rw[zm_mul,zm_add]
  congr 1
  have hsplit:bs.take (wp bs.length (k+1))=bs.take (wp bs.length k)++(bs.drop (wp bs.length k)).take (wp bs.length (k+1)-wp bs.length k):=by
   rw[<- List.take_add,show wp bs.length k+(wp bs.length (k+1)-wp bs.length k)=wp bs.length (k+1) by omega]
  rw[hsplit,num_append,hcl]
  by_cases h0:wp bs.length k=0
  ·rw[h0];simp[num]
  ·rw[show wp bs.length (k+1)-wp bs.length k=48 by unfold wp at h0 ⊢;omega,<- p256_8]
 ·rw[hch];simp;omega
abbrev preWide:HL [.sl (.int .u8)]->Prop:=fun (bs,_)=>Bs bs/\List.length bs<4611686018427387904
abbrev outWide:HL [.sl (.int .u8)]->HO [.val .fp]:=fun (bs,_)=>((zm (num bs):Fp),())
theorem fn_wide:FnOk Tryz.prog 153 [.sl (.int .u8)] [.val .fp] noG preWide outWide:=by
 have hsp:SpecsOk Tryz.prog (sps [spWords,spMul,spAdd,spShift,spTimes]):=spk (fok fn_words) (spk (fok fn_mul) (spk (fok fn_add) (spk (fok fn_shift) (spk (fok fn_times) snl))))
 refine fn_of_tr (sp:=sps [spWords,spMul,spAdd,spShift,spTimes]) ent_wide (by decide) (by decide) (by kernel_rfl) ?_
 rintro w M0 ⟨bs,⟨⟩⟩ _ ⟨hb,hl⟩
 have hb:Bs bs:=hb
 have hl:bs.length<4611686018427387904:=hl
 show Tr _ _ _ _ _ _ _
 refine tr_cut hsp mixed 3 (wideI (bs,0)) True ?_ (fun _=>?_)
 ·refine vcx (X:=True/\(wideI (bs,0)).triv True) (by kernel_rfl) ⟨trivial,tvi trivial⟩
 have e0:(bs,(0:Fp))=wideG bs 0:=by
  unfold wideG
  rw[show wp bs.length 0=0 by unfold wp;omega]
  rfl
 rw[e0]
 refine tr_count hsp mixed wideI (wideG bs) ((bs.length+47)/48) wideN wideI (c:=nthC (codeOf Tryz.f153) 3) (by kernel_rfl) (by kernel_rfl) (le_of_proj (by kernel_rfl) (by kernel_rfl) trivial)
  (fun k hk=>(wide_next hb hl hk).2.1) ?_ ?_
 ·intro k hk
  have hlen:(wideG bs k).1.length=bs.length-wp bs.length k:=by unfold wideG;simp
  have hbs:Bs (wideG bs k).1:=Bs_drop hb _
  have hnx:k<(bs.length+47)/48->(wch (wideG bs k).1).length<=48:=fun h=>(wide_next hb hl h).2.2.1
  have hb1:k<(bs.length+47)/48->1<=((wideG bs k).1.length-1)%48+1/\((wideG bs k).1.length-1)%48+1<=(wideG bs k).1.length:=fun h=>by rw[hlen];exact (wide_next hb hl h).2.2.2
  have hiff:k<(bs.length+47)/48↔0<(wideG bs k).1.length:=by rw[hlen];unfold wp;omega
  have hll:(wideG bs k).1.length<4611686018427387904:=by omega
  clear hlen
  generalize wideG bs k=g at *
  obtain⟨cs,x⟩:=g
  simp only at hbs hnx hb1 hiff hll
  refine vcx (X:=((decide ((cs.length:Int)>0)=true->(48:Int)≠0/\True/\(0<=wn cs.length/\wn cs.length<=(cs.length:Int))/\preWords (wch cs,())/\preTimes (enc (R2:Fp),lim 6 (num (wch cs)),())/\Canon Mp (lim 6 (val (enc (R2:Fp))*val (lim 6 (num (wch cs)))*rinv%M))/\True/\(0<=wn cs.length/\wn cs.length<=(cs.length:Int))/\(wideI (wideN (cs,x))).triv (k<(bs.length+47)/48)) /\
   (decide ((cs.length:Int)>0)=false->(wideI (cs,x)).triv (k=(bs.length+47)/48)))) (by kernel_rfl) ?_
  refine⟨fun h=>?_,fun h=>tvi ?_⟩
  ·have h0:0<cs.length:=by have:=of_decide_eq_true h;omega
   have hk':=hiff.2 h0
   have h1:=hb1 hk'
   have hw:=wn_eq h0 hll
   have hch:Bs (wch cs):=by unfold wch;exact Bs_take (Bs_drop hbs _) _
   refine⟨by decide,trivial,by rw[hw];omega,⟨hch,hnx hk'⟩,⟨enc_ws _,lim_ws _ _,(enc_canon _).2.2⟩,?_,trivial,by rw[hw];omega,tvi hk'⟩
   rw[show lim 6 (val (enc (R2:Fp))*val (lim 6 (num (wch cs)))*rinv%M)=enc (zm (val (lim 6 (num (wch cs)))):Fp) from shift_enc (M:=Mp)]
   exact enc_canon _
  ·have:=of_decide_eq_false h
   omega
 refine tr_vc hsp mixed _ _ ?_
 refine vcx (X:=((wideG bs ((bs.length+47)/48)).2,())=outWide (bs,())) (by kernel_rfl) ?_
 unfold wideG
 rw[show wp bs.length ((bs.length+47)/48)=bs.length by unfold wp;omega,List.take_length]
noncomputable def spWide:Nat × Eng.Spec:=(153,fnSpec [.sl (.int .u8)] [.val .fp] preWide outWide)
end Go.Proofs.YtbeeaekepmnfhaaGreatDoor.fp
namespace Go.Proofs.YtbeeaekepmnfhaaGreatDoor.h2c
open Go Go.Eng Go.RowKit Cr fp2
abbrev iK:Kd:=.int .i64
abbrev pt2:Kd:=.pair f2 f2
def smA (n:Int):Prop:=-1000000<=n/\n<=1000000
theorem ent_sm1:enters Tryz.prog 193 Tryz.f193:=ek
theorem fn_sm1:FnOk Tryz.prog 193 [iK] [.val .fp] noG (fun (n,_)=>smA n) (fun (n,_)=>((zmp n:Fp),())):=by
 refine fn_of_vc (sp:=sps [fp.spOf,fp.spNeg]) (spk (fok fp.fn_of) (spk (fok fp.fn_neg) snl)) mixed ent_sm1 (by decide) (by decide) ?_
 rintro w M0 ⟨n,⟨⟩⟩
 revert n
 intro (n:Int) _ hp
 have hp : -1000000<=n/\n<=1000000:=hp
 refine vcx (X:=((decide (n<(0:Int))=true->U64 (IntKind.u64.wrap (IntKind.i64.wrap ((0:Int)-n)))/\True/\(-zmp (IntKind.u64.wrap (IntKind.i64.wrap ((0:Int)-n))),())=(zmp n,()))/\(decide (n<(0:Int))=false->U64 (IntKind.u64.wrap n)/\(zmp (IntKind.u64.wrap n),())=(zmp n,())))) (by kernel_rfl) ?_
 refine⟨fun h=>?_,fun h=>?_⟩
 ·have h:n<0:=of_decide_eq_true h
  have e1:IntKind.i64.wrap ((0:Int)-n)=-n:=by rw[wrap_i64' (by omega) (by omega)];omega
  have e2:IntKind.u64.wrap (-n)=-n:=by rw[wrap_u64' (-n)];omega
  rw[e1,e2]
  refine⟨⟨by omega,by omega⟩,trivial,?_⟩
  rw[zm_neg,Int.neg_neg]
 ·have h:¬ n<0:=of_decide_eq_false h
  have e2:IntKind.u64.wrap n=n:=by rw[wrap_u64' n];omega
  rw[e2]
  exact⟨⟨by omega,by omega⟩,rfl⟩
noncomputable def spSm1:Nat × Eng.Spec:=(193,fnSpec [iK] [.val .fp] (fun (n,_)=>smA n) (fun (n,_)=>((zmp n:Fp),())))
theorem ent_sm2:enters Tryz.prog 194 Tryz.f194:=ek
abbrev f116:Kd:=.fn 193
theorem fn_sm2:FnOk Tryz.prog 194 [iK,iK,.ptr f116] [.val f2] noG (fun (m,n,_)=>smA m/\smA n) (fun (m,n,_)=>(((zmp m,zmp n):F2),())):=by
 refine fn_of_vc (sp:=sps [spSm1]) (spk (fok fn_sm1) snl) mixed ent_sm2 (by decide) (by decide) ?_
 rintro w M0 ⟨m,n,c,⟨⟩⟩
 revert m n
 intro (m:Int) (n:Int) _ hp
 have hp:smA m/\smA n:=hp
 refine vcx (X:=((0:Nat)<[c].length/\smA m/\(0:Nat)<[c].length/\smA n/\((zmp m,zmp n),())=((zmp m,zmp n),()))) (by kernel_rfl) ?_
 exact⟨Nat.zero_lt_one,hp.1,Nat.zero_lt_one,hp.2,rfl⟩
noncomputable def spSm2:Nat × Eng.Spec:=(194,fnSpec [iK,iK,.ptr f116] [.val f2] (fun (m,n,_)=>smA m/\smA n) (fun (m,n,_)=>(((zmp m,zmp n):F2),())))
abbrev cloSm:Kd:=.cap (.fn 194) f116
theorem ent_small:enters Tryz.prog 154 Tryz.f154:=ek
theorem fn_small:FnOk Tryz.prog 154 [] [.val cloSm] noG (fun _=>True) (fun _=>(((),()),())):=by
 refine fn_of_vc (sp:=sps []) snl mixed ent_small (by decide) (by decide) ?_
 rintro w M0 ⟨⟩ _ _
 refine vcx (X:=((((),()),())=(((),()),()))) (by kernel_rfl) ?_
 trivial
noncomputable def spSmall:Nat × Eng.Spec:=(154,fnSpec [] [.val cloSm] (fun _=>True) (fun _=>(((),()),())))
end Go.Proofs.YtbeeaekepmnfhaaGreatDoor.h2c
namespace Go.Proofs.YtbeeaekepmnfhaaGreatDoor.h2c
noncomputable section
open Go Go.Eng Go.RowKit Cr fp2
theorem ent_great:enters Tryz.prog 197 Tryz.f197:=ek
def grI (s:ByteArray) (g:Int × List Int):St:=mkSt Tryz.f197.ntmps 40 [(0,.is (.one (.v (.string s)))),(2,.is (.one (.ptr 0 0))),(3,.is (.one (.ptr 8 0))),(8,.is (.one (.v (.string s)))),(9,sI .i64 s.size),(10,sI .i64 g.1)] [(8,[.ints .u8 48 g.2]),(0,[.row .fp 1 [(0:Fp)]])]
def grD (s:ByteArray) (k:Nat):Int:=if IntKind.u8.wrap ((sbytes s).getD k 0-48)>9 then IntKind.u8.wrap (IntKind.u8.wrap ((sbytes s).getD k 0-97)+10) else IntKind.u8.wrap ((sbytes s).getD k 0-48)
def grN (s:ByteArray) (k:Nat) (xs:List Int):List Int:=xs.set (k/2) (bitOp .or .u8 (IntKind.u8.wrap (xs.getD (k/2) 0*2^min (Int.toNat 4) IntKind.u8.bits)) (grD s k))
def grG (s:ByteArray) (k:Nat):List Int:=it (fun k xs=>grN s k xs) (List.replicate 48 0) k
def grOk (s:ByteArray):Bool:=decide (s.size<=96)&&(List.take 48 (grG s s.size)).all fun x=>decide (0<=x)&&decide (x<256)
theorem grOk_1 {s:ByteArray} (h:grOk s=true):s.size<=96/\Bs (List.take 48 (grG s s.size)):=by
 unfold grOk at h
 rw[Bool.and_eq_true] at h
 refine⟨of_decide_eq_true h.1,fun x hx=>?_⟩
 have h2:=List.all_eq_true.1 h.2 x hx
 rw[Bool.and_eq_true] at h2
 exact⟨of_decide_eq_true h2.1,of_decide_eq_true h2.2⟩
def gro (s:ByteArray):Fp:=opq (fp.rdFp (List.take 48 (grG s s.size))).1
theorem fn_great:FnOk Tryz.prog 197 [.str] [.val .fp] noG (fun (s,_)=>grOk s=true) (fun (s,_)=>(gro s,())):=by
 have hsp:SpecsOk Tryz.prog (sps [fp.spRead]):=spk (fok fp.fn_read) snl
 refine fn_of_tr (sp:=sps [fp.spRead]) ent_great (by decide) (by decide) (by kernel_rfl) ?_
 rintro w M0 ⟨s,⟨⟩⟩
 revert s
 intro (s:ByteArray) _ hl
 have hg:grOk s=true:=hl
 have hl:=(grOk_1 hg).1
 show Tr _ _ _ _ _ _ _
 refine tr_cut hsp mixed 3 (grI s (0,List.replicate 48 0)) True ?_ (fun _=>?_)
 ·refine vcx (X:=((grI s ((0:Int),List.replicate (48:Nat) (0:Int))).triv True)) (by kernel_rfl) ?_
  exact tvi trivial
 refine tr_while hsp mixed noSw (fun σ=>(rdS (.int .i64) 10 σ,rdB (.arr 48 (.int .u8)) 8 σ)) (grI s) (fun g=>∃ k:Nat,k<=s.size/\g.1=(k:Int)/\g.2=grG s k) (fun g=>s.size-g.1.toNat)
  (fun σ=>(rdS (.int .i64) 10 σ,rdB (.arr 48 (.int .u8)) 8 σ)) (grI s) (fun g=>g.2=grG s s.size) (0,List.replicate 48 0) (c:=nthC (codeOf Tryz.f197) 3) (by kernel_rfl) (by kernel_rfl) (le_of_proj (by kernel_rfl) (by kernel_rfl) ?_) ?_ ?_
 ·exact⟨0,Nat.zero_le _,rfl,rfl⟩
 ·rintro⟨i,xs⟩ hj
  revert i xs
  intro (i:Int) (xs:List Int) ⟨k,hk,ei,ex⟩
  have ei:i=(k:Int):=ei
  have ex:xs=grG s k:=ex
  subst ei
  have e2:IntKind.i64.wrap ((k:Int).tdiv 2)=((k/2:Nat):Int):=by
   rw[Int.tdiv_eq_ediv_of_nonneg (by omega),wrap_i64' (by omega) (by omega)];rfl
  refine vcx (X:=((decide ((↑k:Int)<(↑s.size:Int))=true->((0:Int)<=(↑k:Int)/\(↑k:Int)<(↑s.size:Int))/\(decide (IntKind.u8.wrap ((sbytes s).getD (↑k:Int).toNat (0:Int)-(48:Int))>(9:Int))=true->((0:Int)<=(↑k:Int)/\(↑k:Int)<(↑s.size:Int))/\((2:Int)=(0:Int)->False)/\((2:Int)=(0:Int)->False)/\((0:Int)<=IntKind.i64.wrap ((↑k:Int).tdiv (2:Int))/\IntKind.i64.wrap ((↑k:Int).tdiv (2:Int))<(↑(48:Nat):Int))/\(IntKind.i64.wrap ((↑k:Int).tdiv (2:Int))).toNat<(48:Nat)/\(0:Int)<=(4:Int)/\((0:Int)<=IntKind.i64.wrap ((↑k:Int).tdiv (2:Int))/\IntKind.i64.wrap ((↑k:Int).tdiv (2:Int))<(↑(48:Nat):Int))/\(IntKind.i64.wrap ((↑k:Int).tdiv (2:Int))).toNat<(48:Nat)/\(grI s (IntKind.i64.wrap ((↑k:Int)+(1:Int)),xs.set (IntKind.i64.wrap ((↑k:Int).tdiv (2:Int))).toNat (bitOp BinOp.or IntKind.u8 (IntKind.u8.wrap (xs.getD (IntKind.i64.wrap ((↑k:Int).tdiv (2:Int))).toNat (0:Int)*(2:Int)^min (4:Nat) IntKind.u8.bits)) (IntKind.u8.wrap (IntKind.u8.wrap ((sbytes s).getD (↑k:Int).toNat (0:Int)-(97:Int))+(10:Int)))))).triv ((∃ k_1,k_1<=s.size/\IntKind.i64.wrap ((↑k:Int)+(1:Int))=(↑k_1:Int)/\xs.set (IntKind.i64.wrap ((↑k:Int).tdiv (2:Int))).toNat (bitOp BinOp.or IntKind.u8 (IntKind.u8.wrap (xs.getD (IntKind.i64.wrap ((↑k:Int).tdiv (2:Int))).toNat (0:Int)*(2:Int)^min (4:Nat) IntKind.u8.bits)) (IntKind.u8.wrap (IntKind.u8.wrap ((sbytes s).getD (↑k:Int).toNat (0:Int)-(97:Int))+(10:Int))))=grG s k_1)/\s.size-(IntKind.i64.wrap ((↑k:Int)+(1:Int))).toNat<s.size-(↑k:Int).toNat))/\(decide (IntKind.u8.wrap ((sbytes s).getD (↑k:Int).toNat (0:Int)-(48:Int))>(9:Int))=false->((2:Int)=(0:Int)->False)/\((2:Int)=(0:Int)->False)/\((0:Int)<=IntKind.i64.wrap ((↑k:Int).tdiv (2:Int))/\IntKind.i64.wrap ((↑k:Int).tdiv (2:Int))<(↑(48:Nat):Int))/\(IntKind.i64.wrap ((↑k:Int).tdiv (2:Int))).toNat<(48:Nat)/\(0:Int)<=(4:Int)/\((0:Int)<=IntKind.i64.wrap ((↑k:Int).tdiv (2:Int))/\IntKind.i64.wrap ((↑k:Int).tdiv (2:Int))<(↑(48:Nat):Int))/\(IntKind.i64.wrap ((↑k:Int).tdiv (2:Int))).toNat<(48:Nat)/\(grI s (IntKind.i64.wrap ((↑k:Int)+(1:Int)),xs.set (IntKind.i64.wrap ((↑k:Int).tdiv (2:Int))).toNat (bitOp BinOp.or IntKind.u8 (IntKind.u8.wrap (xs.getD (IntKind.i64.wrap ((↑k:Int).tdiv (2:Int))).toNat (0:Int)*(2:Int)^min (4:Nat) IntKind.u8.bits)) (IntKind.u8.wrap ((sbytes s).getD (↑k:Int).toNat (0:Int)-(48:Int)))))).triv ((∃ k_1,k_1<=s.size/\IntKind.i64.wrap ((↑k:Int)+(1:Int))=(↑k_1:Int)/\xs.set (IntKind.i64.wrap ((↑k:Int).tdiv (2:Int))).toNat (bitOp BinOp.or IntKind.u8 (IntKind.u8.wrap (xs.getD (IntKind.i64.wrap ((↑k:Int).tdiv (2:Int))).toNat (0:Int)*(2:Int)^min (4:Nat) IntKind.u8.bits)) (IntKind.u8.wrap ((sbytes s).getD (↑k:Int).toNat (0:Int)-(48:Int))))=grG s k_1)/\s.size-(IntKind.i64.wrap ((↑k:Int)+(1:Int))).toNat<s.size-(↑k:Int).toNat)))/\(decide ((↑k:Int)<(↑s.size:Int))=false->(grI s ((↑k:Int),xs)).triv (xs=grG s s.size)))) (by kernel_rfl) ?_
  refine⟨fun h=>?_,fun h=>tvi ?_⟩
  ·have hlt:k<s.size:=by have:=of_decide_eq_true h;omega
   have b1:(0:Int)<=(k:Int)/\(k:Int)<(s.size:Int):=⟨by omega,by omega⟩
   have z2:(2:Int)=0->False:=by decide
   have b2:(0:Int)<=((k/2:Nat):Int)/\((k/2:Nat):Int)<((48:Nat):Int):=⟨by omega,by omega⟩
   have b3:k/2<48:=by omega
   rw[e2]
   simp only[Int.toNat_natCast]
   refine⟨b1,fun h2=>⟨b1,z2,z2,b2,b3,by decide,b2,b3,tvi ⟨⟨k+1,hlt,wrap_succ (by omega),?_⟩,?_⟩⟩,fun h2=>⟨z2,z2,b2,b3,by decide,b2,b3,tvi ⟨⟨k+1,hlt,wrap_succ (by omega),?_⟩,?_⟩⟩⟩
   ·show _=grN s k (grG s k)
    rw[grN,grD,if_pos (of_decide_eq_true h2),<- ex];rfl
   ·rw[wrap_succ (by omega)];omega
   ·show _=grN s k (grG s k)
    rw[grN,grD,if_neg (of_decide_eq_false h2),<- ex];rfl
   ·rw[wrap_succ (by omega)];omega
  ·have hk2:k=s.size:=by have:=of_decide_eq_false h;omega
   rw[<- hk2];exact ex
 rintro⟨i,xs⟩ hx
 revert i xs
 intro (i:Int) (xs:List Int) (hx:xs=grG s s.size)
 refine tr_vc hsp mixed _ _ ?_
 refine vcx (X:=(0+48<=48/\fp.preRead (List.take 48 xs,())/\((fp.rdFp (List.take 48 xs)).fst,())=(gro s,()))) (by kernel_rfl) ?_
 refine⟨Nat.le_refl _,by rw[hx];exact (grOk_1 hg).2,?_⟩
 rw[gro,opq_eq,hx]
def spGreat:Nat × Eng.Spec:=(197,fnSpec [.str] [.val .fp] (fun (s,_)=>grOk s=true) (fun (s,_)=>(gro s,())))
theorem ent_acr1:enters Tryz.prog 196 Tryz.f196:=ek
theorem fn_acr1:FnOk Tryz.prog 196 [.str,.str] [.val f2] noG (fun (a,b,_)=>grOk a=true/\grOk b=true) (fun (a,b,_)=>(((gro a,gro b):F2),())):=by
 refine fn_of_vc (sp:=sps [spGreat]) (spk (fok fn_great) snl) mixed ent_acr1 (by decide) (by decide) ?_
 rintro w M0 ⟨a,b,⟨⟩⟩
 revert a b
 intro (a:ByteArray) (b:ByteArray) _ hp
 have hp:grOk a=true/\grOk b=true:=hp
 refine vcx (X:=(grOk a=true/\grOk b=true/\((gro a,gro b),())=((gro a,gro b),()))) (by kernel_rfl) ?_
 exact⟨hp.1,hp.2,rfl⟩
def spAcr1:Nat × Eng.Spec:=(196,fnSpec [.str,.str] [.val f2] (fun (a,b,_)=>grOk a=true/\grOk b=true) (fun (a,b,_)=>(((gro a,gro b):F2),())))
theorem ent_value:enters Tryz.prog 155 Tryz.f155:=ek
def hvo (x:F2) (l:List F2):F2:=opq (hv x l)
def vaI (x:F2) (l:List F2) (g:Int × F2):St:=mkSt Tryz.f155.ntmps 48 [(1,.is (.one (.ro f2 l))),(2,.is (.one (.ptr 0 0))),(4,.is (.one (.ptr 8 0))),(5,.is (.one (.ptr 16 0))),(6,sI .i64 g.1)] [(16,cellsOf f2 g.2),(8,cellsOf f2 (0:F2)),(0,cellsOf f2 x)]
theorem fn_value:FnOk Tryz.prog 155 [f2,.sl f2] [.val f2] noG (fun (_,l,_)=>List.length l<=1048576) (fun (x,l,_)=>(hvo x l,())):=by
 have hsp:SpecsOk Tryz.prog (sps [fp2.spMul,fp2.spAdd]):=spk (fok fp2.fn_mul) (spk (fok fp2.fn_add) snl)
 refine fn_of_tr (sp:=sps [fp2.spMul,fp2.spAdd]) ent_value (by decide) (by decide) (by kernel_rfl) ?_
 rintro w M0 ⟨x,l,⟨⟩⟩
 revert x l
 intro (x:F2) (l:List F2) _ hl
 have hl:l.length<=1048576:=hl
 show Tr _ _ _ _ _ _ _
 refine tr_cut hsp mixed 3 (vaI x l ((l.length:Int)-1,0)) True ?_ (fun _=>?_)
 ·have hw:IntKind.i64.wrap ((l.length:Int)-1)=(l.length:Int)-1:=wrap_i64' (by omega) (by omega)
  rw[<- hw]
  refine vcx (X:=((vaI x l (IntKind.i64.wrap ((↑l.length:Int)-(1:Int)),(0:F2))).triv True)) (by kernel_rfl) ?_
  exact tvi trivial
 refine tr_while hsp mixed noSw (fun σ=>(rdS (.int .i64) 6 σ,rdB f2 16 σ)) (vaI x l) (fun g=>∃ k:Nat,k<=l.length/\g.1=(k:Int)-1/\g.2=hv x (l.drop k)) (fun g=>(g.1+1).toNat)
  (fun σ=>(rdS (.int .i64) 6 σ,rdB f2 16 σ)) (vaI x l) (fun g=>g.2=hv x l) ((l.length:Int)-1,0) (c:=nthC (codeOf Tryz.f155) 3) (by kernel_rfl) (by kernel_rfl) (le_of_proj (by kernel_rfl) (by kernel_rfl) ?_) ?_ ?_
 ·exact⟨l.length,Nat.le_refl _,rfl,by rw[List.drop_length];rfl⟩
 ·rintro⟨i,s⟩ hj
  revert i s
  intro (i:Int) (s:F2) ⟨k,hk,ei,es⟩
  have ei:i=(k:Int)-1:=ei
  have es:s=hv x (l.drop k):=es
  refine vcx (X:=((decide (i>=(0:Int))=true->True/\((0:Int)<=i/\i<(↑l.length:Int))/\i.toNat<l.length/\True/\(vaI x l (IntKind.i64.wrap (i-(1:Int)),s*x+l.getD i.toNat ((0:Fp),(0:Fp)))).triv ((∃ k,k<=l.length/\IntKind.i64.wrap (i-(1:Int))=(↑k:Int)-(1:Car (Kd.int IntKind.i64))/\s*x+l.getD i.toNat ((0:Fp),(0:Fp))=hv x (List.drop k l))/\Int.toNat (IntKind.i64.wrap (i-(1:Int))+(1:Car (Kd.int IntKind.i64)))<Int.toNat (i+(1:Car (Kd.int IntKind.i64)))))/\(decide (i>=(0:Int))=false->(vaI x l (i,s)).triv (s=hv x l)))) (by kernel_rfl) ?_
  refine⟨fun h=>?_,fun h=>tvi ?_⟩
  ·have h0:0<=i:=of_decide_eq_true h
   obtain⟨j,hj⟩:∃ j,k=j+1:=⟨k-1,by omega⟩
   have e1:i.toNat=j:=by omega
   have e2:IntKind.i64.wrap (i-1)=(j:Int)-1:=by rw[wrap_i64' (by omega) (by omega)];omega
   have hlt:j<l.length:=by omega
   have hd:l.drop j=l[j]::l.drop (j+1):=List.drop_eq_getElem_cons hlt
   have hg:l.getD j ((0:Fp),(0:Fp))=l[j]:=by simp[List.getD_eq_getElem?_getD,hlt]
   rw[e2,e1,hg]
   refine⟨trivial,⟨h0,by omega⟩,hlt,trivial,tvi ⟨⟨j,by omega,rfl,?_⟩,by omega⟩⟩
   rw[hd,es,hj];rfl
  ·have h0:¬ 0<=i:=of_decide_eq_false h
   have hk0:k=0:=by omega
   rw[es,hk0];rfl
 rintro⟨i,s⟩ hx
 revert i s
 intro (i:Int) (s:F2) (hx:s=hv x l)
 refine tr_vc hsp mixed _ _ ?_
 refine vcx (X:=((s,())=(hvo x l,()))) (by kernel_rfl) ?_
 rw[hvo,opq_eq,hx]
def spValue:Nat × Eng.Spec:=(155,fnSpec [f2,.sl f2] [.val f2] (fun (_,l,_)=>List.length l<=1048576) (fun (x,l,_)=>(hvo x l,())))
end
end Go.Proofs.YtbeeaekepmnfhaaGreatDoor.h2c
namespace Go.Proofs.YtbeeaekepmnfhaaGreatDoor.h2c
open Go Go.Eng Go.RowKit Cr fp2
abbrev csH2c1:=(List.take 3 [(zmp (0:Int),zmp (-72:Int)),(zmp (12:Int),zmp (-12:Int)),(zmp (1:Int),zmp (0:Int))])
abbrev csH2c0:=(List.take 4 [(zmp (-432:Int),zmp (-432:Int)),(zmp (0:Int),zmp (-216:Int)),(zmp (18:Int),zmp (-18:Int)),(zmp (1:Int),zmp (0:Int))])
def balH2c1:ByteArray:=(ByteArray.mk (([(48:UInt8),(53:UInt8),(99:UInt8),(55:UInt8),(53:UInt8),(57:UInt8),(53:UInt8),(48:UInt8),(55:UInt8),(101:UInt8),(56:UInt8),(101:UInt8),(51:UInt8),(51:UInt8),(51:UInt8),(101:UInt8),(98:UInt8),(98:UInt8),(53:UInt8),(98:UInt8),(55:UInt8),(97:UInt8),(57:UInt8),(97:UInt8),(52:UInt8),(55:UInt8),(100:UInt8),(55:UInt8),(101:UInt8),(100:UInt8),(56:UInt8),(53:UInt8),(51:UInt8),(50:UInt8),(99:UInt8),(53:UInt8),(50:UInt8),(100:UInt8),(51:UInt8),(57:UInt8),(102:UInt8),(100:UInt8),(51:UInt8),(97:UInt8),(48:UInt8),(52:UInt8),(50:UInt8),(97:UInt8)].append [(56:UInt8),(56:UInt8),(98:UInt8),(53:UInt8),(56:UInt8),(52:UInt8),(50:UInt8),(51:UInt8),(99:UInt8),(53:UInt8),(48:UInt8),(97:UInt8),(101:UInt8),(49:UInt8),(53:UInt8),(100:UInt8),(53:UInt8),(99:UInt8),(50:UInt8),(54:UInt8),(51:UInt8),(56:UInt8),(101:UInt8),(51:UInt8),(52:UInt8),(51:UInt8),(100:UInt8),(57:UInt8),(99:UInt8),(55:UInt8),(49:UInt8),(99:UInt8),(54:UInt8),(50:UInt8),(51:UInt8),(56:UInt8),(97:UInt8),(97:UInt8),(97:UInt8),(97:UInt8),(97:UInt8),(97:UInt8),(97:UInt8),(97:UInt8),(57:UInt8),(55:UInt8),(100:UInt8),(54:UInt8)]).toArray ))
def balH2c2:ByteArray:=(ByteArray.mk (([(48:UInt8),(53:UInt8),(99:UInt8),(55:UInt8),(53:UInt8),(57:UInt8),(53:UInt8),(48:UInt8),(55:UInt8),(101:UInt8),(56:UInt8),(101:UInt8),(51:UInt8),(51:UInt8),(51:UInt8),(101:UInt8),(98:UInt8),(98:UInt8),(53:UInt8),(98:UInt8),(55:UInt8),(97:UInt8),(57:UInt8),(97:UInt8),(52:UInt8),(55:UInt8),(100:UInt8),(55:UInt8),(101:UInt8),(100:UInt8),(56:UInt8),(53:UInt8),(51:UInt8),(50:UInt8),(99:UInt8),(53:UInt8),(50:UInt8),(100:UInt8),(51:UInt8),(57:UInt8),(102:UInt8),(100:UInt8),(51:UInt8),(97:UInt8),(48:UInt8),(52:UInt8),(50:UInt8),(97:UInt8)].append [(56:UInt8),(56:UInt8),(98:UInt8),(53:UInt8),(56:UInt8),(52:UInt8),(50:UInt8),(51:UInt8),(99:UInt8),(53:UInt8),(48:UInt8),(97:UInt8),(101:UInt8),(49:UInt8),(53:UInt8),(100:UInt8),(53:UInt8),(99:UInt8),(50:UInt8),(54:UInt8),(51:UInt8),(56:UInt8),(101:UInt8),(51:UInt8),(52:UInt8),(51:UInt8),(100:UInt8),(57:UInt8),(99:UInt8),(55:UInt8),(49:UInt8),(99:UInt8),(54:UInt8),(50:UInt8),(51:UInt8),(56:UInt8),(97:UInt8),(97:UInt8),(97:UInt8),(97:UInt8),(97:UInt8),(97:UInt8),(97:UInt8),(97:UInt8),(57:UInt8),(55:UInt8),(98:UInt8),(101:UInt8)]).toArray ))
def balH2c3:ByteArray:=(ByteArray.mk (([(48:UInt8),(56:UInt8),(97:UInt8),(98:UInt8),(48:UInt8),(53:UInt8),(102:UInt8),(56:UInt8),(98:UInt8),(100:UInt8),(100:UInt8),(53:UInt8),(52:UInt8),(99:UInt8),(100:UInt8),(101:UInt8),(49:UInt8),(57:UInt8),(48:UInt8),(57:UInt8),(51:UInt8),(55:UInt8),(101:UInt8),(55:UInt8),(54:UInt8),(98:UInt8),(99:UInt8),(51:UInt8),(101:UInt8),(52:UInt8),(52:UInt8),(55:UInt8),(99:UInt8),(99:UInt8),(50:UInt8),(55:UInt8),(99:UInt8),(51:UInt8),(100:UInt8),(54:UInt8),(102:UInt8),(98:UInt8),(100:UInt8),(55:UInt8),(48:UInt8),(54:UInt8),(51:UInt8),(102:UInt8)].append [(99:UInt8),(100:UInt8),(49:UInt8),(48:UInt8),(52:UInt8),(54:UInt8),(51:UInt8),(53:UInt8),(97:UInt8),(55:UInt8),(57:UInt8),(48:UInt8),(53:UInt8),(50:UInt8),(48:UInt8),(99:UInt8),(48:UInt8),(97:UInt8),(51:UInt8),(57:UInt8),(53:UInt8),(53:UInt8),(53:UInt8),(52:UInt8),(101:UInt8),(53:UInt8),(99:UInt8),(54:UInt8),(97:UInt8),(97:UInt8),(97:UInt8),(97:UInt8),(57:UInt8),(51:UInt8),(53:UInt8),(52:UInt8),(102:UInt8),(102:UInt8),(102:UInt8),(102:UInt8),(102:UInt8),(102:UInt8),(102:UInt8),(102:UInt8),(101:UInt8),(51:UInt8),(56:UInt8),(100:UInt8)]).toArray ))
def balH2c4:ByteArray:=(ByteArray.mk (([(48:UInt8),(56:UInt8),(97:UInt8),(98:UInt8),(48:UInt8),(53:UInt8),(102:UInt8),(56:UInt8),(98:UInt8),(100:UInt8),(100:UInt8),(53:UInt8),(52:UInt8),(99:UInt8),(100:UInt8),(101:UInt8),(49:UInt8),(57:UInt8),(48:UInt8),(57:UInt8),(51:UInt8),(55:UInt8),(101:UInt8),(55:UInt8),(54:UInt8),(98:UInt8),(99:UInt8),(51:UInt8),(101:UInt8),(52:UInt8),(52:UInt8),(55:UInt8),(99:UInt8),(99:UInt8),(50:UInt8),(55:UInt8),(99:UInt8),(51:UInt8),(100:UInt8),(54:UInt8),(102:UInt8),(98:UInt8),(100:UInt8),(55:UInt8),(48:UInt8),(54:UInt8),(51:UInt8),(102:UInt8)].append [(99:UInt8),(100:UInt8),(49:UInt8),(48:UInt8),(52:UInt8),(54:UInt8),(51:UInt8),(53:UInt8),(97:UInt8),(55:UInt8),(57:UInt8),(48:UInt8),(53:UInt8),(50:UInt8),(48:UInt8),(99:UInt8),(48:UInt8),(97:UInt8),(51:UInt8),(57:UInt8),(53:UInt8),(53:UInt8),(53:UInt8),(52:UInt8),(101:UInt8),(53:UInt8),(99:UInt8),(54:UInt8),(97:UInt8),(97:UInt8),(97:UInt8),(97:UInt8),(57:UInt8),(51:UInt8),(53:UInt8),(52:UInt8),(102:UInt8),(102:UInt8),(102:UInt8),(102:UInt8),(102:UInt8),(102:UInt8),(102:UInt8),(102:UInt8),(101:UInt8),(51:UInt8),(56:UInt8),(102:UInt8)]).toArray ))
def balH2c5:ByteArray:=(ByteArray.mk (([(49:UInt8),(49:UInt8),(53:UInt8),(54:UInt8),(48:UInt8),(98:UInt8),(102:UInt8),(49:UInt8),(55:UInt8),(98:UInt8),(97:UInt8),(97:UInt8),(57:UInt8),(57:UInt8),(98:UInt8),(99:UInt8),(51:UInt8),(50:UInt8),(49:UInt8),(50:UInt8),(54:UInt8),(102:UInt8),(99:UInt8),(101:UInt8),(100:UInt8),(55:UInt8),(56:UInt8),(55:UInt8),(99:UInt8),(56:UInt8),(56:UInt8),(102:UInt8),(57:UInt8),(56:UInt8),(52:UInt8),(102:UInt8),(56:UInt8),(55:UInt8),(97:UInt8),(100:UInt8),(102:UInt8),(55:UInt8),(97:UInt8),(101:UInt8),(48:UInt8),(99:UInt8),(55:UInt8),(102:UInt8)].append [(57:UInt8),(97:UInt8),(50:UInt8),(48:UInt8),(56:UInt8),(99:UInt8),(54:UInt8),(98:UInt8),(52:UInt8),(102:UInt8),(50:UInt8),(48:UInt8),(97:UInt8),(52:UInt8),(49:UInt8),(56:UInt8),(49:UInt8),(52:UInt8),(55:UInt8),(50:UInt8),(97:UInt8),(97:UInt8),(97:UInt8),(57:UInt8),(99:UInt8),(98:UInt8),(56:UInt8),(100:UInt8),(53:UInt8),(53:UInt8),(53:UInt8),(53:UInt8),(50:UInt8),(54:UInt8),(97:UInt8),(57:UInt8),(102:UInt8),(102:UInt8),(102:UInt8),(102:UInt8),(102:UInt8),(102:UInt8),(102:UInt8),(102:UInt8),(99:UInt8),(55:UInt8),(49:UInt8),(101:UInt8)]).toArray ))
def balH2c6:ByteArray:=(ByteArray.mk (([(49:UInt8),(49:UInt8),(53:UInt8),(54:UInt8),(48:UInt8),(98:UInt8),(102:UInt8),(49:UInt8),(55:UInt8),(98:UInt8),(97:UInt8),(97:UInt8),(57:UInt8),(57:UInt8),(98:UInt8),(99:UInt8),(51:UInt8),(50:UInt8),(49:UInt8),(50:UInt8),(54:UInt8),(102:UInt8),(99:UInt8),(101:UInt8),(100:UInt8),(55:UInt8),(56:UInt8),(55:UInt8),(99:UInt8),(56:UInt8),(56:UInt8),(102:UInt8),(57:UInt8),(56:UInt8),(52:UInt8),(102:UInt8),(56:UInt8),(55:UInt8),(97:UInt8),(100:UInt8),(102:UInt8),(55:UInt8),(97:UInt8),(101:UInt8),(48:UInt8),(99:UInt8),(55:UInt8),(102:UInt8)].append [(57:UInt8),(97:UInt8),(50:UInt8),(48:UInt8),(56:UInt8),(99:UInt8),(54:UInt8),(98:UInt8),(52:UInt8),(102:UInt8),(50:UInt8),(48:UInt8),(97:UInt8),(52:UInt8),(49:UInt8),(56:UInt8),(49:UInt8),(52:UInt8),(55:UInt8),(50:UInt8),(97:UInt8),(97:UInt8),(97:UInt8),(57:UInt8),(99:UInt8),(98:UInt8),(56:UInt8),(100:UInt8),(53:UInt8),(53:UInt8),(53:UInt8),(53:UInt8),(50:UInt8),(54:UInt8),(97:UInt8),(57:UInt8),(102:UInt8),(102:UInt8),(102:UInt8),(102:UInt8),(102:UInt8),(102:UInt8),(102:UInt8),(102:UInt8),(99:UInt8),(55:UInt8),(49:UInt8),(97:UInt8)]).toArray ))
def balH2c7:ByteArray:=(ByteArray.mk (([(49:UInt8),(49:UInt8),(53:UInt8),(54:UInt8),(48:UInt8),(98:UInt8),(102:UInt8),(49:UInt8),(55:UInt8),(98:UInt8),(97:UInt8),(97:UInt8),(57:UInt8),(57:UInt8),(98:UInt8),(99:UInt8),(51:UInt8),(50:UInt8),(49:UInt8),(50:UInt8),(54:UInt8),(102:UInt8),(99:UInt8),(101:UInt8),(100:UInt8),(55:UInt8),(56:UInt8),(55:UInt8),(99:UInt8),(56:UInt8),(56:UInt8),(102:UInt8),(57:UInt8),(56:UInt8),(52:UInt8),(102:UInt8),(56:UInt8),(55:UInt8),(97:UInt8),(100:UInt8),(102:UInt8),(55:UInt8),(97:UInt8),(101:UInt8),(48:UInt8),(99:UInt8),(55:UInt8),(102:UInt8)].append [(57:UInt8),(97:UInt8),(50:UInt8),(48:UInt8),(56:UInt8),(99:UInt8),(54:UInt8),(98:UInt8),(52:UInt8),(102:UInt8),(50:UInt8),(48:UInt8),(97:UInt8),(52:UInt8),(49:UInt8),(56:UInt8),(49:UInt8),(52:UInt8),(55:UInt8),(50:UInt8),(97:UInt8),(97:UInt8),(97:UInt8),(57:UInt8),(99:UInt8),(98:UInt8),(56:UInt8),(100:UInt8),(53:UInt8),(53:UInt8),(53:UInt8),(53:UInt8),(50:UInt8),(54:UInt8),(97:UInt8),(57:UInt8),(102:UInt8),(102:UInt8),(102:UInt8),(102:UInt8),(102:UInt8),(102:UInt8),(102:UInt8),(102:UInt8),(99:UInt8),(55:UInt8),(49:UInt8),(99:UInt8)]).toArray ))
def balH2c8:ByteArray:=(ByteArray.mk (([(49:UInt8),(50:UInt8),(52:UInt8),(99:UInt8),(57:UInt8),(97:UInt8),(100:UInt8),(52:UInt8),(51:UInt8),(98:UInt8),(54:UInt8),(99:UInt8),(102:UInt8),(55:UInt8),(57:UInt8),(98:UInt8),(102:UInt8),(98:UInt8),(102:UInt8),(55:UInt8),(48:UInt8),(52:UInt8),(51:UInt8),(100:UInt8),(101:UInt8),(51:UInt8),(56:UInt8),(49:UInt8),(49:UInt8),(97:UInt8),(100:UInt8),(48:UInt8),(55:UInt8),(54:UInt8),(49:UInt8),(98:UInt8),(48:UInt8),(102:UInt8),(51:UInt8),(55:UInt8),(97:UInt8),(49:UInt8),(101:UInt8),(50:UInt8),(54:UInt8),(50:UInt8),(56:UInt8),(54:UInt8)].append [(98:UInt8),(48:UInt8),(101:UInt8),(57:UInt8),(55:UInt8),(55:UInt8),(99:UInt8),(54:UInt8),(57:UInt8),(97:UInt8),(97:UInt8),(50:UInt8),(55:UInt8),(52:UInt8),(53:UInt8),(50:UInt8),(52:UInt8),(101:UInt8),(55:UInt8),(57:UInt8),(48:UInt8),(57:UInt8),(55:UInt8),(97:UInt8),(53:UInt8),(54:UInt8),(100:UInt8),(99:UInt8),(52:UInt8),(98:UInt8),(100:UInt8),(57:UInt8),(101:UInt8),(49:UInt8),(98:UInt8),(51:UInt8),(55:UInt8),(49:UInt8),(99:UInt8),(55:UInt8),(49:UInt8),(99:UInt8),(55:UInt8),(49:UInt8),(56:UInt8),(98:UInt8),(49:UInt8),(48:UInt8)]).toArray ))
def balH2c9:ByteArray:=(ByteArray.mk (([(49:UInt8),(53:UInt8),(51:UInt8),(48:UInt8),(52:UInt8),(55:UInt8),(55:UInt8),(99:UInt8),(55:UInt8),(97:UInt8),(98:UInt8),(52:UInt8),(49:UInt8),(49:UInt8),(51:UInt8),(98:UInt8),(53:UInt8),(57:UInt8),(97:UInt8),(52:UInt8),(99:UInt8),(49:UInt8),(56:UInt8),(98:UInt8),(48:UInt8),(55:UInt8),(54:UInt8),(100:UInt8),(49:UInt8),(49:UInt8),(57:UInt8),(51:UInt8),(48:UInt8),(102:UInt8),(55:UInt8),(100:UInt8),(97:UInt8),(53:UInt8),(100:UInt8),(52:UInt8),(97:UInt8),(48:UInt8),(55:UInt8),(102:UInt8),(54:UInt8),(52:UInt8),(57:UInt8),(98:UInt8)].append [(102:UInt8),(53:UInt8),(52:UInt8),(52:UInt8),(51:UInt8),(57:UInt8),(100:UInt8),(56:UInt8),(55:UInt8),(100:UInt8),(50:UInt8),(55:UInt8),(101:UInt8),(53:UInt8),(48:UInt8),(48:UInt8),(102:UInt8),(99:UInt8),(56:UInt8),(99:UInt8),(50:UInt8),(53:UInt8),(101:UInt8),(98:UInt8),(102:UInt8),(56:UInt8),(99:UInt8),(57:UInt8),(50:UInt8),(102:UInt8),(54:UInt8),(56:UInt8),(49:UInt8),(50:UInt8),(99:UInt8),(102:UInt8),(99:UInt8),(55:UInt8),(49:UInt8),(99:UInt8),(55:UInt8),(49:UInt8),(99:UInt8),(54:UInt8),(100:UInt8),(55:UInt8),(48:UInt8),(54:UInt8)]).toArray ))
def balH2c10:ByteArray:=(ByteArray.mk (([(49:UInt8),(55:UInt8),(49:UInt8),(100:UInt8),(54:UInt8),(53:UInt8),(52:UInt8),(49:UInt8),(102:UInt8),(97:UInt8),(51:UInt8),(56:UInt8),(99:UInt8),(99:UInt8),(102:UInt8),(97:UInt8),(101:UInt8),(100:UInt8),(54:UInt8),(100:UInt8),(101:UInt8),(97:UInt8),(54:UInt8),(57:UInt8),(49:UInt8),(102:UInt8),(53:UInt8),(102:UInt8),(98:UInt8),(54:UInt8),(49:UInt8),(52:UInt8),(99:UInt8),(98:UInt8),(49:UInt8),(52:UInt8),(98:UInt8),(52:UInt8),(101:UInt8),(55:UInt8),(102:UInt8),(52:UInt8),(101:UInt8),(56:UInt8),(49:UInt8),(48:UInt8),(97:UInt8),(97:UInt8)].append [(50:UInt8),(50:UInt8),(100:UInt8),(54:UInt8),(49:UInt8),(48:UInt8),(56:UInt8),(102:UInt8),(49:UInt8),(52:UInt8),(50:UInt8),(98:UInt8),(56:UInt8),(53:UInt8),(55:UInt8),(53:UInt8),(55:UInt8),(48:UInt8),(57:UInt8),(56:UInt8),(101:UInt8),(51:UInt8),(56:UInt8),(100:UInt8),(48:UInt8),(102:UInt8),(54:UInt8),(55:UInt8),(49:UInt8),(99:UInt8),(55:UInt8),(49:UInt8),(56:UInt8),(56:UInt8),(101:UInt8),(50:UInt8),(97:UInt8),(97:UInt8),(97:UInt8),(97:UInt8),(97:UInt8),(97:UInt8),(97:UInt8),(97:UInt8),(53:UInt8),(101:UInt8),(100:UInt8),(49:UInt8)]).toArray ))
noncomputable def acro (x y:F2):F2 × F2:=opq (if hq x cU*hq x cB=0 then O2 else (hq x cW*hq x cB*inv2 (hq x cU*hq x cB),y*hq x cH*hq x cU*inv2 (hq x cU*hq x cB)))
theorem lU:([(zmp (0:Int),zmp (-72:Int)),(zmp (12:Int),zmp (-12:Int)),(zmp (1:Int),zmp (0:Int))]:List F2)=cU.map q2:=of_decide_eq_true (by kernel_rfl)
theorem lB:([(zmp (-432:Int),zmp (-432:Int)),(zmp (0:Int),zmp (-216:Int)),(zmp (18:Int),zmp (-18:Int)),(zmp (1:Int),zmp (0:Int))]:List F2)=cB.map q2:=of_decide_eq_true (by kernel_rfl)
theorem hU (x:F2):hvo x csH2c1=hq x cU:=by
 rw[hvo,opq_eq,hq,<- lU];rfl
theorem hB (x:F2):hvo x csH2c0=hq x cB:=by
 rw[hvo,opq_eq,hq,<- lB];rfl
theorem hvo_4 {x a b c d:F2} {p q r s:V2} (ha:a=q2 p) (hb:b=q2 q) (hc:c=q2 r) (hd:d=q2 s):hvo x (List.take 4 [a,b,c,d])=hq x [p,q,r,s]:=by
 rw[hvo,opq_eq,ha,hb,hc,hd];rfl
def grv (s:ByteArray) (n:Nat):Bool:=decide ((fp.rdFp (List.take 48 (grG s s.size))).1.v=(n:Int)%Mp)
theorem gq {s t:ByteArray} {m n:Nat} (h1:grv s m=true) (h2:grv t n=true):((gro s,gro t):F2)=q2 (m,n):=by
 refine F2.ext (Zm.ext ?_) (Zm.ext ?_)
 ·show (gro s).v=_
  rw[gro,opq_eq];exact of_decide_eq_true h1
 ·show (gro t).v=_
  rw[gro,opq_eq];exact of_decide_eq_true h2
theorem across_0 {x y:F2} (h:decide (hvo x csH2c1*hvo x csH2c0=(0:Car Kd.fp × Car Kd.fp))=true):((((0:Fp),(0:Fp)),(0:Fp),(0:Fp)),())=(acro x y,()):=by
 have h:hvo x csH2c1*hvo x csH2c0=0:=of_decide_eq_true h
 rw[hU,hB] at h
 rw[acro,opq_eq,if_pos h];rfl
theorem across_1 {x y a0 a1 a2 a3 b0 b1 b2 b3:F2} (h:decide (hvo x csH2c1*hvo x csH2c0=(0:Car Kd.fp × Car Kd.fp))=false) (e0:a0=q2 (889424345604814976315064405719089812568196182208668418962679585805340366775741747653930584250892369786198727235542,889424345604814976315064405719089812568196182208668418962679585805340366775741747653930584250892369786198727235542)) (e1:a1=q2 (0,2668273036814444928945193217157269437704588546626005256888038757416021100327225242961791752752677109358596181706522)) (e2:a2=q2 (2668273036814444928945193217157269437704588546626005256888038757416021100327225242961791752752677109358596181706526,1334136518407222464472596608578634718852294273313002628444019378708010550163612621480895876376338554679298090853261)) (e3:a3=q2 (3557697382419259905260257622876359250272784728834673675850718343221361467102966990615722337003569479144794908942033,0)) (f0:b0=q2 (3261222600550988246488569487636662646083386001431784202863158481286248011511053074731078808919938689216061999863558,3261222600550988246488569487636662646083386001431784202863158481286248011511053074731078808919938689216061999863558)) (f1:b1=q2 (0,889424345604814976315064405719089812568196182208668418962679585805340366775741747653930584250892369786198727235518)) (f2:b2=q2 (2668273036814444928945193217157269437704588546626005256888038757416021100327225242961791752752677109358596181706524,1334136518407222464472596608578634718852294273313002628444019378708010550163612621480895876376338554679298090853263)) (f3:b3=q2 (2816510427748580758331037284777117739799287910327449993381818688383577828123182200904113516794492504322962636245776,0)) :
  ((hvo x (List.take 4 [a0,a1,a2,a3])*hvo x csH2c0*inv2 (hvo x csH2c1*hvo x csH2c0),y*hvo x (List.take 4 [b0,b1,b2,b3])*hvo x csH2c1*inv2 (hvo x csH2c1*hvo x csH2c0)),())=(acro x y,()):=by
 have h:¬ hvo x csH2c1*hvo x csH2c0=0:=of_decide_eq_false h
 rw[hU,hB] at h
 rw[acro,opq_eq,if_neg h,hU,hB,hvo_4 e0 e1 e2 e3,hvo_4 f0 f1 f2 f3];rfl
theorem ent_across:enters Tryz.prog 157 Tryz.f157:=ek
theorem fn_across:FnOk Tryz.prog 157 [f2,f2] [.val pt2] noG (fun _=>True) (fun (x,y,_)=>(acro x y,())):=by
 refine fn_of_vc (sp:=sps [spSmall,spSm2,spValue,spAcr1,fp2.spMul,fp2.spZero,fp2.spInv]) (spk (fok fn_small) (spk (fok fn_sm2) (spk (fok fn_value) (spk (fok fn_acr1) (spk (fok fp2.fn_mul) (spk (fok fp2.fn_zero) (spk (fok fp2.fn_inv) snl))))))) mixed ent_across (by decide) (by decide) ?_
 rintro w M0 ⟨x,y,⟨⟩⟩
 revert x y
 intro (x:F2) (y:F2) _ _
 refine vcx (X:=(True/\(smA (0:Int)/\smA (-72:Int))/\(smA (12:Int)/\smA (-12:Int))/\(smA (1:Int)/\smA (0:Int))/\0+3<=3/\csH2c1.length<=(1048576:Nat)/\(smA (-432:Int)/\smA (-432:Int))/\(smA (0:Int)/\smA (-216:Int))/\(smA (18:Int)/\smA (-18:Int))/\(smA (1:Int)/\smA (0:Int))/\0+4<=4/\csH2c0.length<=(1048576:Nat)/\True/\True/\(decide (hvo x csH2c1*hvo x csH2c0=(0:Car Kd.fp × Car Kd.fp))=true->((((0:Fp),(0:Fp)),(0:Fp),(0:Fp)),())=(acro x y,()))/\(decide (hvo x csH2c1*hvo x csH2c0=(0:Car Kd.fp × Car Kd.fp))=false->(grOk balH2c1=true/\grOk balH2c1=true)/\(grOk (ByteArray.mk (#[] ))=true/\grOk balH2c6=true)/\(grOk balH2c5=true/\grOk balH2c3=true)/\(grOk balH2c10=true/\grOk (ByteArray.mk (#[] ))=true)/\0+4<=4/\(List.take 4 [(gro balH2c1,gro balH2c1),(gro (ByteArray.mk (#[] )),gro balH2c6),(gro balH2c5,gro balH2c3),(gro balH2c10,gro (ByteArray.mk (#[] )))]).length<=(1048576:Nat)/\(grOk balH2c9=true/\grOk balH2c9=true)/\(grOk (ByteArray.mk (#[] ))=true/\grOk balH2c2=true)/\(grOk balH2c7=true/\grOk balH2c4=true)/\(grOk balH2c8=true/\grOk (ByteArray.mk (#[] ))=true)/\0+4<=4/\(List.take 4 [(gro balH2c9,gro balH2c9),(gro (ByteArray.mk (#[] )),gro balH2c2),(gro balH2c7,gro balH2c4),(gro balH2c8,gro (ByteArray.mk (#[] )))]).length<=(1048576:Nat)/\True/\True/\True/\True/\True/\True/\((hvo x (List.take 4 [(gro balH2c1,gro balH2c1),(gro (ByteArray.mk (#[] )),gro balH2c6),(gro balH2c5,gro balH2c3),(gro balH2c10,gro (ByteArray.mk (#[] )))])*hvo x csH2c0*inv2 (hvo x csH2c1*hvo x csH2c0),y*hvo x (List.take 4 [(gro balH2c9,gro balH2c9),(gro (ByteArray.mk (#[] )),gro balH2c2),(gro balH2c7,gro balH2c4),(gro balH2c8,gro (ByteArray.mk (#[] )))])*hvo x csH2c1*inv2 (hvo x csH2c1*hvo x csH2c0)),())=(acro x y,())))) (by kernel_rfl) ?_
 refine⟨trivial,⟨⟨by decide,by decide⟩,⟨by decide,by decide⟩⟩,⟨⟨by decide,by decide⟩,⟨by decide,by decide⟩⟩,⟨⟨by decide,by decide⟩,⟨by decide,by decide⟩⟩,Nat.le_refl _,by decide,⟨⟨by decide,by decide⟩,⟨by decide,by decide⟩⟩,⟨⟨by decide,by decide⟩,⟨by decide,by decide⟩⟩,⟨⟨by decide,by decide⟩,⟨by decide,by decide⟩⟩,⟨⟨by decide,by decide⟩,⟨by decide,by decide⟩⟩,Nat.le_refl _,by decide,trivial,trivial,fun h=>across_0 h,fun h=>⟨⟨by kernel_rfl,by kernel_rfl⟩,⟨by kernel_rfl,by kernel_rfl⟩,⟨by kernel_rfl,by kernel_rfl⟩,⟨by kernel_rfl,by kernel_rfl⟩,Nat.le_refl _,Nat.le_trans (List.length_take_le _ _) (by decide),⟨by kernel_rfl,by kernel_rfl⟩,⟨by kernel_rfl,by kernel_rfl⟩,⟨by kernel_rfl,by kernel_rfl⟩,⟨by kernel_rfl,by kernel_rfl⟩,Nat.le_refl _,Nat.le_trans (List.length_take_le _ _) (by decide),trivial,trivial,trivial,trivial,trivial,trivial,?_⟩⟩
 exact across_1 h (gq (by kernel_rfl) (by kernel_rfl)) (gq (by kernel_rfl) (by kernel_rfl)) (gq (by kernel_rfl) (by kernel_rfl)) (gq (by kernel_rfl) (by kernel_rfl)) (gq (by kernel_rfl) (by kernel_rfl)) (gq (by kernel_rfl) (by kernel_rfl)) (gq (by kernel_rfl) (by kernel_rfl)) (gq (by kernel_rfl) (by kernel_rfl))
noncomputable def spAcross:Nat × Eng.Spec:=(157,fnSpec [f2,f2] [.val pt2] (fun _=>True) (fun (x,y,_)=>(acro x y,())))
end Go.Proofs.YtbeeaekepmnfhaaGreatDoor.h2c
namespace Go.Proofs.YtbeeaekepmnfhaaGreatDoor.h2c
noncomputable section
open Go Go.Eng Go.RowKit Cr fp2
abbrev csH2d0:=(List.take 4 [(zmp (1012:Int),zmp (1012:Int)),(zmp (0:Int),zmp (240:Int)),((0:Fp),(0:Fp)),(zmp (1:Int),zmp (0:Int))])
def odo (y:F2):Bool:=opq (od y)
theorem fo_odd:FnOk Tryz.prog 156 [f2] [.val .bool] noG (fun _=>True) (fun (y,_)=>(odo y,())):=fp2.fn_odd.out fun (y,_)=>by show (odo y,())=(_,());rw[odo,opq_eq];rfl
def soOdd:Nat × Eng.Spec:=(156,fnSpec [f2] [.val .bool] (fun _=>True) (fun (y,_)=>(odo y,())))
def gsq (x:F2):F2 × Bool:=sqrt2 (hq x cG)
def fixy (u y:F2):F2:=if odo y=odo u then y else -y
def swm (u t x:F2):F2 × F2:=if (gsq x).2=true then acro x (fixy u (gsq x).1) else acro (x*t) (fixy u (gsq (x*t)).1)
def swx (u:F2):F2:=if inv2 (cz*(u*u)*(cz*(u*u))+cz*(u*u))=0 then cb*inv2 (cz*ca) else -cb*inv2 ca*(1+inv2 (cz*(u*u)*(cz*(u*u))+cz*(u*u)))
def mapo (u:F2):F2 × F2:=opq (swm u (cz*(u*u)) (swx u))
theorem k_a:((zmp (0:Int),zmp (240:Int)):F2)=ca:=rfl
theorem k_b:((zmp (1012:Int),zmp (1012:Int)):F2)=cb:=rfl
theorem k_z:((zmp (-2:Int),zmp (-1:Int)):F2)=cz:=F2.ext (Zm.ext (of_decide_eq_true (by kernel_rfl))) (Zm.ext (of_decide_eq_true (by kernel_rfl)))
theorem k_1:((zmp (1:Int),zmp (0:Int)):F2)=1:=F2.ext (Zm.ext (of_decide_eq_true (by kernel_rfl))) (Zm.ext (of_decide_eq_true (by kernel_rfl)))
theorem hG4 (x:F2):hvo x csH2d0=hq x cG:=hvo_4 (p:=(1012,1012)) (q:=(0,240)) (r:=(0,0)) (s:=(1,0)) k_b k_a rfl (k_1.trans rfl)
theorem map_o {u y:F2} {x:F2} {R:F2 × F2} (hR:R=acro x (fixy u y)):((!odo y==odo u)=true->True/\True/\(acro x (-y),())=(R,()))/\((!odo y==odo u)=false->True/\(acro x y,())=(R,())):=by
 refine⟨fun h=>⟨trivial,trivial,?_⟩,fun h=>⟨trivial,?_⟩⟩
 ·have h1:¬ odo y=odo u:=by simpa using h
  rw[hR,fixy,if_neg h1]
 ·have h1:odo y=odo u:=by simpa using h
  rw[hR,fixy,if_pos h1]
theorem map_t {u T x:F2} {R:F2 × F2} (hR:R=swm u T x):((!(sqrt2 (hvo x csH2d0)).snd)=true->True/\0+4<=4/\csH2d0.length<=(1048576:Nat)/\True/\True/\True/\((!odo (sqrt2 (hvo (x*T) csH2d0)).fst==odo u)=true->True/\True/\(acro (x*T) (-(sqrt2 (hvo (x*T) csH2d0)).fst),())=(R,()))/\((!odo (sqrt2 (hvo (x*T) csH2d0)).fst==odo u)=false->True/\(acro (x*T) (sqrt2 (hvo (x*T) csH2d0)).fst,())=(R,())))/\((!(sqrt2 (hvo x csH2d0)).snd)=false->True/\True/\((!odo (sqrt2 (hvo x csH2d0)).fst==odo u)=true->True/\True/\(acro x (-(sqrt2 (hvo x csH2d0)).fst),())=(R,()))/\((!odo (sqrt2 (hvo x csH2d0)).fst==odo u)=false->True/\(acro x (sqrt2 (hvo x csH2d0)).fst,())=(R,()))):=by
 rw[hG4,hG4]
 refine⟨fun h=>⟨trivial,Nat.le_refl _,by decide,trivial,trivial,trivial,map_o ?_⟩,fun h=>⟨trivial,trivial,map_o ?_⟩⟩
 ·have h1:¬ (gsq x).2=true:=by
   have h:(!(gsq x).2)=true:=h
   simpa using h
  rw[hR,swm,if_neg h1];rfl
 ·have h1:(gsq x).2=true:=by
   have h:(!(gsq x).2)=false:=h
   simpa using h
  rw[hR,swm,if_pos h1];rfl
theorem ent_map:enters Tryz.prog 108 Tryz.f108:=ek
theorem fn_map:FnOk Tryz.prog 108 [f2] [.val pt2] noG (fun _=>True) (fun (u,_)=>(mapo u,())):=by
 refine fn_of_vc (sp:=sps [spSmall,spSm2,fp2.spSquare,fp2.spMul,fp2.spAdd,fp2.spInv,fp2.spZero,fp2.spNeg,spValue,fp2.spSqrt,soOdd,spAcross]) (spk (fok fn_small) (spk (fok fn_sm2) (spk (fok fp2.fn_square) (spk (fok fp2.fn_mul) (spk (fok fp2.fn_add) (spk (fok fp2.fn_inv) (spk (fok fp2.fn_zero) (spk (fok fp2.fn_neg) (spk (fok fn_value) (spk (fok fp2.fn_sqrt) (spk (fok fo_odd) (spk (fok fn_across) snl)))))))))))) mixed ent_map (by decide) (by decide) ?_
 rintro w M0 ⟨u,⟨⟩⟩
 revert u
 intro (u:F2) _ _
 refine vcx (X:=(True/\(smA (0:Int)/\smA (240:Int))/\(smA (1012:Int)/\smA (1012:Int))/\(smA (-2:Int)/\smA (-1:Int))/\(smA (1:Int)/\smA (0:Int))/\True/\True/\True/\True/\True/\True/\(decide (inv2 ((zmp (-2:Int),zmp (-1:Int))*(u*u)*((zmp (-2:Int),zmp (-1:Int))*(u*u))+(zmp (-2:Int),zmp (-1:Int))*(u*u))=(0:Car Kd.fp × Car Kd.fp))=true->True/\True/\True/\0+4<=4/\csH2d0.length<=(1048576:Nat)/\True/\((!(sqrt2 (hvo ((zmp (1012:Int),zmp (1012:Int))*inv2 ((zmp (-2:Int),zmp (-1:Int))*(zmp (0:Int),zmp (240:Int)))) csH2d0)).snd)=true->True/\0+4<=4/\csH2d0.length<=(1048576:Nat)/\True/\True/\True/\((!odo (sqrt2 (hvo ((zmp (1012:Int),zmp (1012:Int))*inv2 ((zmp (-2:Int),zmp (-1:Int))*(zmp (0:Int),zmp (240:Int)))*((zmp (-2:Int),zmp (-1:Int))*(u*u))) csH2d0)).fst==odo u)=true->True/\True/\(acro ((zmp (1012:Int),zmp (1012:Int))*inv2 ((zmp (-2:Int),zmp (-1:Int))*(zmp (0:Int),zmp (240:Int)))*((zmp (-2:Int),zmp (-1:Int))*(u*u))) (-(sqrt2 (hvo ((zmp (1012:Int),zmp (1012:Int))*inv2 ((zmp (-2:Int),zmp (-1:Int))*(zmp (0:Int),zmp (240:Int)))*((zmp (-2:Int),zmp (-1:Int))*(u*u))) csH2d0)).fst),())=(mapo u,()))/\((!odo (sqrt2 (hvo ((zmp (1012:Int),zmp (1012:Int))*inv2 ((zmp (-2:Int),zmp (-1:Int))*(zmp (0:Int),zmp (240:Int)))*((zmp (-2:Int),zmp (-1:Int))*(u*u))) csH2d0)).fst==odo u)=false->True/\(acro ((zmp (1012:Int),zmp (1012:Int))*inv2 ((zmp (-2:Int),zmp (-1:Int))*(zmp (0:Int),zmp (240:Int)))*((zmp (-2:Int),zmp (-1:Int))*(u*u))) (sqrt2 (hvo ((zmp (1012:Int),zmp (1012:Int))*inv2 ((zmp (-2:Int),zmp (-1:Int))*(zmp (0:Int),zmp (240:Int)))*((zmp (-2:Int),zmp (-1:Int))*(u*u))) csH2d0)).fst,())=(mapo u,())))/\((!(sqrt2 (hvo ((zmp (1012:Int),zmp (1012:Int))*inv2 ((zmp (-2:Int),zmp (-1:Int))*(zmp (0:Int),zmp (240:Int)))) csH2d0)).snd)=false->True/\True/\((!odo (sqrt2 (hvo ((zmp (1012:Int),zmp (1012:Int))*inv2 ((zmp (-2:Int),zmp (-1:Int))*(zmp (0:Int),zmp (240:Int)))) csH2d0)).fst==odo u)=true->True/\True/\(acro ((zmp (1012:Int),zmp (1012:Int))*inv2 ((zmp (-2:Int),zmp (-1:Int))*(zmp (0:Int),zmp (240:Int)))) (-(sqrt2 (hvo ((zmp (1012:Int),zmp (1012:Int))*inv2 ((zmp (-2:Int),zmp (-1:Int))*(zmp (0:Int),zmp (240:Int)))) csH2d0)).fst),())=(mapo u,()))/\((!odo (sqrt2 (hvo ((zmp (1012:Int),zmp (1012:Int))*inv2 ((zmp (-2:Int),zmp (-1:Int))*(zmp (0:Int),zmp (240:Int)))) csH2d0)).fst==odo u)=false->True/\(acro ((zmp (1012:Int),zmp (1012:Int))*inv2 ((zmp (-2:Int),zmp (-1:Int))*(zmp (0:Int),zmp (240:Int)))) (sqrt2 (hvo ((zmp (1012:Int),zmp (1012:Int))*inv2 ((zmp (-2:Int),zmp (-1:Int))*(zmp (0:Int),zmp (240:Int)))) csH2d0)).fst,())=(mapo u,()))))/\(decide (inv2 ((zmp (-2:Int),zmp (-1:Int))*(u*u)*((zmp (-2:Int),zmp (-1:Int))*(u*u))+(zmp (-2:Int),zmp (-1:Int))*(u*u))=(0:Car Kd.fp × Car Kd.fp))=false->True/\True/\True/\True/\True/\0+4<=4/\csH2d0.length<=(1048576:Nat)/\True/\((!(sqrt2 (hvo (-(zmp (1012:Int),zmp (1012:Int))*inv2 (zmp (0:Int),zmp (240:Int))*((zmp (1:Int),zmp (0:Int))+inv2 ((zmp (-2:Int),zmp (-1:Int))*(u*u)*((zmp (-2:Int),zmp (-1:Int))*(u*u))+(zmp (-2:Int),zmp (-1:Int))*(u*u)))) csH2d0)).snd)=true->True/\0+4<=4/\csH2d0.length<=(1048576:Nat)/\True/\True/\True/\((!odo (sqrt2 (hvo (-(zmp (1012:Int),zmp (1012:Int))*inv2 (zmp (0:Int),zmp (240:Int))*((zmp (1:Int),zmp (0:Int))+inv2 ((zmp (-2:Int),zmp (-1:Int))*(u*u)*((zmp (-2:Int),zmp (-1:Int))*(u*u))+(zmp (-2:Int),zmp (-1:Int))*(u*u)))*((zmp (-2:Int),zmp (-1:Int))*(u*u))) csH2d0)).fst==odo u)=true->True/\True/\(acro (-(zmp (1012:Int),zmp (1012:Int))*inv2 (zmp (0:Int),zmp (240:Int))*((zmp (1:Int),zmp (0:Int))+inv2 ((zmp (-2:Int),zmp (-1:Int))*(u*u)*((zmp (-2:Int),zmp (-1:Int))*(u*u))+(zmp (-2:Int),zmp (-1:Int))*(u*u)))*((zmp (-2:Int),zmp (-1:Int))*(u*u))) (-(sqrt2 (hvo (-(zmp (1012:Int),zmp (1012:Int))*inv2 (zmp (0:Int),zmp (240:Int))*((zmp (1:Int),zmp (0:Int))+inv2 ((zmp (-2:Int),zmp (-1:Int))*(u*u)*((zmp (-2:Int),zmp (-1:Int))*(u*u))+(zmp (-2:Int),zmp (-1:Int))*(u*u)))*((zmp (-2:Int),zmp (-1:Int))*(u*u))) csH2d0)).fst),())=(mapo u,()))/\((!odo (sqrt2 (hvo (-(zmp (1012:Int),zmp (1012:Int))*inv2 (zmp (0:Int),zmp (240:Int))*((zmp (1:Int),zmp (0:Int))+inv2 ((zmp (-2:Int),zmp (-1:Int))*(u*u)*((zmp (-2:Int),zmp (-1:Int))*(u*u))+(zmp (-2:Int),zmp (-1:Int))*(u*u)))*((zmp (-2:Int),zmp (-1:Int))*(u*u))) csH2d0)).fst==odo u)=false->True/\(acro (-(zmp (1012:Int),zmp (1012:Int))*inv2 (zmp (0:Int),zmp (240:Int))*((zmp (1:Int),zmp (0:Int))+inv2 ((zmp (-2:Int),zmp (-1:Int))*(u*u)*((zmp (-2:Int),zmp (-1:Int))*(u*u))+(zmp (-2:Int),zmp (-1:Int))*(u*u)))*((zmp (-2:Int),zmp (-1:Int))*(u*u))) (sqrt2 (hvo (-(zmp (1012:Int),zmp (1012:Int))*inv2 (zmp (0:Int),zmp (240:Int))*((zmp (1:Int),zmp (0:Int))+inv2 ((zmp (-2:Int),zmp (-1:Int))*(u*u)*((zmp (-2:Int),zmp (-1:Int))*(u*u))+(zmp (-2:Int),zmp (-1:Int))*(u*u)))*((zmp (-2:Int),zmp (-1:Int))*(u*u))) csH2d0)).fst,())=(mapo u,())))/\((!(sqrt2 (hvo (-(zmp (1012:Int),zmp (1012:Int))*inv2 (zmp (0:Int),zmp (240:Int))*((zmp (1:Int),zmp (0:Int))+inv2 ((zmp (-2:Int),zmp (-1:Int))*(u*u)*((zmp (-2:Int),zmp (-1:Int))*(u*u))+(zmp (-2:Int),zmp (-1:Int))*(u*u)))) csH2d0)).snd)=false->True/\True/\((!odo (sqrt2 (hvo (-(zmp (1012:Int),zmp (1012:Int))*inv2 (zmp (0:Int),zmp (240:Int))*((zmp (1:Int),zmp (0:Int))+inv2 ((zmp (-2:Int),zmp (-1:Int))*(u*u)*((zmp (-2:Int),zmp (-1:Int))*(u*u))+(zmp (-2:Int),zmp (-1:Int))*(u*u)))) csH2d0)).fst==odo u)=true->True/\True/\(acro (-(zmp (1012:Int),zmp (1012:Int))*inv2 (zmp (0:Int),zmp (240:Int))*((zmp (1:Int),zmp (0:Int))+inv2 ((zmp (-2:Int),zmp (-1:Int))*(u*u)*((zmp (-2:Int),zmp (-1:Int))*(u*u))+(zmp (-2:Int),zmp (-1:Int))*(u*u)))) (-(sqrt2 (hvo (-(zmp (1012:Int),zmp (1012:Int))*inv2 (zmp (0:Int),zmp (240:Int))*((zmp (1:Int),zmp (0:Int))+inv2 ((zmp (-2:Int),zmp (-1:Int))*(u*u)*((zmp (-2:Int),zmp (-1:Int))*(u*u))+(zmp (-2:Int),zmp (-1:Int))*(u*u)))) csH2d0)).fst),())=(mapo u,()))/\((!odo (sqrt2 (hvo (-(zmp (1012:Int),zmp (1012:Int))*inv2 (zmp (0:Int),zmp (240:Int))*((zmp (1:Int),zmp (0:Int))+inv2 ((zmp (-2:Int),zmp (-1:Int))*(u*u)*((zmp (-2:Int),zmp (-1:Int))*(u*u))+(zmp (-2:Int),zmp (-1:Int))*(u*u)))) csH2d0)).fst==odo u)=false->True/\(acro (-(zmp (1012:Int),zmp (1012:Int))*inv2 (zmp (0:Int),zmp (240:Int))*((zmp (1:Int),zmp (0:Int))+inv2 ((zmp (-2:Int),zmp (-1:Int))*(u*u)*((zmp (-2:Int),zmp (-1:Int))*(u*u))+(zmp (-2:Int),zmp (-1:Int))*(u*u)))) (sqrt2 (hvo (-(zmp (1012:Int),zmp (1012:Int))*inv2 (zmp (0:Int),zmp (240:Int))*((zmp (1:Int),zmp (0:Int))+inv2 ((zmp (-2:Int),zmp (-1:Int))*(u*u)*((zmp (-2:Int),zmp (-1:Int))*(u*u))+(zmp (-2:Int),zmp (-1:Int))*(u*u)))) csH2d0)).fst,())=(mapo u,())))))) (by kernel_rfl) ?_
 refine⟨trivial,⟨⟨by decide,by decide⟩,⟨by decide,by decide⟩⟩,⟨⟨by decide,by decide⟩,⟨by decide,by decide⟩⟩,⟨⟨by decide,by decide⟩,⟨by decide,by decide⟩⟩,⟨⟨by decide,by decide⟩,⟨by decide,by decide⟩⟩,trivial,trivial,trivial,trivial,trivial,trivial,fun h=>⟨trivial,trivial,trivial,Nat.le_refl _,by decide,trivial,map_t ?_⟩,fun h=>⟨trivial,trivial,trivial,trivial,trivial,Nat.le_refl _,by decide,trivial,map_t ?_⟩⟩
 ·rw[k_z] at h
  rw[mapo,opq_eq,swx,if_pos (of_decide_eq_true h),k_z,k_a,k_b]
 ·rw[k_z] at h
  rw[mapo,opq_eq,swx,if_neg (of_decide_eq_false h),k_z,k_a,k_b,k_1]
def spMap:Nat × Eng.Spec:=(108,fnSpec [f2] [.val pt2] (fun _=>True) (fun (u,_)=>(mapo u,())))
end
end Go.Proofs.YtbeeaekepmnfhaaGreatDoor.h2c
namespace Go.Proofs.YtbeeaekepmnfhaaGreatDoor.h2c
open Go Go.Eng Go.RowKit Cr fp2 Rg Fd
theorem fpsqrt_sq (y:Fp):(fp.fpSqrt (y*y)).2=true:=by
 by_cases hy:y=0
 ·rw[hy,mul_zero];exact fp2.fpsqrt_zero
 ·unfold fp.fpSqrt
  have e:zpw (y*y) fp.p14*zpw (y*y) fp.p14=y*y:=by
   have hf:=zpw_inv hy
   rw[zpw_eq] at hf ⊢
   rw[<- zpow_sq,<- zpow_add]
   have en:2*fp.p14.toNat+2*fp.p14.toNat=(4002409555221667393417789825735904156556882819939007885332058136124031650490837864442687629129015664037894272559785:Int).toNat+1+1+1:=of_decide_eq_true (by kernel_rfl)
   rw[en]
   generalize (4002409555221667393417789825735904156556882819939007885332058136124031650490837864442687629129015664037894272559785:Int).toNat=m at *
   show zpow y m*y*y*y=y*y
   rw[mul_comm (zpow y m) y,hf,one_mul]
  rw[if_pos e]
theorem sqrt2_sq (z:F2):(fp2.sqrt2 (z*z)).2=true:=by
 obtain⟨c,d⟩:=z
 have e1:(((c,d):F2)*(c,d)).1=c*c-d*d:=F2.mul1 _ _
 have e2:(((c,d):F2)*(c,d)).2=c*d+d*c:=F2.mul2 _ _
 by_cases hb:(((c,d):F2)*(c,d)).2=0
 ·rw[fp2.sqrt2,if_pos hb]
  by_cases h1:(fp.fpSqrt (((c,d):F2)*(c,d)).1).2=true
  ·rw[if_pos h1]
  ·rw[if_neg h1]
   show (fp.fpSqrt (-(((c,d):F2)*(c,d)).1)).2=true
   rw[e1] at h1 ⊢
   rw[e2,mul_comm d c] at hb
   rcases mul_eq_zero (double_eq_zero hb) with h|h
   ·rw[h,q_8,neg_neg];exact fpsqrt_sq d
   ·rw[h,mul_zero,sub_def,neg_zero,add_zero] at h1
    exact absurd (fpsqrt_sq c) h1
 ·rw[fp2.sqrt2,if_neg hb,e1,e2,q_5,if_pos (fpsqrt_sq _)]
  have hn:=fp2.fpsqrt_ok (fpsqrt_sq (c*c+d*d))
  generalize (fp.fpSqrt ((c*c+d*d)*(c*c+d*d))).1=n at *
  rcases sq_eq hn with h|h
  ·rw[h,q_6,if_pos (fpsqrt_sq _)]
  ·by_cases h2:(fp.fpSqrt (c*c-d*d+n+(c*c-d*d+n))).2=true
   ·rw[if_pos h2]
   ·rw[if_neg h2]
    show (fp.fpSqrt (c*c-d*d-n+(c*c-d*d-n))).2=true
    rw[h,q_7]
    exact fpsqrt_sq _
theorem gsq_of {x y:F2} (h:y*y=hq x cG):(gsq x).2=true:=by rw[gsq,<- h];exact sqrt2_sq y
theorem gsq_sq {x:F2} (h:(gsq x).2=true):(gsq x).1*(gsq x).1=hq x cG:=sqrt2_ok h
theorem inv2_0:inv2 0=0:=by
 rw[inv2_def]
 refine F2.ext ?_ ?_
 ·show (0:Fp)*_=0
  rw[zero_mul]
 ·show -(0:Fp)*_=0
  rw[neg_zero,zero_mul]
theorem inv2_m {x:F2} (h:x≠0):x*inv2 x=1:=mul_inv (F:=F2) x h
theorem inv2_u {x y:F2} (h:y*x=1):inv2 x=y:=by
 have hx:x≠0:=fun e=>by
  rw[e,mul_zero] at h
  exact absurd (congrArg Prod.fst h) (by decide)
 refine mul_left hx ?_
 rw[inv2_m hx,mul_comm x y,h]
theorem map_sq (u:F2):(gsq (swx u)).2=true\/(gsq (swx u*(cz*(u*u)))).2=true:=by
 by_cases h:∃ y:F2,y*y=hq (swx u) cG
 ·obtain⟨y,hy⟩:=h
  exact .inl (gsq_of hy)
 ·right
  have hn:∀ y:F2,y*y≠hq (swx u) cG:=fun y e=>h ⟨y,e⟩
  by_cases hd:inv2 (cz*(u*u)*(cz*(u*u))+cz*(u*u))=0
  ·exfalso
   obtain⟨y,hy⟩:=sw_0
   refine hn y ?_
   rw[swx,if_pos hd];exact hy
  ·have ht:cz*(u*u)*(cz*(u*u))+cz*(u*u)≠0:=fun e=>hd (by rw[e];exact inv2_0)
   obtain⟨y,hy⟩:=sw_two (u:=u) (t:=cz*(u*u)) (d:=inv2 (cz*(u*u)*(cz*(u*u))+cz*(u*u))) (x:=swx u) rfl (by rw[mul_comm];exact inv2_m ht) (by rw[swx,if_neg hd];rfl) hn
   exact gsq_of hy
theorem fixy_sq (u y:F2):fixy u y*fixy u y=y*y:=by
 rw[fixy]
 by_cases h:odo y=odo u
 ·rw[if_pos h]
 ·rw[if_neg h,neg_mul,mul_neg,neg_neg]
theorem acro_on {x y:F2} (h:y*y=hq x cG):OnP tb (acro x y):=by
 rw[acro,opq_eq]
 by_cases hz:hq x cU*hq x cB=0
 ·rw[if_pos hz];exact .inl rfl
 ·rw[if_neg hz];exact .inr (iso_on h (inv2_m hz))
theorem mapo_form (u:F2):∃ x y:F2,y*y=hq x cG/\mapo u=acro x (fixy u y)/\mapo (-u)=acro x (fixy (-u) y):=by
 have e1 : -u * -u=u*u:=by rw[neg_mul,mul_neg,neg_neg]
 have e2:swx (-u)=swx u:=by rw[swx,swx,e1]
 by_cases h:(gsq (swx u)).2=true
 ·refine⟨swx u,(gsq (swx u)).1,gsq_sq h,?_,?_⟩
  ·rw[mapo,opq_eq,swm,if_pos h]
  ·rw[mapo,opq_eq,e2,swm,if_pos h]
 ·have h2:=(map_sq u).resolve_left h
  refine⟨swx u*(cz*(u*u)),(gsq (swx u*(cz*(u*u)))).1,gsq_sq h2,?_,?_⟩
  ·rw[mapo,opq_eq,swm,if_neg h]
  ·rw[mapo,opq_eq,e2,e1,swm,if_neg h]
theorem mapo_on (u:F2):OnP tb (mapo u):=by
 obtain⟨x,y,h,e,_⟩:=mapo_form u
 rw[e]
 exact acro_on (by rw[fixy_sq,h])
noncomputable def eqv (a b:V2):Bool:=evP2.isz (vsub a b)
theorem eqv_ok {a b:V2} (h:eqv a b=true):q2 a=q2 b:=by
 have h1:q2 (vsub a b)=0:=(evP2.isz_φ _).1 h
 rw[q2_sub] at h1
 exact eq_of_sub h1
theorem q2_one:q2 (1,0)=1:=rfl
end Go.Proofs.YtbeeaekepmnfhaaGreatDoor.h2c
namespace Go.Proofs.YtbeeaekepmnfhaaGreatDoor.xmd
open Go Go.Eng Go.RowKit Cr sha
noncomputable def nmb (E:List Int) (i:Nat):F2:=(zm (num ((E.drop (128*i)).take 64)),zm (num ((E.drop (128*i+64)).take 64)))
noncomputable def nums (m t:List Int) (n:Nat):List F2:=opq ((List.range n).map (nmb (expo m t (128*(n:Int)))))
theorem nums_len (m t:List Int) (n:Nat):(nums m t n).length=n:=by rw[nums,opq_eq,List.length_map,List.length_range]
theorem nums_two (m t:List Int):nums m t 2=[nmb (expo m t 256) 0,nmb (expo m t 256) 1]:=by rw[nums,opq_eq];rfl
end Go.Proofs.YtbeeaekepmnfhaaGreatDoor.xmd
