import Derived.Test.YtbeeaekepmnfhaaGreatDoorML24oPAB
set_option maxRecDepth 100000
namespace Cr
noncomputable section
open Rg Fd Go.Eng
theorem aga {F:Type} [Rg F] (x t d a b:F):x*t*(x*t)*(x*t)+a*(x*t)+b-t*t*t*(x*x*x+a*x+b)=(t-t*t*t)*(a*x - -b*(1+d))+(b*(1-t))*(1-d*(t*t+t)) :=
 aL [x,t,d,a,b] ((fun (x t d a b:PE)=>(x*t*(x*t)*(x*t)+a*(x*t)+b-t*t*t*(x*x*x+a*x+b))) (.v 0) (.v 1) (.v 2) (.v 3) (.v 4)) ((fun (x t d a b:PE)=>((t-t*t*t)*(a*x - -b*(1+d))+(b*(1-t))*(1-d*(t*t+t)))) (.v 0) (.v 1) (.v 2) (.v 3) (.v 4)) (by kernel_rfl)
theorem agb {F:Type} [Rg F] (b i d a:F):a*(-b*i*(1+d))=-b*(1+d)*(a*i) :=
 aL [b,i,d,a] ((fun (b i d a:PE)=>(a*(-b*i*(1+d)))) (.v 0) (.v 1) (.v 2) (.v 3)) ((fun (b i d a:PE)=>(-b*(1+d)*(a*i))) (.v 0) (.v 1) (.v 2) (.v 3)) (by kernel_rfl)
theorem agc {F:Type} [Rg F] (z u g:F):z*(u*u)*(z*(u*u))*(z*(u*u))*g=z*u*u*u*(z*u*u*u)*(z*g) :=
 aL [z,u,g] ((fun (z u g:PE)=>(z*(u*u)*(z*(u*u))*(z*(u*u))*g)) (.v 0) (.v 1) (.v 2)) ((fun (z u g:PE)=>(z*u*u*u*(z*u*u*u)*(z*g))) (.v 0) (.v 1) (.v 2)) (by kernel_rfl)
theorem agd {F:Type} [Rg F] (a y:F):a*a*(y*y)=a*y*(a*y) :=
 aL [a,y] ((fun (a y:PE)=>(a*a*(y*y))) (.v 0) (.v 1)) ((fun (a y:PE)=>(a*y*(a*y))) (.v 0) (.v 1)) (by kernel_rfl)
theorem aeM {F:Type} [Rg F] (s t x c d:F):s*x+c+(t*x+d)=(s+t)*x+(c+d) :=
 aL [s,t,x,c,d] ((fun (s t x c d:PE)=>(s*x+c+(t*x+d))) (.v 0) (.v 1) (.v 2) (.v 3) (.v 4)) ((fun (s t x c d:PE)=>((s+t)*x+(c+d))) (.v 0) (.v 1) (.v 2) (.v 3) (.v 4)) (by kernel_rfl)
theorem aeN {F:Type} [Rg F] (s x c k:F):k*(s*x+c)=k*s*x+k*c :=
 aL [s,x,c,k] ((fun (s x c k:PE)=>(k*(s*x+c))) (.v 0) (.v 1) (.v 2) (.v 3)) ((fun (s x c k:PE)=>(k*s*x+k*c)) (.v 0) (.v 1) (.v 2) (.v 3)) (by kernel_rfl)
theorem aeO {F:Type} [Rg F] (s h x c g:F):c*g+(s*g*x+0)=(s*x+c)*g :=
 aL [s,h,x,c,g] ((fun (s h x c g:PE)=>(c*g+(s*g*x+0))) (.v 0) (.v 1) (.v 2) (.v 3) (.v 4)) ((fun (s h x c g:PE)=>((s*x+c)*g)) (.v 0) (.v 1) (.v 2) (.v 3) (.v 4)) (by kernel_rfl)
theorem afe {F:Type} [Rg F] (y h u i g:F):y*h*u*i*(y*h*u*i)=y*y*(h*h)*(u*u)*(i*i) :=
 aL [y,h,u,i,g] ((fun (y h u i g:PE)=>(y*h*u*i*(y*h*u*i))) (.v 0) (.v 1) (.v 2) (.v 3) (.v 4)) ((fun (y h u i g:PE)=>(y*y*(h*h)*(u*u)*(i*i))) (.v 0) (.v 1) (.v 2) (.v 3) (.v 4)) (by kernel_rfl)
theorem aff {F:Type} [Rg F] (g h u b i:F):g*(h*h)*(u*u)*(i*i)*(u*b*i)=g*(h*h)*(u*u*u)*(b*(i*i*i)) :=
 aL [g,h,u,b,i] ((fun (g h u b i:PE)=>(g*(h*h)*(u*u)*(i*i)*(u*b*i))) (.v 0) (.v 1) (.v 2) (.v 3) (.v 4)) ((fun (g h u b i:PE)=>(g*(h*h)*(u*u*u)*(b*(i*i*i)))) (.v 0) (.v 1) (.v 2) (.v 3) (.v 4)) (by kernel_rfl)
theorem afg {F:Type} [Rg F] (w u b i t:F):b*b*(w*w*w+t*(u*u*u))*(b*(i*i*i))=w*b*i*(w*b*i)*(w*b*i)+t*(u*b*i*(u*b*i)*(u*b*i)) :=
 aL [w,u,b,i,t] ((fun (w u b i t:PE)=>(b*b*(w*w*w+t*(u*u*u))*(b*(i*i*i)))) (.v 0) (.v 1) (.v 2) (.v 3) (.v 4)) ((fun (w u b i t:PE)=>(w*b*i*(w*b*i)*(w*b*i)+t*(u*b*i*(u*b*i)*(u*b*i)))) (.v 0) (.v 1) (.v 2) (.v 3) (.v 4)) (by kernel_rfl)
theorem aeK {F:Type} [Rg F] (t i:F):t*i*(t*i)=t*t*(i*i) :=
 aL [t,i] ((fun (t i:PE)=>(t*i*(t*i))) (.v 0) (.v 1)) ((fun (t i:PE)=>(t*t*(i*i))) (.v 0) (.v 1)) (by kernel_rfl)
def hv (x:F2) (l:List F2):F2:=l.foldr (fun c s=>s*x+c) 0
def hq (x:F2) (l:List V2):F2:=hv x (l.map q2)
theorem Cc (x:F2):hq x []=0:=rfl
theorem Kl (x:F2) (c:V2) (l:List V2):hq x (c::l)=hq x l*x+q2 c:=rfl
def Ht:List V2->List V2->List V2
 | [],b=>b
 | x::a,[]=>x::a
 | x::a,y::b=>fk x y::Ht a b
theorem GC (x:F2):∀ a b,hq x (Ht a b)=hq x a+hq x b
 | [],b=>by show hq x b=_;rw[Cc,zero_add]
 | c::a,[]=>by show hq x (c::a)=_;rw[Cc,add_zero]
 | c::a,d::b=>by
  show hq x (Ht a b)*x+q2 (fk c d)=(hq x a*x+q2 c)+(hq x b*x+q2 d)
  rw[GC x a b,qG];exact (aeM _ _ _ _ _).symm
theorem GD (x:F2) (c:V2):∀ b:List V2,hq x (b.map (aS c))=q2 c*hq x b
 | []=>by show (0:F2)=_;rw[Cc,mul_zero]
 | d::b=>by
  show hq x (b.map (aS c))*x+q2 (aS c d)=q2 c*(hq x b*x+q2 d)
  rw[GD x c b,km];exact (aeN _ _ _ _).symm
def lE:List V2->List V2->List V2
 | [],_=>[]
 | c::a,b=>Ht (b.map (aS c)) ((0,0)::lE a b)
theorem OS (x:F2):∀ a b,hq x (lE a b)=hq x a*hq x b
 | [],b=>by show (0:F2)=_;rw[Cc,zero_mul]
 | c::a,b=>by
  show hq x (Ht (b.map (aS c)) ((0,0)::lE a b))=(hq x a*x+q2 c)*hq x b
  rw[GC,GD,Kl,OS x a b,D9];exact aeO _ 0 _ _ _
def uX {α:Type}:List V2->(List V2->α)->α
 | [],k=>k []
 | x::l,k=>cT x fun x=>uX l fun l=>k (x::l)
theorem Ol {α:Type}:∀ (l:List V2) (k:List V2->α),uX l k=k l
 | [],k=>rfl
 | x::l,k=>by rw[uX,lM,Ol l]
def XG (l:List V2):Bool:=l.all fun c=>cJ.isz c
theorem NM (x:F2):∀ l:List V2,XG l=true->hq x l=0
 | [],_=>rfl
 | c::l,h=>by
  have h:(cJ.isz c&&XG l)=true:=h
  rw[Bool.and_eq_true] at h
  have h1:q2 c=0:=(cJ.isz_φ c).1 h.1
  rw[Kl,NM x l h.2,h1,zero_mul,add_zero]
def cU:List V2:=[(0,4002409555221667393417789825735904156556882819939007885332058136124031650490837864442687629129015664037894272559715),(12,4002409555221667393417789825735904156556882819939007885332058136124031650490837864442687629129015664037894272559775),(1,0)]
def cB:List V2:=[(4002409555221667393417789825735904156556882819939007885332058136124031650490837864442687629129015664037894272559355,4002409555221667393417789825735904156556882819939007885332058136124031650490837864442687629129015664037894272559355),(0,4002409555221667393417789825735904156556882819939007885332058136124031650490837864442687629129015664037894272559571),(18,4002409555221667393417789825735904156556882819939007885332058136124031650490837864442687629129015664037894272559769),(1,0)]
def cW:List V2:=[(889424345604814976315064405719089812568196182208668418962679585805340366775741747653930584250892369786198727235542,889424345604814976315064405719089812568196182208668418962679585805340366775741747653930584250892369786198727235542),(0,2668273036814444928945193217157269437704588546626005256888038757416021100327225242961791752752677109358596181706522),(2668273036814444928945193217157269437704588546626005256888038757416021100327225242961791752752677109358596181706526,1334136518407222464472596608578634718852294273313002628444019378708010550163612621480895876376338554679298090853261),(3557697382419259905260257622876359250272784728834673675850718343221361467102966990615722337003569479144794908942033,0)]
def cH:List V2:=[(3261222600550988246488569487636662646083386001431784202863158481286248011511053074731078808919938689216061999863558,3261222600550988246488569487636662646083386001431784202863158481286248011511053074731078808919938689216061999863558),(0,889424345604814976315064405719089812568196182208668418962679585805340366775741747653930584250892369786198727235518),(2668273036814444928945193217157269437704588546626005256888038757416021100327225242961791752752677109358596181706524,1334136518407222464472596608578634718852294273313002628444019378708010550163612621480895876376338554679298090853263),(2816510427748580758331037284777117739799287910327449993381818688383577828123182200904113516794492504322962636245776,0)]
def cG:List V2:=[(1012,1012),(0,240),(0,0),(1,0)]
def isc:Bool:=uX (lE cH cH) fun HH=>uX (lE cU cU) fun UU=>uX (lE UU cU) fun UUU=>uX (lE cG HH) fun GHH=>uX (lE GHH UUU) fun L =>
 uX (lE cB cB) fun BB=>uX (lE cW cW) fun WW=>uX (lE WW cW) fun WWW=>uX (Ht WWW (UUU.map (aS (4,4)))) fun S=>uX (lE BB S) fun R=>XG (Ht L (R.map (aS (4002409555221667393417789825735904156556882819939007885332058136124031650490837864442687629129015664037894272559786,0))))
theorem ZD:isc=true:=by kernel_rfl
theorem acO:q2 (4002409555221667393417789825735904156556882819939007885332058136124031650490837864442687629129015664037894272559786,0)=-1:=by
 rw[F2.neg_def];exact F2.ext (Zm.ext (Odt (by kernel_rfl))) (Zm.ext (Odt (by kernel_rfl)))
theorem iso (x:F2):hq x cG*(hq x cH*hq x cH)*(hq x cU*hq x cU*hq x cU)=hq x cB*hq x cB*(hq x cW*hq x cW*hq x cW+tb*(hq x cU*hq x cU*hq x cU)):=by
 have h:=ZD
 unfold isc at h
 simp only[Ol] at h
 have h1:=NM x _ h
 simp only[GC,GD,OS,acO] at h1
 rw[neg_mul,one_mul,<- Rg.sub_def] at h1
 exact bq h1
theorem ZE {x y i:F2} (hy:y*y=hq x cG) (hi:hq x cU*hq x cB*i=1):cY tb (hq x cW*hq x cB*i,y*hq x cH*hq x cU*i):=by
 show y*hq x cH*hq x cU*i*(y*hq x cH*hq x cU*i)=hq x cW*hq x cB*i*(hq x cW*hq x cB*i)*(hq x cW*hq x cB*i)+tb
 have h:=iso x
 have e:=afg (hq x cW) (hq x cU) (hq x cB) i tb
 rw[hi,mul_one,mul_one,mul_one,<- h,<- aff,hi,mul_one] at e
 rw[afe _ _ _ _ 0,hy];exact e
def ca:F2:=q2 (0,240)
def cb:F2:=q2 (1012,1012)
def cz:F2:=q2 (4002409555221667393417789825735904156556882819939007885332058136124031650490837864442687629129015664037894272559785,4002409555221667393417789825735904156556882819939007885332058136124031650490837864442687629129015664037894272559786)
theorem hG (x:F2):hq x cG=x*x*x+ca*x+cb:=by
 show (((0*x+q2 (1,0))*x+q2 (0,0))*x+q2 (0,240))*x+q2 (1012,1012)=_
 have h1:q2 (1,0)=1:=rfl
 rw[h1,D9,zero_mul,zero_add,one_mul,add_zero,add_mul];rfl
theorem Tq:ca≠0:=fun h=>absurd (congrArg Prod.snd h) (by decide)
theorem agh {x t d:F2} (hd:d*(t*t+t)=1) (hx:x=-cb*inv ca*(1+d)):hq (x*t) cG=t*t*t*hq x cG:=by
 have h1:ca*x=-cb*(1+d):=by rw[hx,agb,mul_inv ca Tq,mul_one]
 rw[hG,hG]
 exact Ap _ _ (aga x t d ca cb) h1 hd.symm
theorem sqm (a:Fp):∃ s:Fp,s*s=a\/s*s=-a:=by
 by_cases ha:a=0
 ·exact⟨0,.inl (by rw[ha,mul_zero])⟩
 obtain⟨m,hm⟩:∃ m,m=(bM-1)/2:=⟨_,rfl⟩
 obtain⟨k,hk⟩:∃ k,k=(bM+1)/4:=⟨_,rfl⟩
 have h1:bM-1=m+m:=by rw[hm];exact Odt (by kernel_rfl)
 have h2:k+k=m+1:=by rw[hm,hk];exact Odt (by kernel_rfl)
 have hf:=tA ha
 rw[h1,ud] at hf
 have hs:zpow a k*zpow a k=zpow a m*a:=by rw[<- ud,h2];rfl
 have h3:zpow a m*zpow a m=1*1:=by rw[hf,one_mul]
 refine⟨zpow a k,?_⟩
 rw[hs]
 rcases CQ h3 with e|e
 ·rw[e,one_mul];exact .inl rfl
 ·rw[e,neg_mul,one_mul];exact .inr rfl
theorem UC {x:F2} {n:Fp} (h:lD x=n*n):∃ y:F2,y*y=x:=by
 by_cases hb:x.2=0
 ·obtain⟨s,hs⟩:=sqm x.1
  rcases hs with hs|hs
  ·refine⟨(s,0),?_⟩
   rw[F2.mul_def]
   refine F2.ext ?_ ?_
   ·show s*s-0*0=x.1
    rw[hs,mul_zero,ql]
   ·show s*0+0*s=x.2
    rw[mul_zero,zero_mul,add_zero,hb]
  ·refine⟨(0,s),?_⟩
   rw[F2.mul_def]
   refine F2.ext ?_ ?_
   ·show 0*0-s*s=x.1
    rw[hs,mul_zero,Rg.sub_def,neg_neg,zero_add]
   ·show 0*s+s*0=x.2
    rw[mul_zero,zero_mul,add_zero,hb]
 ·have hn:n*n=x.1*x.1+x.2*x.2:=h.symm
  have key:∀ s t:Fp,(s=x.1+n\/s=x.1-n)->t*t=s+s->∃ y:F2,y*y=x:=fun s t hs ht=>by
   have k:=Oi hb hn hs ht (i:=inv t) (fun h=>mul_inv t h)
   refine⟨(s*inv t,x.2*inv t),?_⟩
   refine F2.ext ?_ ?_
   ·rw[F2.mC];exact k.1
   ·rw[F2.gK];exact k.2
  obtain⟨s,hs⟩:=sqm (x.1+n+(x.1+n))
  rcases hs with hs|hs
  ·exact key _ s (.inl rfl) hs
  ·by_cases hs0:s=0
   ·rw[hs0,mul_zero] at hs
    have e:x.1+n+(x.1+n)=0:=by rw[<- neg_neg (x.1+n+(x.1+n)),<- hs];exact neg_zero
    exact key _ 0 (.inl rfl) (by rw[mul_zero,e])
   ·-- 2 (a+n) times 2 (a-n) is-(2 b)^2
    have e1:(x.1+n+(x.1+n))*(x.1-n+(x.1-n))=-((x.2+x.2)*(x.2+x.2)):=by
     have q:=q_4 x.1 n
     have e2:(x.1+n+(x.1+n))*(x.1-n+(x.1-n))=(x.1+n)*(x.1-n)+(x.1+n)*(x.1-n)+((x.1+n)*(x.1-n)+(x.1+n)*(x.1-n)):=by
      rw[add_mul,mul_add]
     rw[e2,q,hn]
     have e3:x.1*x.1-(x.1*x.1+x.2*x.2)=-(x.2*x.2):=by
      rw[Rg.sub_def,jN,<- add_assoc,add_neg,zero_add]
     rw[e3,<- jN,<- jN,add_mul,mul_add]
    have e4:x.1+n+(x.1+n)=-(s*s):=by rw[hs,neg_neg]
    rw[e4,neg_mul] at e1
    have e5:s*s*(x.1-n+(x.1-n))=(x.2+x.2)*(x.2+x.2):=by
     rw[<- neg_neg (s*s*_),e1,neg_neg]
    refine key _ ((x.2+x.2)*inv s) (.inr rfl) ?_
    rw[aeK,<- e5]
    have e6:s*s*(x.1-n+(x.1-n))*(inv s*inv s)=(s*inv s)*(s*inv s)*(x.1-n+(x.1-n)):=by ac_rfl
    rw[e6,mul_inv s hs0,one_mul,one_mul]
def wN:Int:=3754115229487400743760384662840082984744650971178826659753975400945528899667118516813924993650507119217982417812692
theorem abF:(zm wN:Fp)*zm wN=-lD cz:=by
 unfold lD cz
 exact Zm.ext (Odt (by kernel_rfl))
theorem af6 {g:F2} (h:∀ y:F2,y*y≠g):∃ y:F2,y*y=cz*g:=by
 obtain⟨s,hs⟩:=sqm (lD g)
 rcases hs with hs|hs
 ·obtain⟨y,hy⟩:=UC (x:=g) (n:=s) hs.symm
  exact absurd hy (h y)
 ·refine UC (n:=zm wN*s) ?_
  have e:(zm wN*s)*(zm wN*s)=(zm wN*zm wN)*(s*s):=by ac_rfl
  rw[rA,e,abF,hs,neg_mul,mul_neg,neg_neg]
theorem abf {u t d x:F2} (ht:t=cz*(u*u)) (hd:d*(t*t+t)=1) (hx:x=-cb*inv ca*(1+d)) (h:∀ y:F2,y*y≠hq x cG):∃ y:F2,y*y=hq (x*t) cG:=by
 obtain⟨y,hy⟩:=af6 h
 refine⟨cz*u*u*u*y,?_⟩
 rw[agh hd hx,ht,agc,<- hy]
 exact (agd _ _).symm
def s0:V2:=(391013756818087021228608844186469378708965029305944648629640836944759185027123020480318340657013194950516187264795,3578796461873081174841411974298466426866052387096285028890861355461367155938811896227938614244375769879856986283402)
theorem age:cJ.isz (fF (aS (aS s0 s0) (aS (aS (aS (4002409555221667393417789825735904156556882819939007885332058136124031650490837864442687629129015664037894272559785,4002409555221667393417789825735904156556882819939007885332058136124031650490837864442687629129015664037894272559786) (0,240)) (aS (4002409555221667393417789825735904156556882819939007885332058136124031650490837864442687629129015664037894272559785,4002409555221667393417789825735904156556882819939007885332058136124031650490837864442687629129015664037894272559786) (0,240))) (aS (4002409555221667393417789825735904156556882819939007885332058136124031650490837864442687629129015664037894272559785,4002409555221667393417789825735904156556882819939007885332058136124031650490837864442687629129015664037894272559786) (0,240)))) (fk (fk (aS (aS (1012,1012) (1012,1012)) (1012,1012)) (aS (aS (0,240) (1012,1012)) (aS (aS (4002409555221667393417789825735904156556882819939007885332058136124031650490837864442687629129015664037894272559785,4002409555221667393417789825735904156556882819939007885332058136124031650490837864442687629129015664037894272559786) (0,240)) (aS (4002409555221667393417789825735904156556882819939007885332058136124031650490837864442687629129015664037894272559785,4002409555221667393417789825735904156556882819939007885332058136124031650490837864442687629129015664037894272559786) (0,240))))) (aS (1012,1012) (aS (aS (aS (4002409555221667393417789825735904156556882819939007885332058136124031650490837864442687629129015664037894272559785,4002409555221667393417789825735904156556882819939007885332058136124031650490837864442687629129015664037894272559786) (0,240)) (aS (4002409555221667393417789825735904156556882819939007885332058136124031650490837864442687629129015664037894272559785,4002409555221667393417789825735904156556882819939007885332058136124031650490837864442687629129015664037894272559786) (0,240))) (aS (4002409555221667393417789825735904156556882819939007885332058136124031650490837864442687629129015664037894272559785,4002409555221667393417789825735904156556882819939007885332058136124031650490837864442687629129015664037894272559786) (0,240))))))=true:=by kernel_rfl
theorem abE:cz≠0:=fun h=>absurd (congrArg Prod.snd h) (by decide)
theorem af9:∃ y:F2,y*y=hq (cb*inv (cz*ca)) cG:=by
 have h1:=(cJ.isz_φ _).1 age
 have h2:q2 (fF (aS (aS s0 s0) (aS (aS (aS (4002409555221667393417789825735904156556882819939007885332058136124031650490837864442687629129015664037894272559785,4002409555221667393417789825735904156556882819939007885332058136124031650490837864442687629129015664037894272559786) (0,240)) (aS (4002409555221667393417789825735904156556882819939007885332058136124031650490837864442687629129015664037894272559785,4002409555221667393417789825735904156556882819939007885332058136124031650490837864442687629129015664037894272559786) (0,240))) (aS (4002409555221667393417789825735904156556882819939007885332058136124031650490837864442687629129015664037894272559785,4002409555221667393417789825735904156556882819939007885332058136124031650490837864442687629129015664037894272559786) (0,240)))) (fk (fk (aS (aS (1012,1012) (1012,1012)) (1012,1012)) (aS (aS (0,240) (1012,1012)) (aS (aS (4002409555221667393417789825735904156556882819939007885332058136124031650490837864442687629129015664037894272559785,4002409555221667393417789825735904156556882819939007885332058136124031650490837864442687629129015664037894272559786) (0,240)) (aS (4002409555221667393417789825735904156556882819939007885332058136124031650490837864442687629129015664037894272559785,4002409555221667393417789825735904156556882819939007885332058136124031650490837864442687629129015664037894272559786) (0,240))))) (aS (1012,1012) (aS (aS (aS (4002409555221667393417789825735904156556882819939007885332058136124031650490837864442687629129015664037894272559785,4002409555221667393417789825735904156556882819939007885332058136124031650490837864442687629129015664037894272559786) (0,240)) (aS (4002409555221667393417789825735904156556882819939007885332058136124031650490837864442687629129015664037894272559785,4002409555221667393417789825735904156556882819939007885332058136124031650490837864442687629129015664037894272559786) (0,240))) (aS (4002409555221667393417789825735904156556882819939007885332058136124031650490837864442687629129015664037894272559785,4002409555221667393417789825735904156556882819939007885332058136124031650490837864442687629129015664037894272559786) (0,240))))))=0:=h1
 simp only[mJ,qG,km] at h2
 have h3:q2 s0*q2 s0*(cz*ca*(cz*ca)*(cz*ca))=cb*cb*cb+ca*cb*(cz*ca*(cz*ca))+cb*(cz*ca*(cz*ca)*(cz*ca)):=bq h2
 have hne:cz*ca≠0:=dG abE Tq
 obtain⟨D,hD⟩:∃ D,D=cz*ca:=⟨_,rfl⟩
 rw[<- hD] at h3 hne
 refine⟨q2 s0,?_⟩
 rw[<- hD,hG]
 refine mul_left (dG (dG hne hne) hne) ?_
 have e:D*D*D*(cb*inv D*(cb*inv D)*(cb*inv D)+ca*(cb*inv D)+cb)=(D*inv D)*(D*inv D)*(D*inv D)*(cb*cb*cb)+(D*inv D)*(ca*cb*(D*D))+cb*(D*D*D):=by
  rw[mul_add,mul_add]
  congr 1
  ·congr 1
   ·ac_rfl
   ·ac_rfl
  ·ac_rfl
 rw[e,mul_inv D hne,one_mul,one_mul,one_mul,one_mul,<- h3]
 ac_rfl
end
end Cr
namespace Go.Proofs.YtbeeaekepmnfhaaGreatDoor.fp
open Go Go.Eng Go.RowKit Cr
theorem AU:enters Tryz.prog 153 Tryz.f153:=ek
noncomputable def mw (g:List Int × Fp):St:=aY Tryz.f153.ntmps 40 [(0,.is (.one (.ro (.int .u8) g.1))),(2,.is (.one (.ptr 0 0))),(3,.is (.one (.ptr 8 0))),(4,.is (.one (.ptr 24 0)))] [(0,[.row .fp 1 [(0:Fp)]]),(8,[.row .fp 1 [g.2]]),(24,[.row .fp 1 [(R2:Fp)]])]
def wn (len:Int):Int:=IntKind.i64.wrap ((IntKind.i64.wrap (len-1)).tmod 48+1)
def ld (bs:List Int):List Int:=List.take (wn bs.length-0).toNat (List.drop (Int.toNat 0) bs)
def rl (g:List Int × Fp):List Int × Fp:=(List.take ((g.1.length:Int)-wn g.1.length).toNat (List.drop (wn g.1.length).toNat g.1),g.2*R2+dec (aK 6 (val (enc (R2:Fp))*val (aK 6 (num (ld g.1)))*rinv%M)))
def wp (len k:Nat):Nat:=len-48*((len+47)/48-k)
def dp (bs:List Int) (k:Nat):List Int × Fp:=(bs.drop (wp bs.length k),zm (num (bs.take (wp bs.length k))))
theorem C0 {L:Nat} (h0:0<L) (h1:L<4611686018427387904):wn L=(((L-1)%48+1:Nat):Int):=by
 unfold wn
 rw[aG (a:=(L:Int)-1) (by omega) (by omega),Int.tmod_eq_emod_of_nonneg (by omega),aG (by omega) (by omega)]
 omega
theorem l9 {bs:List Int} (hb:Bs bs) (hl:bs.length<4611686018427387904) {k:Nat} (hk:k<(bs.length+47)/48) :
  0<bs.length-wp bs.length k/\rl (dp bs k)=dp bs (k+1)/\(ld (bs.drop (wp bs.length k))).length<=48/\1<=(bs.length-wp bs.length k-1)%48+1/\(bs.length-wp bs.length k-1)%48+1<=bs.length-wp bs.length k:=by
 have hL:0<bs.length-wp bs.length k:=by unfold wp;omega
 have hn:(bs.length-wp bs.length k-1)%48+1=wp bs.length (k+1)-wp bs.length k:=by unfold wp;omega
 have hle:wp bs.length (k+1)<=bs.length:=by unfold wp;omega
 have hlt:wp bs.length k<wp bs.length (k+1):=by unfold wp;omega
 have hlen:(bs.drop (wp bs.length k)).length=bs.length-wp bs.length k:=List.length_drop
 have hwn:wn (bs.drop (wp bs.length k)).length=((wp bs.length (k+1)-wp bs.length k:Nat):Int):=by
  rw[C0 (by omega) (by omega),hlen,hn]
 have hch:ld (bs.drop (wp bs.length k))=(bs.drop (wp bs.length k)).take (wp bs.length (k+1)-wp bs.length k):=by
  unfold ld
  rw[hwn]
  congr 1
 refine⟨hL,?_,?_,by omega,by omega⟩
 ·unfold rl dp
  simp only
  rw[hwn,hch]
  have e1:List.take (((bs.drop (wp bs.length k)).length:Int)-((wp bs.length (k+1)-wp bs.length k:Nat):Int)).toNat (List.drop ((wp bs.length (k+1)-wp bs.length k:Nat):Int).toNat (bs.drop (wp bs.length k)))=bs.drop (wp bs.length (k+1)):=by
   rw[Int.toNat_natCast,List.drop_drop,show wp bs.length k+(wp bs.length (k+1)-wp bs.length k)=wp bs.length (k+1) by omega]
   exact List.take_of_length_le (by simp;omega)
  rw[e1]
  congr 1
  have hcb:Bs ((bs.drop (wp bs.length k)).take (wp bs.length (k+1)-wp bs.length k)):=uy (rq hb _) _
  have hcl:((bs.drop (wp bs.length k)).take (wp bs.length (k+1)-wp bs.length k)).length=wp bs.length (k+1)-wp bs.length k:=by simp;omega
  have hc48:wp bs.length (k+1)-wp bs.length k<=48:=by omega
  have hnb:=sn hcb
  rw[hcl] at hnb
  have hpl:a9 (wp bs.length (k+1)-wp bs.length k)<=pw 6:=by
   rw[<- qE,show 8*6=(wp bs.length (k+1)-wp bs.length k)+(48-(wp bs.length (k+1)-wp bs.length k)) by omega,nd]
   have h1:=gw (wp bs.length (k+1)-wp bs.length k)
   have h2:=gw (48-(wp bs.length (k+1)-wp bs.length k))
   have:=Int.mul_le_mul_of_nonneg_left (show 1<=a9 (48-(wp bs.length (k+1)-wp bs.length k)) by omega) (Int.le_of_lt h1)
   omega
  rw[show aK 6 (val (enc (R2:Fp))*val (aK 6 (num ((bs.drop (wp bs.length k)).take (wp bs.length (k+1)-wp bs.length k))))*rinv%M)=enc (zm (val (aK 6 (num ((bs.drop (wp bs.length k)).take (wp bs.length (k+1)-wp bs.length k))))):Fp) from l5 (M:=Mp),o5 hnb.1 (by omega),dt]
  show zm _*zm (pw 6)+zm _=zm _
  rw[mN,o7]
  congr 1
  have hsplit:bs.take (wp bs.length (k+1))=bs.take (wp bs.length k)++(bs.drop (wp bs.length k)).take (wp bs.length (k+1)-wp bs.length k):=by
   rw[<- List.take_add,show wp bs.length k+(wp bs.length (k+1)-wp bs.length k)=wp bs.length (k+1) by omega]
  rw[hsplit,wo,hcl]
  by_cases h0:wp bs.length k=0
  ·rw[h0];simp[num]
  ·rw[show wp bs.length (k+1)-wp bs.length k=48 by unfold wp at h0 ⊢;omega,<- qE]
 ·rw[hch];simp;omega
abbrev mo:HL [.sl (.int .u8)]->Prop:=fun (bs,_)=>Bs bs/\List.length bs<4611686018427387904
abbrev pM:HL [.sl (.int .u8)]->HO [.val .fp]:=fun (bs,_)=>((zm (num bs):Fp),())
theorem DC:aB Tryz.prog 153 [.sl (.int .u8)] [.val .fp] aM mo pM:=by
 have hsp:aN Tryz.prog (aF [rI,cK,cv,iQ,fy]):=ai (ak vY) (ai (ak cL) (ai (ak cC) (ai (ak iS) (ai (ak eF) aR))))
 refine bh (sp:=aF [rI,cK,cv,iQ,fy]) AU (by decide) (by decide) (by kernel_rfl) ?_
 rintro w M0 ⟨bs,⟨⟩⟩ _ ⟨hb,hl⟩
 have hb:Bs bs:=hb
 have hl:bs.length<4611686018427387904:=hl
 show Tr _ _ _ _ _ _ _
 refine aP hsp mixed 3 (mw (bs,0)) True ?_ (fun _=>?_)
 ·refine ao (X:=True/\(mw (bs,0)).ah True) (by kernel_rfl) ⟨trivial,aA trivial⟩
 have e0:(bs,(0:Fp))=dp bs 0:=by
  unfold dp
  rw[show wp bs.length 0=0 by unfold wp;omega]
  rfl
 rw[e0]
 refine dB hsp mixed mw (dp bs) ((bs.length+47)/48) rl mw (c:=aI (aJ Tryz.f153) 3) (by kernel_rfl) (by kernel_rfl) (aC (by kernel_rfl) (by kernel_rfl) trivial)
  (fun k hk=>(l9 hb hl hk).2.1) ?_ ?_
 ·intro k hk
  have hlen:(dp bs k).1.length=bs.length-wp bs.length k:=by unfold dp;simp
  have hbs:Bs (dp bs k).1:=rq hb _
  have hnx:k<(bs.length+47)/48->(ld (dp bs k).1).length<=48:=fun h=>(l9 hb hl h).2.2.1
  have hb1:k<(bs.length+47)/48->1<=((dp bs k).1.length-1)%48+1/\((dp bs k).1.length-1)%48+1<=(dp bs k).1.length:=fun h=>by rw[hlen];exact (l9 hb hl h).2.2.2
  have hiff:k<(bs.length+47)/48↔0<(dp bs k).1.length:=by rw[hlen];unfold wp;omega
  have hll:(dp bs k).1.length<4611686018427387904:=by omega
  clear hlen
  generalize dp bs k=g at *
  obtain⟨cs,x⟩:=g
  simp only at hbs hnx hb1 hiff hll
  refine ao (X:=((decide ((cs.length:Int)>0)=true->(48:Int)≠0/\True/\(0<=wn cs.length/\wn cs.length<=(cs.length:Int))/\lW (ld cs,())/\bX (enc (R2:Fp),aK 6 (num (ld cs)),())/\Canon Mp (aK 6 (val (enc (R2:Fp))*val (aK 6 (num (ld cs)))*rinv%M))/\True/\(0<=wn cs.length/\wn cs.length<=(cs.length:Int))/\(mw (rl (cs,x))).ah (k<(bs.length+47)/48)) /\
   (decide ((cs.length:Int)>0)=false->(mw (cs,x)).ah (k=(bs.length+47)/48)))) (by kernel_rfl) ?_
  refine⟨fun h=>?_,fun h=>aA ?_⟩
  ·have h0:0<cs.length:=by have:=Odt h;omega
   have hk':=hiff.2 h0
   have h1:=hb1 hk'
   have hw:=C0 h0 hll
   have hch:Bs (ld cs):=by unfold ld;exact uy (rq hbs _) _
   refine⟨by decide,trivial,by rw[hw];omega,⟨hch,hnx hk'⟩,⟨ef _,iB _ _,(b7 _).2.2⟩,?_,trivial,by rw[hw];omega,aA hk'⟩
   rw[show aK 6 (val (enc (R2:Fp))*val (aK 6 (num (ld cs)))*rinv%M)=enc (zm (val (aK 6 (num (ld cs)))):Fp) from l5 (M:=Mp)]
   exact b7 _
  ·have:=Odf h
   omega
 refine bf hsp mixed _ _ ?_
 refine ao (X:=((dp bs ((bs.length+47)/48)).2,())=pM (bs,())) (by kernel_rfl) ?_
 unfold dp
 rw[show wp bs.length ((bs.length+47)/48)=bs.length by unfold wp;omega,List.take_length]
noncomputable def yS:Nat × Eng.Spec:=(153,ar [.sl (.int .u8)] [.val .fp] mo pM)
end Go.Proofs.YtbeeaekepmnfhaaGreatDoor.fp
open Go.IntKind(i64 u64)
namespace Go.Proofs.YtbeeaekepmnfhaaGreatDoor.h2c
open Go Go.Eng Go.RowKit Cr fp2
abbrev iK:Kd:=.int .i64
abbrev ba:Kd:=.pair f2 f2
def gC (n:Int):Prop:=-1000000<=n/\n<=1000000
theorem Vs:enters Tryz.prog 193 Tryz.f193:=ek
theorem YW:aB Tryz.prog 193 [iK] [.val .fp] aM (fun (n,_)=>gC n) (fun (n,_)=>((aj n:Fp),())):=by
 refine ax (sp:=aF [fp.ly,fp.jb]) (ai (ak fp.nL) (ai (ak fp.iA) aR)) mixed Vs (by decide) (by decide) ?_
 rintro w M0 ⟨n,⟨⟩⟩
 revert n
 intro (n:Int) _ hp
 have hp : -1000000<=n/\n<=1000000:=hp
 refine ao (X:=((decide (n<0)=true->dF (u64.wrap (i64.wrap (0-n)))/\True/\(-aj (u64.wrap (i64.wrap (0-n))),())=(aj n,()))/\(decide (n<0)=false->dF (u64.wrap n)/\(aj (u64.wrap n),())=(aj n,())))) (by kernel_rfl) ?_
 refine⟨fun h=>?_,fun h=>?_⟩
 ·have h:n<0:=Odt h
  have e1:i64.wrap ((0:Int)-n)=-n:=by rw[aG (by omega) (by omega)];omega
  have e2:u64.wrap (-n)=-n:=by rw[nw (-n)];omega
  rw[e1,e2]
  refine⟨⟨by omega,by omega⟩,trivial,?_⟩
  rw[y7,Int.neg_neg]
 ·have h:¬ n<0:=Odf h
  have e2:u64.wrap n=n:=by rw[nw n];omega
  rw[e2]
  exact⟨⟨by omega,by omega⟩,rfl⟩
noncomputable def ada:Nat × Eng.Spec:=(193,ar [iK] [.val .fp] (fun (n,_)=>gC n) (fun (n,_)=>((aj n:Fp),())))
theorem Vu:enters Tryz.prog 194 Tryz.f194:=ek
abbrev f116:Kd:=.fn 193
theorem OD:aB Tryz.prog 194 [iK,iK,.ptr f116] [.val f2] aM (fun (m,n,_)=>gC m/\gC n) (fun (m,n,_)=>(((aj m,aj n):F2),())):=by
 refine ax (sp:=aF [ada]) (ai (ak YW) aR) mixed Vu (by decide) (by decide) ?_
 rintro w M0 ⟨m,n,c,⟨⟩⟩
 revert m n
 intro (m:Int) (n:Int) _ hp
 have hp:gC m/\gC n:=hp
 refine ao (X:=(0<[c].length/\gC m/\0<[c].length/\gC n/\((aj m,aj n),())=((aj m,aj n),()))) (by kernel_rfl) ?_
 exact⟨Nat.zero_lt_one,hp.1,Nat.zero_lt_one,hp.2,rfl⟩
noncomputable def UB:Nat × Eng.Spec:=(194,ar [iK,iK,.ptr f116] [.val f2] (fun (m,n,_)=>gC m/\gC n) (fun (m,n,_)=>(((aj m,aj n):F2),())))
abbrev Tt:Kd:=.cap (.fn 194) f116
theorem xT:enters Tryz.prog 154 Tryz.f154:=ek
theorem lK:aB Tryz.prog 154 [] [.val Tt] aM (fun _=>True) (fun _=>(((),()),())):=by
 refine ax (sp:=aF []) aR mixed xT (by decide) (by decide) ?_
 rintro w M0 ⟨⟩ _ _
 refine ao (X:=((((),()),())=(((),()),()))) (by kernel_rfl) ?_
 trivial
noncomputable def ln:Nat × Eng.Spec:=(154,ar [] [.val Tt] (fun _=>True) (fun _=>(((),()),())))
end Go.Proofs.YtbeeaekepmnfhaaGreatDoor.h2c
open Go.IntKind(i64 u8)
namespace Go.Proofs.YtbeeaekepmnfhaaGreatDoor.h2c
noncomputable section
open Go Go.Eng Go.RowKit Cr fp2
theorem N8:enters Tryz.prog 197 Tryz.f197:=ek
def Gz (s:ByteArray) (g:Int × List Int):St:=aY Tryz.f197.ntmps 40 [(0,.is (.one (.v (.string s)))),(2,.is (.one (.ptr 0 0))),(3,.is (.one (.ptr 8 0))),(8,.is (.one (.v (.string s)))),(9,sI .i64 s.size),(10,sI .i64 g.1)] [(8,[.ints .u8 48 g.2]),(0,[.row .fp 1 [(0:Fp)]])]
def Zb (s:ByteArray) (k:Nat):Int:=if u8.wrap ((dV s).getD k 0-48)>9 then u8.wrap (u8.wrap ((dV s).getD k 0-97)+10) else u8.wrap ((dV s).getD k 0-48)
def OL (s:ByteArray) (k:Nat) (xs:List Int):List Int:=xs.set (k/2) (av .or .u8 (u8.wrap (xs.getD (k/2) 0*2^min (Int.toNat 4) u8.bits)) (Zb s k))
def vb (s:ByteArray) (k:Nat):List Int:=it (fun k xs=>OL s k xs) (List.replicate 48 0) k
def gr (s:ByteArray):Bool:=decide (s.size<=96)&&(List.take 48 (vb s s.size)).all fun x=>decide (0<=x)&&decide (x<256)
theorem OM {s:ByteArray} (h:gr s=true):s.size<=96/\Bs (List.take 48 (vb s s.size)):=by
 unfold gr at h
 rw[Bool.and_eq_true] at h
 refine⟨Odt h.1,fun x hx=>?_⟩
 have h2:=List.all_eq_true.1 h.2 x hx
 rw[Bool.and_eq_true] at h2
 exact⟨Odt h2.1,Odt h2.2⟩
def eD (s:ByteArray):Fp:=cr (fp.eM (List.take 48 (vb s s.size))).1
theorem RF:aB Tryz.prog 197 [.str] [.val .fp] aM (fun (s,_)=>gr s=true) (fun (s,_)=>(eD s,())):=by
 have hsp:aN Tryz.prog (aF [fp.sW]):=ai (ak fp.u7) aR
 refine bh (sp:=aF [fp.sW]) N8 (by decide) (by decide) (by kernel_rfl) ?_
 rintro w M0 ⟨s,⟨⟩⟩
 revert s
 intro (s:ByteArray) _ hl
 have hg:gr s=true:=hl
 have hl:=(OM hg).1
 show Tr _ _ _ _ _ _ _
 refine aP hsp mixed 3 (Gz s (0,List.replicate 48 0)) True ?_ (fun _=>?_)
 ·refine ao (X:=((Gz s (0,List.replicate 48 0)).ah True)) (by kernel_rfl) ?_
  exact aA trivial
 refine bO hsp mixed dA (fun σ=>(bU (.int .i64) 10 σ,ga (.arr 48 (.int .u8)) 8 σ)) (Gz s) (fun g=>∃ k:Nat,k<=s.size/\g.1=(k:Int)/\g.2=vb s k) (fun g=>s.size-g.1.toNat)
  (fun σ=>(bU (.int .i64) 10 σ,ga (.arr 48 (.int .u8)) 8 σ)) (Gz s) (fun g=>g.2=vb s s.size) (0,List.replicate 48 0) (c:=aI (aJ Tryz.f197) 3) (by kernel_rfl) (by kernel_rfl) (aC (by kernel_rfl) (by kernel_rfl) ?_) ?_ ?_
 ·exact⟨0,Nat.zero_le _,rfl,rfl⟩
 ·rintro⟨i,xs⟩ hj
  revert i xs
  intro (i:Int) (xs:List Int) ⟨k,hk,ei,ex⟩
  have ei:i=(k:Int):=ei
  have ex:xs=vb s k:=ex
  subst ei
  have e2:i64.wrap ((k:Int).tdiv 2)=((k/2:Nat):Int):=by
   rw[Int.tdiv_eq_ediv_of_nonneg (by omega),aG (by omega) (by omega)];rfl
  refine ao (X:=((decide ((k:Int)<(s.size:Int))=true->(0<=(k:Int)/\(k:Int)<(s.size:Int))/\(decide (u8.wrap ((dV s).getD (k:Int).toNat (0:Int)-48)>9)=true->(0<=(k:Int)/\(k:Int)<(s.size:Int))/\((2:Int)=0->False)/\((2:Int)=0->False)/\(0<=i64.wrap ((k:Int).tdiv 2)/\i64.wrap ((k:Int).tdiv 2)<(↑(48:Nat):Int))/\(i64.wrap ((k:Int).tdiv 2)).toNat<48/\(0:Int)<=4/\(0<=i64.wrap ((k:Int).tdiv 2)/\i64.wrap ((k:Int).tdiv 2)<(↑(48:Nat):Int))/\(i64.wrap ((k:Int).tdiv 2)).toNat<48/\(Gz s (i64.wrap ((k:Int)+1),xs.set (i64.wrap ((k:Int).tdiv 2)).toNat (av BinOp.or u8 (u8.wrap (xs.getD (i64.wrap ((k:Int).tdiv 2)).toNat (0:Int)*2^min 4 u8.bits)) (u8.wrap (u8.wrap ((dV s).getD (k:Int).toNat (0:Int)-97)+10))))).ah ((∃ cE,cE<=s.size/\i64.wrap ((k:Int)+1)=(cE:Int)/\xs.set (i64.wrap ((k:Int).tdiv 2)).toNat (av BinOp.or u8 (u8.wrap (xs.getD (i64.wrap ((k:Int).tdiv 2)).toNat (0:Int)*2^min 4 u8.bits)) (u8.wrap (u8.wrap ((dV s).getD (k:Int).toNat (0:Int)-97)+10)))=vb s cE)/\s.size-(i64.wrap ((k:Int)+1)).toNat<s.size-(k:Int).toNat))/\(decide (u8.wrap ((dV s).getD (k:Int).toNat (0:Int)-48)>9)=false->((2:Int)=0->False)/\((2:Int)=0->False)/\(0<=i64.wrap ((k:Int).tdiv 2)/\i64.wrap ((k:Int).tdiv 2)<(↑(48:Nat):Int))/\(i64.wrap ((k:Int).tdiv 2)).toNat<48/\(0:Int)<=4/\(0<=i64.wrap ((k:Int).tdiv 2)/\i64.wrap ((k:Int).tdiv 2)<(↑(48:Nat):Int))/\(i64.wrap ((k:Int).tdiv 2)).toNat<48/\(Gz s (i64.wrap ((k:Int)+1),xs.set (i64.wrap ((k:Int).tdiv 2)).toNat (av BinOp.or u8 (u8.wrap (xs.getD (i64.wrap ((k:Int).tdiv 2)).toNat (0:Int)*2^min 4 u8.bits)) (u8.wrap ((dV s).getD (k:Int).toNat (0:Int)-48))))).ah ((∃ cE,cE<=s.size/\i64.wrap ((k:Int)+1)=(cE:Int)/\xs.set (i64.wrap ((k:Int).tdiv 2)).toNat (av BinOp.or u8 (u8.wrap (xs.getD (i64.wrap ((k:Int).tdiv 2)).toNat (0:Int)*2^min 4 u8.bits)) (u8.wrap ((dV s).getD (k:Int).toNat (0:Int)-48)))=vb s cE)/\s.size-(i64.wrap ((k:Int)+1)).toNat<s.size-(k:Int).toNat)))/\(decide ((k:Int)<(s.size:Int))=false->(Gz s ((k:Int),xs)).ah (xs=vb s s.size)))) (by kernel_rfl) ?_
  refine⟨fun h=>?_,fun h=>aA ?_⟩
  ·have hlt:k<s.size:=by have:=Odt h;omega
   have b1:(0:Int)<=(k:Int)/\(k:Int)<(s.size:Int):=⟨by omega,by omega⟩
   have z2:(2:Int)=0->False:=by decide
   have b2:(0:Int)<=((k/2:Nat):Int)/\((k/2:Nat):Int)<((48:Nat):Int):=⟨by omega,by omega⟩
   have b3:k/2<48:=by omega
   rw[e2]
   simp only[Int.toNat_natCast]
   refine⟨b1,fun h2=>⟨b1,z2,z2,b2,b3,by decide,b2,b3,aA ⟨⟨k+1,hlt,aQ (by omega),?_⟩,?_⟩⟩,fun h2=>⟨z2,z2,b2,b3,by decide,b2,b3,aA ⟨⟨k+1,hlt,aQ (by omega),?_⟩,?_⟩⟩⟩
   ·show _=OL s k (vb s k)
    rw[OL,Zb,if_pos (Odt h2),<- ex];rfl
   ·rw[aQ (by omega)];omega
   ·show _=OL s k (vb s k)
    rw[OL,Zb,if_neg (Odf h2),<- ex];rfl
   ·rw[aQ (by omega)];omega
  ·have hk2:k=s.size:=by have:=Odf h;omega
   rw[<- hk2];exact ex
 rintro⟨i,xs⟩ hx
 revert i xs
 intro (i:Int) (xs:List Int) (hx:xs=vb s s.size)
 refine bf hsp mixed _ _ ?_
 refine ao (X:=(0+48<=48/\fp.iO (List.take 48 xs,())/\((fp.eM (List.take 48 xs)).fst,())=(eD s,()))) (by kernel_rfl) ?_
 refine⟨Nat.le_refl _,by rw[hx];exact (OM hg).2,?_⟩
 rw[eD,ay,hx]
def Xc:Nat × Eng.Spec:=(197,ar [.str] [.val .fp] (fun (s,_)=>gr s=true) (fun (s,_)=>(eD s,())))
theorem Q4:enters Tryz.prog 196 Tryz.f196:=ek
theorem VD:aB Tryz.prog 196 [.str,.str] [.val f2] aM (fun (a,b,_)=>gr a=true/\gr b=true) (fun (a,b,_)=>(((eD a,eD b):F2),())):=by
 refine ax (sp:=aF [Xc]) (ai (ak RF) aR) mixed Q4 (by decide) (by decide) ?_
 rintro w M0 ⟨a,b,⟨⟩⟩
 revert a b
 intro (a:ByteArray) (b:ByteArray) _ hp
 have hp:gr a=true/\gr b=true:=hp
 refine ao (X:=(gr a=true/\gr b=true/\((eD a,eD b),())=((eD a,eD b),()))) (by kernel_rfl) ?_
 exact⟨hp.1,hp.2,rfl⟩
def aaZ:Nat × Eng.Spec:=(196,ar [.str,.str] [.val f2] (fun (a,b,_)=>gr a=true/\gr b=true) (fun (a,b,_)=>(((eD a,eD b):F2),())))
theorem Oe:enters Tryz.prog 155 Tryz.f155:=ek
def cM (x:F2) (l:List F2):F2:=cr (hv x l)
def Lx (x:F2) (l:List F2) (g:Int × F2):St:=aY Tryz.f155.ntmps 48 [(1,.is (.one (.ro f2 l))),(2,.is (.one (.ptr 0 0))),(4,.is (.one (.ptr 8 0))),(5,.is (.one (.ptr 16 0))),(6,sI .i64 g.1)] [(16,cellsOf f2 g.2),(8,cellsOf f2 (0:F2)),(0,cellsOf f2 x)]
theorem Gu:aB Tryz.prog 155 [f2,.sl f2] [.val f2] aM (fun (_,l,_)=>List.length l<=1048576) (fun (x,l,_)=>(cM x l,())):=by
 have hsp:aN Tryz.prog (aF [fp2.cK,fp2.cv]):=ai (ak fp2.cL) (ai (ak fp2.cC) aR)
 refine bh (sp:=aF [fp2.cK,fp2.cv]) Oe (by decide) (by decide) (by kernel_rfl) ?_
 rintro w M0 ⟨x,l,⟨⟩⟩
 revert x l
 intro (x:F2) (l:List F2) _ hl
 have hl:l.length<=1048576:=hl
 show Tr _ _ _ _ _ _ _
 refine aP hsp mixed 3 (Lx x l ((l.length:Int)-1,0)) True ?_ (fun _=>?_)
 ·have hw:i64.wrap ((l.length:Int)-1)=(l.length:Int)-1:=aG (by omega) (by omega)
  rw[<- hw]
  refine ao (X:=((Lx x l (i64.wrap ((l.length:Int)-1),(0:F2))).ah True)) (by kernel_rfl) ?_
  exact aA trivial
 refine bO hsp mixed dA (fun σ=>(bU (.int .i64) 6 σ,ga f2 16 σ)) (Lx x l) (fun g=>∃ k:Nat,k<=l.length/\g.1=(k:Int)-1/\g.2=hv x (l.drop k)) (fun g=>(g.1+1).toNat)
  (fun σ=>(bU (.int .i64) 6 σ,ga f2 16 σ)) (Lx x l) (fun g=>g.2=hv x l) ((l.length:Int)-1,0) (c:=aI (aJ Tryz.f155) 3) (by kernel_rfl) (by kernel_rfl) (aC (by kernel_rfl) (by kernel_rfl) ?_) ?_ ?_
 ·exact⟨l.length,Nat.le_refl _,rfl,by rw[List.drop_length];rfl⟩
 ·rintro⟨i,s⟩ hj
  revert i s
  intro (i:Int) (s:F2) ⟨k,hk,ei,es⟩
  have ei:i=(k:Int)-1:=ei
  have es:s=hv x (l.drop k):=es
  refine ao (X:=((decide (i>=0)=true->True/\(0<=i/\i<(l.length:Int))/\i.toNat<l.length/\True/\(Lx x l (i64.wrap (i-1),s*x+l.getD i.toNat ((0:Fp),(0:Fp)))).ah ((∃ k,k<=l.length/\i64.wrap (i-1)=(k:Int)-(1:au (Kd.int i64))/\s*x+l.getD i.toNat ((0:Fp),(0:Fp))=hv x (List.drop k l))/\Int.toNat (i64.wrap (i-1)+(1:au (Kd.int i64)))<Int.toNat (i+(1:au (Kd.int i64)))))/\(decide (i>=0)=false->(Lx x l (i,s)).ah (s=hv x l)))) (by kernel_rfl) ?_
  refine⟨fun h=>?_,fun h=>aA ?_⟩
  ·have h0:0<=i:=Odt h
   obtain⟨j,hj⟩:∃ j,k=j+1:=⟨k-1,by omega⟩
   have e1:i.toNat=j:=by omega
   have e2:i64.wrap (i-1)=(j:Int)-1:=by rw[aG (by omega) (by omega)];omega
   have hlt:j<l.length:=by omega
   have hd:l.drop j=l[j]::l.drop (j+1):=List.drop_eq_getElem_cons hlt
   have hg:l.getD j ((0:Fp),(0:Fp))=l[j]:=by simp[List.getD_eq_getElem?_getD,hlt]
   rw[e2,e1,hg]
   refine⟨trivial,⟨h0,by omega⟩,hlt,trivial,aA ⟨⟨j,by omega,rfl,?_⟩,by omega⟩⟩
   rw[hd,es,hj];rfl
  ·have h0:¬ 0<=i:=Odf h
   have hk0:k=0:=by omega
   rw[es,hk0];rfl
 rintro⟨i,s⟩ hx
 revert i s
 intro (i:Int) (s:F2) (hx:s=hv x l)
 refine bf hsp mixed _ _ ?_
 refine ao (X:=((s,())=(cM x l,()))) (by kernel_rfl) ?_
 rw[cM,ay,hx]
def Le:Nat × Eng.Spec:=(155,ar [f2,.sl f2] [.val f2] (fun (_,l,_)=>List.length l<=1048576) (fun (x,l,_)=>(cM x l,())))
end
end Go.Proofs.YtbeeaekepmnfhaaGreatDoor.h2c
namespace Go.Proofs.YtbeeaekepmnfhaaGreatDoor.h2c
open Go Go.Eng Go.RowKit Cr fp2
abbrev js:=(List.take 3 [(aj (0:Int),aj (-72:Int)),(aj (12:Int),aj (-12:Int)),(aj (1:Int),aj (0:Int))])
abbrev jr:=(List.take 4 [(aj (-432:Int),aj (-432:Int)),(aj (0:Int),aj (-216:Int)),(aj (18:Int),aj (-18:Int)),(aj (1:Int),aj (0:Int))])
def rr:ByteArray:=(ByteArray.mk (([(48:UInt8),(53:UInt8),(99:UInt8),(55:UInt8),(53:UInt8),(57:UInt8),(53:UInt8),(48:UInt8),(55:UInt8),(101:UInt8),(56:UInt8),(101:UInt8),(51:UInt8),(51:UInt8),(51:UInt8),(101:UInt8),(98:UInt8),(98:UInt8),(53:UInt8),(98:UInt8),(55:UInt8),(97:UInt8),(57:UInt8),(97:UInt8),(52:UInt8),(55:UInt8),(100:UInt8),(55:UInt8),(101:UInt8),(100:UInt8),(56:UInt8),(53:UInt8),(51:UInt8),(50:UInt8),(99:UInt8),(53:UInt8),(50:UInt8),(100:UInt8),(51:UInt8),(57:UInt8),(102:UInt8),(100:UInt8),(51:UInt8),(97:UInt8),(48:UInt8),(52:UInt8),(50:UInt8),(97:UInt8)].append [(56:UInt8),(56:UInt8),(98:UInt8),(53:UInt8),(56:UInt8),(52:UInt8),(50:UInt8),(51:UInt8),(99:UInt8),(53:UInt8),(48:UInt8),(97:UInt8),(101:UInt8),(49:UInt8),(53:UInt8),(100:UInt8),(53:UInt8),(99:UInt8),(50:UInt8),(54:UInt8),(51:UInt8),(56:UInt8),(101:UInt8),(51:UInt8),(52:UInt8),(51:UInt8),(100:UInt8),(57:UInt8),(99:UInt8),(55:UInt8),(49:UInt8),(99:UInt8),(54:UInt8),(50:UInt8),(51:UInt8),(56:UInt8),(97:UInt8),(97:UInt8),(97:UInt8),(97:UInt8),(97:UInt8),(97:UInt8),(97:UInt8),(97:UInt8),(57:UInt8),(55:UInt8),(100:UInt8),(54:UInt8)]).toArray ))
def Dd:ByteArray:=(ByteArray.mk (([(48:UInt8),(53:UInt8),(99:UInt8),(55:UInt8),(53:UInt8),(57:UInt8),(53:UInt8),(48:UInt8),(55:UInt8),(101:UInt8),(56:UInt8),(101:UInt8),(51:UInt8),(51:UInt8),(51:UInt8),(101:UInt8),(98:UInt8),(98:UInt8),(53:UInt8),(98:UInt8),(55:UInt8),(97:UInt8),(57:UInt8),(97:UInt8),(52:UInt8),(55:UInt8),(100:UInt8),(55:UInt8),(101:UInt8),(100:UInt8),(56:UInt8),(53:UInt8),(51:UInt8),(50:UInt8),(99:UInt8),(53:UInt8),(50:UInt8),(100:UInt8),(51:UInt8),(57:UInt8),(102:UInt8),(100:UInt8),(51:UInt8),(97:UInt8),(48:UInt8),(52:UInt8),(50:UInt8),(97:UInt8)].append [(56:UInt8),(56:UInt8),(98:UInt8),(53:UInt8),(56:UInt8),(52:UInt8),(50:UInt8),(51:UInt8),(99:UInt8),(53:UInt8),(48:UInt8),(97:UInt8),(101:UInt8),(49:UInt8),(53:UInt8),(100:UInt8),(53:UInt8),(99:UInt8),(50:UInt8),(54:UInt8),(51:UInt8),(56:UInt8),(101:UInt8),(51:UInt8),(52:UInt8),(51:UInt8),(100:UInt8),(57:UInt8),(99:UInt8),(55:UInt8),(49:UInt8),(99:UInt8),(54:UInt8),(50:UInt8),(51:UInt8),(56:UInt8),(97:UInt8),(97:UInt8),(97:UInt8),(97:UInt8),(97:UInt8),(97:UInt8),(97:UInt8),(97:UInt8),(57:UInt8),(55:UInt8),(98:UInt8),(101:UInt8)]).toArray ))
def De:ByteArray:=(ByteArray.mk (([(48:UInt8),(56:UInt8),(97:UInt8),(98:UInt8),(48:UInt8),(53:UInt8),(102:UInt8),(56:UInt8),(98:UInt8),(100:UInt8),(100:UInt8),(53:UInt8),(52:UInt8),(99:UInt8),(100:UInt8),(101:UInt8),(49:UInt8),(57:UInt8),(48:UInt8),(57:UInt8),(51:UInt8),(55:UInt8),(101:UInt8),(55:UInt8),(54:UInt8),(98:UInt8),(99:UInt8),(51:UInt8),(101:UInt8),(52:UInt8),(52:UInt8),(55:UInt8),(99:UInt8),(99:UInt8),(50:UInt8),(55:UInt8),(99:UInt8),(51:UInt8),(100:UInt8),(54:UInt8),(102:UInt8),(98:UInt8),(100:UInt8),(55:UInt8),(48:UInt8),(54:UInt8),(51:UInt8),(102:UInt8)].append [(99:UInt8),(100:UInt8),(49:UInt8),(48:UInt8),(52:UInt8),(54:UInt8),(51:UInt8),(53:UInt8),(97:UInt8),(55:UInt8),(57:UInt8),(48:UInt8),(53:UInt8),(50:UInt8),(48:UInt8),(99:UInt8),(48:UInt8),(97:UInt8),(51:UInt8),(57:UInt8),(53:UInt8),(53:UInt8),(53:UInt8),(52:UInt8),(101:UInt8),(53:UInt8),(99:UInt8),(54:UInt8),(97:UInt8),(97:UInt8),(97:UInt8),(97:UInt8),(57:UInt8),(51:UInt8),(53:UInt8),(52:UInt8),(102:UInt8),(102:UInt8),(102:UInt8),(102:UInt8),(102:UInt8),(102:UInt8),(102:UInt8),(102:UInt8),(101:UInt8),(51:UInt8),(56:UInt8),(100:UInt8)]).toArray ))
def Df:ByteArray:=(ByteArray.mk (([(48:UInt8),(56:UInt8),(97:UInt8),(98:UInt8),(48:UInt8),(53:UInt8),(102:UInt8),(56:UInt8),(98:UInt8),(100:UInt8),(100:UInt8),(53:UInt8),(52:UInt8),(99:UInt8),(100:UInt8),(101:UInt8),(49:UInt8),(57:UInt8),(48:UInt8),(57:UInt8),(51:UInt8),(55:UInt8),(101:UInt8),(55:UInt8),(54:UInt8),(98:UInt8),(99:UInt8),(51:UInt8),(101:UInt8),(52:UInt8),(52:UInt8),(55:UInt8),(99:UInt8),(99:UInt8),(50:UInt8),(55:UInt8),(99:UInt8),(51:UInt8),(100:UInt8),(54:UInt8),(102:UInt8),(98:UInt8),(100:UInt8),(55:UInt8),(48:UInt8),(54:UInt8),(51:UInt8),(102:UInt8)].append [(99:UInt8),(100:UInt8),(49:UInt8),(48:UInt8),(52:UInt8),(54:UInt8),(51:UInt8),(53:UInt8),(97:UInt8),(55:UInt8),(57:UInt8),(48:UInt8),(53:UInt8),(50:UInt8),(48:UInt8),(99:UInt8),(48:UInt8),(97:UInt8),(51:UInt8),(57:UInt8),(53:UInt8),(53:UInt8),(53:UInt8),(52:UInt8),(101:UInt8),(53:UInt8),(99:UInt8),(54:UInt8),(97:UInt8),(97:UInt8),(97:UInt8),(97:UInt8),(57:UInt8),(51:UInt8),(53:UInt8),(52:UInt8),(102:UInt8),(102:UInt8),(102:UInt8),(102:UInt8),(102:UInt8),(102:UInt8),(102:UInt8),(102:UInt8),(101:UInt8),(51:UInt8),(56:UInt8),(102:UInt8)]).toArray ))
def Dg:ByteArray:=(ByteArray.mk (([(49:UInt8),(49:UInt8),(53:UInt8),(54:UInt8),(48:UInt8),(98:UInt8),(102:UInt8),(49:UInt8),(55:UInt8),(98:UInt8),(97:UInt8),(97:UInt8),(57:UInt8),(57:UInt8),(98:UInt8),(99:UInt8),(51:UInt8),(50:UInt8),(49:UInt8),(50:UInt8),(54:UInt8),(102:UInt8),(99:UInt8),(101:UInt8),(100:UInt8),(55:UInt8),(56:UInt8),(55:UInt8),(99:UInt8),(56:UInt8),(56:UInt8),(102:UInt8),(57:UInt8),(56:UInt8),(52:UInt8),(102:UInt8),(56:UInt8),(55:UInt8),(97:UInt8),(100:UInt8),(102:UInt8),(55:UInt8),(97:UInt8),(101:UInt8),(48:UInt8),(99:UInt8),(55:UInt8),(102:UInt8)].append [(57:UInt8),(97:UInt8),(50:UInt8),(48:UInt8),(56:UInt8),(99:UInt8),(54:UInt8),(98:UInt8),(52:UInt8),(102:UInt8),(50:UInt8),(48:UInt8),(97:UInt8),(52:UInt8),(49:UInt8),(56:UInt8),(49:UInt8),(52:UInt8),(55:UInt8),(50:UInt8),(97:UInt8),(97:UInt8),(97:UInt8),(57:UInt8),(99:UInt8),(98:UInt8),(56:UInt8),(100:UInt8),(53:UInt8),(53:UInt8),(53:UInt8),(53:UInt8),(50:UInt8),(54:UInt8),(97:UInt8),(57:UInt8),(102:UInt8),(102:UInt8),(102:UInt8),(102:UInt8),(102:UInt8),(102:UInt8),(102:UInt8),(102:UInt8),(99:UInt8),(55:UInt8),(49:UInt8),(101:UInt8)]).toArray ))
def Dh:ByteArray:=(ByteArray.mk (([(49:UInt8),(49:UInt8),(53:UInt8),(54:UInt8),(48:UInt8),(98:UInt8),(102:UInt8),(49:UInt8),(55:UInt8),(98:UInt8),(97:UInt8),(97:UInt8),(57:UInt8),(57:UInt8),(98:UInt8),(99:UInt8),(51:UInt8),(50:UInt8),(49:UInt8),(50:UInt8),(54:UInt8),(102:UInt8),(99:UInt8),(101:UInt8),(100:UInt8),(55:UInt8),(56:UInt8),(55:UInt8),(99:UInt8),(56:UInt8),(56:UInt8),(102:UInt8),(57:UInt8),(56:UInt8),(52:UInt8),(102:UInt8),(56:UInt8),(55:UInt8),(97:UInt8),(100:UInt8),(102:UInt8),(55:UInt8),(97:UInt8),(101:UInt8),(48:UInt8),(99:UInt8),(55:UInt8),(102:UInt8)].append [(57:UInt8),(97:UInt8),(50:UInt8),(48:UInt8),(56:UInt8),(99:UInt8),(54:UInt8),(98:UInt8),(52:UInt8),(102:UInt8),(50:UInt8),(48:UInt8),(97:UInt8),(52:UInt8),(49:UInt8),(56:UInt8),(49:UInt8),(52:UInt8),(55:UInt8),(50:UInt8),(97:UInt8),(97:UInt8),(97:UInt8),(57:UInt8),(99:UInt8),(98:UInt8),(56:UInt8),(100:UInt8),(53:UInt8),(53:UInt8),(53:UInt8),(53:UInt8),(50:UInt8),(54:UInt8),(97:UInt8),(57:UInt8),(102:UInt8),(102:UInt8),(102:UInt8),(102:UInt8),(102:UInt8),(102:UInt8),(102:UInt8),(102:UInt8),(99:UInt8),(55:UInt8),(49:UInt8),(97:UInt8)]).toArray ))
def Di:ByteArray:=(ByteArray.mk (([(49:UInt8),(49:UInt8),(53:UInt8),(54:UInt8),(48:UInt8),(98:UInt8),(102:UInt8),(49:UInt8),(55:UInt8),(98:UInt8),(97:UInt8),(97:UInt8),(57:UInt8),(57:UInt8),(98:UInt8),(99:UInt8),(51:UInt8),(50:UInt8),(49:UInt8),(50:UInt8),(54:UInt8),(102:UInt8),(99:UInt8),(101:UInt8),(100:UInt8),(55:UInt8),(56:UInt8),(55:UInt8),(99:UInt8),(56:UInt8),(56:UInt8),(102:UInt8),(57:UInt8),(56:UInt8),(52:UInt8),(102:UInt8),(56:UInt8),(55:UInt8),(97:UInt8),(100:UInt8),(102:UInt8),(55:UInt8),(97:UInt8),(101:UInt8),(48:UInt8),(99:UInt8),(55:UInt8),(102:UInt8)].append [(57:UInt8),(97:UInt8),(50:UInt8),(48:UInt8),(56:UInt8),(99:UInt8),(54:UInt8),(98:UInt8),(52:UInt8),(102:UInt8),(50:UInt8),(48:UInt8),(97:UInt8),(52:UInt8),(49:UInt8),(56:UInt8),(49:UInt8),(52:UInt8),(55:UInt8),(50:UInt8),(97:UInt8),(97:UInt8),(97:UInt8),(57:UInt8),(99:UInt8),(98:UInt8),(56:UInt8),(100:UInt8),(53:UInt8),(53:UInt8),(53:UInt8),(53:UInt8),(50:UInt8),(54:UInt8),(97:UInt8),(57:UInt8),(102:UInt8),(102:UInt8),(102:UInt8),(102:UInt8),(102:UInt8),(102:UInt8),(102:UInt8),(102:UInt8),(99:UInt8),(55:UInt8),(49:UInt8),(99:UInt8)]).toArray ))
def Dj:ByteArray:=(ByteArray.mk (([(49:UInt8),(50:UInt8),(52:UInt8),(99:UInt8),(57:UInt8),(97:UInt8),(100:UInt8),(52:UInt8),(51:UInt8),(98:UInt8),(54:UInt8),(99:UInt8),(102:UInt8),(55:UInt8),(57:UInt8),(98:UInt8),(102:UInt8),(98:UInt8),(102:UInt8),(55:UInt8),(48:UInt8),(52:UInt8),(51:UInt8),(100:UInt8),(101:UInt8),(51:UInt8),(56:UInt8),(49:UInt8),(49:UInt8),(97:UInt8),(100:UInt8),(48:UInt8),(55:UInt8),(54:UInt8),(49:UInt8),(98:UInt8),(48:UInt8),(102:UInt8),(51:UInt8),(55:UInt8),(97:UInt8),(49:UInt8),(101:UInt8),(50:UInt8),(54:UInt8),(50:UInt8),(56:UInt8),(54:UInt8)].append [(98:UInt8),(48:UInt8),(101:UInt8),(57:UInt8),(55:UInt8),(55:UInt8),(99:UInt8),(54:UInt8),(57:UInt8),(97:UInt8),(97:UInt8),(50:UInt8),(55:UInt8),(52:UInt8),(53:UInt8),(50:UInt8),(52:UInt8),(101:UInt8),(55:UInt8),(57:UInt8),(48:UInt8),(57:UInt8),(55:UInt8),(97:UInt8),(53:UInt8),(54:UInt8),(100:UInt8),(99:UInt8),(52:UInt8),(98:UInt8),(100:UInt8),(57:UInt8),(101:UInt8),(49:UInt8),(98:UInt8),(51:UInt8),(55:UInt8),(49:UInt8),(99:UInt8),(55:UInt8),(49:UInt8),(99:UInt8),(55:UInt8),(49:UInt8),(56:UInt8),(98:UInt8),(49:UInt8),(48:UInt8)]).toArray ))
def ru:ByteArray:=(ByteArray.mk (([(49:UInt8),(53:UInt8),(51:UInt8),(48:UInt8),(52:UInt8),(55:UInt8),(55:UInt8),(99:UInt8),(55:UInt8),(97:UInt8),(98:UInt8),(52:UInt8),(49:UInt8),(49:UInt8),(51:UInt8),(98:UInt8),(53:UInt8),(57:UInt8),(97:UInt8),(52:UInt8),(99:UInt8),(49:UInt8),(56:UInt8),(98:UInt8),(48:UInt8),(55:UInt8),(54:UInt8),(100:UInt8),(49:UInt8),(49:UInt8),(57:UInt8),(51:UInt8),(48:UInt8),(102:UInt8),(55:UInt8),(100:UInt8),(97:UInt8),(53:UInt8),(100:UInt8),(52:UInt8),(97:UInt8),(48:UInt8),(55:UInt8),(102:UInt8),(54:UInt8),(52:UInt8),(57:UInt8),(98:UInt8)].append [(102:UInt8),(53:UInt8),(52:UInt8),(52:UInt8),(51:UInt8),(57:UInt8),(100:UInt8),(56:UInt8),(55:UInt8),(100:UInt8),(50:UInt8),(55:UInt8),(101:UInt8),(53:UInt8),(48:UInt8),(48:UInt8),(102:UInt8),(99:UInt8),(56:UInt8),(99:UInt8),(50:UInt8),(53:UInt8),(101:UInt8),(98:UInt8),(102:UInt8),(56:UInt8),(99:UInt8),(57:UInt8),(50:UInt8),(102:UInt8),(54:UInt8),(56:UInt8),(49:UInt8),(50:UInt8),(99:UInt8),(102:UInt8),(99:UInt8),(55:UInt8),(49:UInt8),(99:UInt8),(55:UInt8),(49:UInt8),(99:UInt8),(54:UInt8),(100:UInt8),(55:UInt8),(48:UInt8),(54:UInt8)]).toArray ))
def AI:ByteArray:=(ByteArray.mk (([(49:UInt8),(55:UInt8),(49:UInt8),(100:UInt8),(54:UInt8),(53:UInt8),(52:UInt8),(49:UInt8),(102:UInt8),(97:UInt8),(51:UInt8),(56:UInt8),(99:UInt8),(99:UInt8),(102:UInt8),(97:UInt8),(101:UInt8),(100:UInt8),(54:UInt8),(100:UInt8),(101:UInt8),(97:UInt8),(54:UInt8),(57:UInt8),(49:UInt8),(102:UInt8),(53:UInt8),(102:UInt8),(98:UInt8),(54:UInt8),(49:UInt8),(52:UInt8),(99:UInt8),(98:UInt8),(49:UInt8),(52:UInt8),(98:UInt8),(52:UInt8),(101:UInt8),(55:UInt8),(102:UInt8),(52:UInt8),(101:UInt8),(56:UInt8),(49:UInt8),(48:UInt8),(97:UInt8),(97:UInt8)].append [(50:UInt8),(50:UInt8),(100:UInt8),(54:UInt8),(49:UInt8),(48:UInt8),(56:UInt8),(102:UInt8),(49:UInt8),(52:UInt8),(50:UInt8),(98:UInt8),(56:UInt8),(53:UInt8),(55:UInt8),(53:UInt8),(55:UInt8),(48:UInt8),(57:UInt8),(56:UInt8),(101:UInt8),(51:UInt8),(56:UInt8),(100:UInt8),(48:UInt8),(102:UInt8),(54:UInt8),(55:UInt8),(49:UInt8),(99:UInt8),(55:UInt8),(49:UInt8),(56:UInt8),(56:UInt8),(101:UInt8),(50:UInt8),(97:UInt8),(97:UInt8),(97:UInt8),(97:UInt8),(97:UInt8),(97:UInt8),(97:UInt8),(97:UInt8),(53:UInt8),(101:UInt8),(100:UInt8),(49:UInt8)]).toArray ))
noncomputable def gj (x y:F2):F2 × F2:=cr (if hq x cU*hq x cB=0 then O2 else (hq x cW*hq x cB*inv2 (hq x cU*hq x cB),y*hq x cH*hq x cU*inv2 (hq x cU*hq x cB)))
theorem lU:([(aj (0:Int),aj (-72:Int)),(aj (12:Int),aj (-12:Int)),(aj (1:Int),aj (0:Int))]:List F2)=cU.map q2:=Odt (by kernel_rfl)
theorem lB:([(aj (-432:Int),aj (-432:Int)),(aj (0:Int),aj (-216:Int)),(aj (18:Int),aj (-18:Int)),(aj (1:Int),aj (0:Int))]:List F2)=cB.map q2:=Odt (by kernel_rfl)
theorem hU (x:F2):cM x js=hq x cU:=by
 rw[cM,ay,hq,<- lU];rfl
theorem hB (x:F2):cM x jr=hq x cB:=by
 rw[cM,ay,hq,<- lB];rfl
theorem Mn {x a b c d:F2} {p q r s:V2} (ha:a=q2 p) (hb:b=q2 q) (hc:c=q2 r) (hd:d=q2 s):cM x (List.take 4 [a,b,c,d])=hq x [p,q,r,s]:=by
 rw[cM,ay,ha,hb,hc,hd];rfl
def grv (s:ByteArray) (n:Nat):Bool:=decide ((fp.eM (List.take 48 (vb s s.size))).1.v=(n:Int)%Mp)
theorem gq {s t:ByteArray} {m n:Nat} (h1:grv s m=true) (h2:grv t n=true):((eD s,eD t):F2)=q2 (m,n):=by
 refine F2.ext (Zm.ext ?_) (Zm.ext ?_)
 ·show (eD s).v=_
  rw[eD,ay];exact Odt h1
 ·show (eD t).v=_
  rw[eD,ay];exact Odt h2
theorem QL {x y:F2} (h:decide (cM x js*cM x jr=(0:au Kd.fp × au Kd.fp))=true):((((0:Fp),(0:Fp)),(0:Fp),(0:Fp)),())=(gj x y,()):=by
 have h:cM x js*cM x jr=0:=Odt h
 rw[hU,hB] at h
 rw[gj,ay,if_pos h];rfl
theorem QM {x y a0 a1 a2 a3 b0 b1 b2 b3:F2} (h:decide (cM x js*cM x jr=(0:au Kd.fp × au Kd.fp))=false) (e0:a0=q2 (889424345604814976315064405719089812568196182208668418962679585805340366775741747653930584250892369786198727235542,889424345604814976315064405719089812568196182208668418962679585805340366775741747653930584250892369786198727235542)) (e1:a1=q2 (0,2668273036814444928945193217157269437704588546626005256888038757416021100327225242961791752752677109358596181706522)) (e2:a2=q2 (2668273036814444928945193217157269437704588546626005256888038757416021100327225242961791752752677109358596181706526,1334136518407222464472596608578634718852294273313002628444019378708010550163612621480895876376338554679298090853261)) (e3:a3=q2 (3557697382419259905260257622876359250272784728834673675850718343221361467102966990615722337003569479144794908942033,0)) (f0:b0=q2 (3261222600550988246488569487636662646083386001431784202863158481286248011511053074731078808919938689216061999863558,3261222600550988246488569487636662646083386001431784202863158481286248011511053074731078808919938689216061999863558)) (f1:b1=q2 (0,889424345604814976315064405719089812568196182208668418962679585805340366775741747653930584250892369786198727235518)) (f2:b2=q2 (2668273036814444928945193217157269437704588546626005256888038757416021100327225242961791752752677109358596181706524,1334136518407222464472596608578634718852294273313002628444019378708010550163612621480895876376338554679298090853263)) (f3:b3=q2 (2816510427748580758331037284777117739799287910327449993381818688383577828123182200904113516794492504322962636245776,0)) :
  ((cM x (List.take 4 [a0,a1,a2,a3])*cM x jr*inv2 (cM x js*cM x jr),y*cM x (List.take 4 [b0,b1,b2,b3])*cM x js*inv2 (cM x js*cM x jr)),())=(gj x y,()):=by
 have h:¬ cM x js*cM x jr=0:=Odf h
 rw[hU,hB] at h
 rw[gj,ay,if_neg h,hU,hB,Mn e0 e1 e2 e3,Mn f0 f1 f2 f3];rfl
theorem L1:enters Tryz.prog 157 Tryz.f157:=ek
theorem Om:aB Tryz.prog 157 [f2,f2] [.val ba] aM (fun _=>True) (fun (x,y,_)=>(gj x y,())):=by
 refine ax (sp:=aF [ln,UB,Le,aaZ,fp2.cK,fp2.k9,fp2.mS]) (ai (ak lK) (ai (ak OD) (ai (ak Gu) (ai (ak VD) (ai (ak fp2.cL) (ai (ak fp2.jh) (ai (ak fp2.ke) aR))))))) mixed L1 (by decide) (by decide) ?_
 rintro w M0 ⟨x,y,⟨⟩⟩
 revert x y
 intro (x:F2) (y:F2) _ _
 refine ao (X:=(True/\(gC 0/\gC (-72:Int))/\(gC 12/\gC (-12:Int))/\(gC 1/\gC 0)/\0+3<=3/\js.length<=1048576/\(gC (-432:Int)/\gC (-432:Int))/\(gC 0/\gC (-216:Int))/\(gC 18/\gC (-18:Int))/\(gC 1/\gC 0)/\0+4<=4/\jr.length<=1048576/\True/\True/\(decide (cM x js*cM x jr=(0:au Kd.fp × au Kd.fp))=true->((((0:Fp),(0:Fp)),(0:Fp),(0:Fp)),())=(gj x y,()))/\(decide (cM x js*cM x jr=(0:au Kd.fp × au Kd.fp))=false->(gr rr=true/\gr rr=true)/\(gr (ByteArray.mk (#[] ))=true/\gr Dh=true)/\(gr Dg=true/\gr De=true)/\(gr AI=true/\gr (ByteArray.mk (#[] ))=true)/\0+4<=4/\(List.take 4 [(eD rr,eD rr),(eD (ByteArray.mk (#[] )),eD Dh),(eD Dg,eD De),(eD AI,eD (ByteArray.mk (#[] )))]).length<=1048576/\(gr ru=true/\gr ru=true)/\(gr (ByteArray.mk (#[] ))=true/\gr Dd=true)/\(gr Di=true/\gr Df=true)/\(gr Dj=true/\gr (ByteArray.mk (#[] ))=true)/\0+4<=4/\(List.take 4 [(eD ru,eD ru),(eD (ByteArray.mk (#[] )),eD Dd),(eD Di,eD Df),(eD Dj,eD (ByteArray.mk (#[] )))]).length<=1048576/\True/\True/\True/\True/\True/\True/\((cM x (List.take 4 [(eD rr,eD rr),(eD (ByteArray.mk (#[] )),eD Dh),(eD Dg,eD De),(eD AI,eD (ByteArray.mk (#[] )))])*cM x jr*inv2 (cM x js*cM x jr),y*cM x (List.take 4 [(eD ru,eD ru),(eD (ByteArray.mk (#[] )),eD Dd),(eD Di,eD Df),(eD Dj,eD (ByteArray.mk (#[] )))])*cM x js*inv2 (cM x js*cM x jr)),())=(gj x y,())))) (by kernel_rfl) ?_
 refine⟨trivial,⟨⟨by decide,by decide⟩,⟨by decide,by decide⟩⟩,⟨⟨by decide,by decide⟩,⟨by decide,by decide⟩⟩,⟨⟨by decide,by decide⟩,⟨by decide,by decide⟩⟩,Nat.le_refl _,by decide,⟨⟨by decide,by decide⟩,⟨by decide,by decide⟩⟩,⟨⟨by decide,by decide⟩,⟨by decide,by decide⟩⟩,⟨⟨by decide,by decide⟩,⟨by decide,by decide⟩⟩,⟨⟨by decide,by decide⟩,⟨by decide,by decide⟩⟩,Nat.le_refl _,by decide,trivial,trivial,fun h=>QL h,fun h=>⟨⟨by kernel_rfl,by kernel_rfl⟩,⟨by kernel_rfl,by kernel_rfl⟩,⟨by kernel_rfl,by kernel_rfl⟩,⟨by kernel_rfl,by kernel_rfl⟩,Nat.le_refl _,Nat.le_trans (List.length_take_le _ _) (by decide),⟨by kernel_rfl,by kernel_rfl⟩,⟨by kernel_rfl,by kernel_rfl⟩,⟨by kernel_rfl,by kernel_rfl⟩,⟨by kernel_rfl,by kernel_rfl⟩,Nat.le_refl _,Nat.le_trans (List.length_take_le _ _) (by decide),trivial,trivial,trivial,trivial,trivial,trivial,?_⟩⟩
 exact QM h (gq (by kernel_rfl) (by kernel_rfl)) (gq (by kernel_rfl) (by kernel_rfl)) (gq (by kernel_rfl) (by kernel_rfl)) (gq (by kernel_rfl) (by kernel_rfl)) (gq (by kernel_rfl) (by kernel_rfl)) (gq (by kernel_rfl) (by kernel_rfl)) (gq (by kernel_rfl) (by kernel_rfl)) (gq (by kernel_rfl) (by kernel_rfl))
noncomputable def SI:Nat × Eng.Spec:=(157,ar [f2,f2] [.val ba] (fun _=>True) (fun (x,y,_)=>(gj x y,())))
end Go.Proofs.YtbeeaekepmnfhaaGreatDoor.h2c
namespace Go.Proofs.YtbeeaekepmnfhaaGreatDoor.h2c
noncomputable section
open Go Go.Eng Go.RowKit Cr fp2
abbrev cA:=(List.take 4 [(aj (1012:Int),aj (1012:Int)),(aj (0:Int),aj (240:Int)),((0:Fp),(0:Fp)),(aj (1:Int),aj (0:Int))])
def gg (y:F2):Bool:=cr (od y)
theorem YZ:aB Tryz.prog 156 [f2] [.val .bool] aM (fun _=>True) (fun (y,_)=>(gg y,())):=fp2.Gs.out fun (y,_)=>by show (gg y,())=(_,());rw[gg,ay];rfl
def ac5:Nat × Eng.Spec:=(156,ar [f2] [.val .bool] (fun _=>True) (fun (y,_)=>(gg y,())))
def qv (x:F2):F2 × Bool:=bF (hq x cG)
def um (u y:F2):F2:=if gg y=gg u then y else -y
def E5 (u t x:F2):F2 × F2:=if (qv x).2=true then gj x (um u (qv x).1) else gj (x*t) (um u (qv (x*t)).1)
def oJ (u:F2):F2:=if inv2 (cz*(u*u)*(cz*(u*u))+cz*(u*u))=0 then cb*inv2 (cz*ca) else -cb*inv2 ca*(1+inv2 (cz*(u*u)*(cz*(u*u))+cz*(u*u)))
def fq (u:F2):F2 × F2:=cr (E5 u (cz*(u*u)) (oJ u))
theorem ZK:((aj (0:Int),aj (240:Int)):F2)=ca:=rfl
theorem ZL:((aj (1012:Int),aj (1012:Int)):F2)=cb:=rfl
theorem TP:((aj (-2:Int),aj (-1:Int)):F2)=cz:=F2.ext (Zm.ext (Odt (by kernel_rfl))) (Zm.ext (Odt (by kernel_rfl)))
theorem cE:((aj (1:Int),aj (0:Int)):F2)=1:=F2.ext (Zm.ext (Odt (by kernel_rfl))) (Zm.ext (Odt (by kernel_rfl)))
theorem hG4 (x:F2):cM x cA=hq x cG:=Mn (p:=(1012,1012)) (q:=(0,240)) (r:=(0,0)) (s:=(1,0)) ZL ZK rfl (cE.trans rfl)
theorem TU {u y:F2} {x:F2} {R:F2 × F2} (hR:R=gj x (um u y)):((!gg y==gg u)=true->True/\True/\(gj x (-y),())=(R,()))/\((!gg y==gg u)=false->True/\(gj x y,())=(R,())):=by
 refine⟨fun h=>⟨trivial,trivial,?_⟩,fun h=>⟨trivial,?_⟩⟩
 ·have h1:¬ gg y=gg u:=by simpa using h
  rw[hR,um,if_neg h1]
 ·have h1:gg y=gg u:=by simpa using h
  rw[hR,um,if_pos h1]
theorem TW {u T x:F2} {R:F2 × F2} (hR:R=E5 u T x):((!(bF (cM x cA)).snd)=true->True/\0+4<=4/\cA.length<=1048576/\True/\True/\True/\((!gg (bF (cM (x*T) cA)).fst==gg u)=true->True/\True/\(gj (x*T) (-(bF (cM (x*T) cA)).fst),())=(R,()))/\((!gg (bF (cM (x*T) cA)).fst==gg u)=false->True/\(gj (x*T) (bF (cM (x*T) cA)).fst,())=(R,())))/\((!(bF (cM x cA)).snd)=false->True/\True/\((!gg (bF (cM x cA)).fst==gg u)=true->True/\True/\(gj x (-(bF (cM x cA)).fst),())=(R,()))/\((!gg (bF (cM x cA)).fst==gg u)=false->True/\(gj x (bF (cM x cA)).fst,())=(R,()))):=by
 rw[hG4,hG4]
 refine⟨fun h=>⟨trivial,Nat.le_refl _,by decide,trivial,trivial,trivial,TU ?_⟩,fun h=>⟨trivial,trivial,TU ?_⟩⟩
 ·have h1:¬ (qv x).2=true:=by
   have h:(!(qv x).2)=true:=h
   simpa using h
  rw[hR,E5,if_neg h1];rfl
 ·have h1:(qv x).2=true:=by
   have h:(!(qv x).2)=false:=h
   simpa using h
  rw[hR,E5,if_pos h1];rfl
theorem Vn:enters Tryz.prog 108 Tryz.f108:=ek
theorem YO:aB Tryz.prog 108 [f2] [.val ba] aM (fun _=>True) (fun (u,_)=>(fq u,())):=by
 refine ax (sp:=aF [ln,UB,fp2.bJ,fp2.cK,fp2.cv,fp2.mS,fp2.k9,fp2.jb,Le,fp2.yO,ac5,SI]) (ai (ak lK) (ai (ak OD) (ai (ak fp2.b9) (ai (ak fp2.cL) (ai (ak fp2.cC) (ai (ak fp2.ke) (ai (ak fp2.jh) (ai (ak fp2.iA) (ai (ak Gu) (ai (ak fp2.zu) (ai (ak YZ) (ai (ak Om) aR)))))))))))) mixed Vn (by decide) (by decide) ?_
 rintro w M0 ⟨u,⟨⟩⟩
 revert u
 intro (u:F2) _ _
 refine ao (X:=(True/\(gC 0/\gC 240)/\(gC 1012/\gC 1012)/\(gC (-2:Int)/\gC (-1:Int))/\(gC 1/\gC 0)/\True/\True/\True/\True/\True/\True/\(decide (inv2 ((aj (-2:Int),aj (-1:Int))*(u*u)*((aj (-2:Int),aj (-1:Int))*(u*u))+(aj (-2:Int),aj (-1:Int))*(u*u))=(0:au Kd.fp × au Kd.fp))=true->True/\True/\True/\0+4<=4/\cA.length<=1048576/\True/\((!(bF (cM ((aj 1012,aj 1012)*inv2 ((aj (-2:Int),aj (-1:Int))*(aj 0,aj 240))) cA)).snd)=true->True/\0+4<=4/\cA.length<=1048576/\True/\True/\True/\((!gg (bF (cM ((aj 1012,aj 1012)*inv2 ((aj (-2:Int),aj (-1:Int))*(aj 0,aj 240))*((aj (-2:Int),aj (-1:Int))*(u*u))) cA)).fst==gg u)=true->True/\True/\(gj ((aj 1012,aj 1012)*inv2 ((aj (-2:Int),aj (-1:Int))*(aj 0,aj 240))*((aj (-2:Int),aj (-1:Int))*(u*u))) (-(bF (cM ((aj 1012,aj 1012)*inv2 ((aj (-2:Int),aj (-1:Int))*(aj 0,aj 240))*((aj (-2:Int),aj (-1:Int))*(u*u))) cA)).fst),())=(fq u,()))/\((!gg (bF (cM ((aj 1012,aj 1012)*inv2 ((aj (-2:Int),aj (-1:Int))*(aj 0,aj 240))*((aj (-2:Int),aj (-1:Int))*(u*u))) cA)).fst==gg u)=false->True/\(gj ((aj 1012,aj 1012)*inv2 ((aj (-2:Int),aj (-1:Int))*(aj 0,aj 240))*((aj (-2:Int),aj (-1:Int))*(u*u))) (bF (cM ((aj 1012,aj 1012)*inv2 ((aj (-2:Int),aj (-1:Int))*(aj 0,aj 240))*((aj (-2:Int),aj (-1:Int))*(u*u))) cA)).fst,())=(fq u,())))/\((!(bF (cM ((aj 1012,aj 1012)*inv2 ((aj (-2:Int),aj (-1:Int))*(aj 0,aj 240))) cA)).snd)=false->True/\True/\((!gg (bF (cM ((aj 1012,aj 1012)*inv2 ((aj (-2:Int),aj (-1:Int))*(aj 0,aj 240))) cA)).fst==gg u)=true->True/\True/\(gj ((aj 1012,aj 1012)*inv2 ((aj (-2:Int),aj (-1:Int))*(aj 0,aj 240))) (-(bF (cM ((aj 1012,aj 1012)*inv2 ((aj (-2:Int),aj (-1:Int))*(aj 0,aj 240))) cA)).fst),())=(fq u,()))/\((!gg (bF (cM ((aj 1012,aj 1012)*inv2 ((aj (-2:Int),aj (-1:Int))*(aj 0,aj 240))) cA)).fst==gg u)=false->True/\(gj ((aj 1012,aj 1012)*inv2 ((aj (-2:Int),aj (-1:Int))*(aj 0,aj 240))) (bF (cM ((aj 1012,aj 1012)*inv2 ((aj (-2:Int),aj (-1:Int))*(aj 0,aj 240))) cA)).fst,())=(fq u,()))))/\(decide (inv2 ((aj (-2:Int),aj (-1:Int))*(u*u)*((aj (-2:Int),aj (-1:Int))*(u*u))+(aj (-2:Int),aj (-1:Int))*(u*u))=(0:au Kd.fp × au Kd.fp))=false->True/\True/\True/\True/\True/\0+4<=4/\cA.length<=1048576/\True/\((!(bF (cM (-(aj 1012,aj 1012)*inv2 (aj 0,aj 240)*((aj 1,aj 0)+inv2 ((aj (-2:Int),aj (-1:Int))*(u*u)*((aj (-2:Int),aj (-1:Int))*(u*u))+(aj (-2:Int),aj (-1:Int))*(u*u)))) cA)).snd)=true->True/\0+4<=4/\cA.length<=1048576/\True/\True/\True/\((!gg (bF (cM (-(aj 1012,aj 1012)*inv2 (aj 0,aj 240)*((aj 1,aj 0)+inv2 ((aj (-2:Int),aj (-1:Int))*(u*u)*((aj (-2:Int),aj (-1:Int))*(u*u))+(aj (-2:Int),aj (-1:Int))*(u*u)))*((aj (-2:Int),aj (-1:Int))*(u*u))) cA)).fst==gg u)=true->True/\True/\(gj (-(aj 1012,aj 1012)*inv2 (aj 0,aj 240)*((aj 1,aj 0)+inv2 ((aj (-2:Int),aj (-1:Int))*(u*u)*((aj (-2:Int),aj (-1:Int))*(u*u))+(aj (-2:Int),aj (-1:Int))*(u*u)))*((aj (-2:Int),aj (-1:Int))*(u*u))) (-(bF (cM (-(aj 1012,aj 1012)*inv2 (aj 0,aj 240)*((aj 1,aj 0)+inv2 ((aj (-2:Int),aj (-1:Int))*(u*u)*((aj (-2:Int),aj (-1:Int))*(u*u))+(aj (-2:Int),aj (-1:Int))*(u*u)))*((aj (-2:Int),aj (-1:Int))*(u*u))) cA)).fst),())=(fq u,()))/\((!gg (bF (cM (-(aj 1012,aj 1012)*inv2 (aj 0,aj 240)*((aj 1,aj 0)+inv2 ((aj (-2:Int),aj (-1:Int))*(u*u)*((aj (-2:Int),aj (-1:Int))*(u*u))+(aj (-2:Int),aj (-1:Int))*(u*u)))*((aj (-2:Int),aj (-1:Int))*(u*u))) cA)).fst==gg u)=false->True/\(gj (-(aj 1012,aj 1012)*inv2 (aj 0,aj 240)*((aj 1,aj 0)+inv2 ((aj (-2:Int),aj (-1:Int))*(u*u)*((aj (-2:Int),aj (-1:Int))*(u*u))+(aj (-2:Int),aj (-1:Int))*(u*u)))*((aj (-2:Int),aj (-1:Int))*(u*u))) (bF (cM (-(aj 1012,aj 1012)*inv2 (aj 0,aj 240)*((aj 1,aj 0)+inv2 ((aj (-2:Int),aj (-1:Int))*(u*u)*((aj (-2:Int),aj (-1:Int))*(u*u))+(aj (-2:Int),aj (-1:Int))*(u*u)))*((aj (-2:Int),aj (-1:Int))*(u*u))) cA)).fst,())=(fq u,())))/\((!(bF (cM (-(aj 1012,aj 1012)*inv2 (aj 0,aj 240)*((aj 1,aj 0)+inv2 ((aj (-2:Int),aj (-1:Int))*(u*u)*((aj (-2:Int),aj (-1:Int))*(u*u))+(aj (-2:Int),aj (-1:Int))*(u*u)))) cA)).snd)=false->True/\True/\((!gg (bF (cM (-(aj 1012,aj 1012)*inv2 (aj 0,aj 240)*((aj 1,aj 0)+inv2 ((aj (-2:Int),aj (-1:Int))*(u*u)*((aj (-2:Int),aj (-1:Int))*(u*u))+(aj (-2:Int),aj (-1:Int))*(u*u)))) cA)).fst==gg u)=true->True/\True/\(gj (-(aj 1012,aj 1012)*inv2 (aj 0,aj 240)*((aj 1,aj 0)+inv2 ((aj (-2:Int),aj (-1:Int))*(u*u)*((aj (-2:Int),aj (-1:Int))*(u*u))+(aj (-2:Int),aj (-1:Int))*(u*u)))) (-(bF (cM (-(aj 1012,aj 1012)*inv2 (aj 0,aj 240)*((aj 1,aj 0)+inv2 ((aj (-2:Int),aj (-1:Int))*(u*u)*((aj (-2:Int),aj (-1:Int))*(u*u))+(aj (-2:Int),aj (-1:Int))*(u*u)))) cA)).fst),())=(fq u,()))/\((!gg (bF (cM (-(aj 1012,aj 1012)*inv2 (aj 0,aj 240)*((aj 1,aj 0)+inv2 ((aj (-2:Int),aj (-1:Int))*(u*u)*((aj (-2:Int),aj (-1:Int))*(u*u))+(aj (-2:Int),aj (-1:Int))*(u*u)))) cA)).fst==gg u)=false->True/\(gj (-(aj 1012,aj 1012)*inv2 (aj 0,aj 240)*((aj 1,aj 0)+inv2 ((aj (-2:Int),aj (-1:Int))*(u*u)*((aj (-2:Int),aj (-1:Int))*(u*u))+(aj (-2:Int),aj (-1:Int))*(u*u)))) (bF (cM (-(aj 1012,aj 1012)*inv2 (aj 0,aj 240)*((aj 1,aj 0)+inv2 ((aj (-2:Int),aj (-1:Int))*(u*u)*((aj (-2:Int),aj (-1:Int))*(u*u))+(aj (-2:Int),aj (-1:Int))*(u*u)))) cA)).fst,())=(fq u,())))))) (by kernel_rfl) ?_
 refine⟨trivial,⟨⟨by decide,by decide⟩,⟨by decide,by decide⟩⟩,⟨⟨by decide,by decide⟩,⟨by decide,by decide⟩⟩,⟨⟨by decide,by decide⟩,⟨by decide,by decide⟩⟩,⟨⟨by decide,by decide⟩,⟨by decide,by decide⟩⟩,trivial,trivial,trivial,trivial,trivial,trivial,fun h=>⟨trivial,trivial,trivial,Nat.le_refl _,by decide,trivial,TW ?_⟩,fun h=>⟨trivial,trivial,trivial,trivial,trivial,Nat.le_refl _,by decide,trivial,TW ?_⟩⟩
 ·rw[TP] at h
  rw[fq,ay,oJ,if_pos (Odt h),TP,ZK,ZL]
 ·rw[TP] at h
  rw[fq,ay,oJ,if_neg (Odf h),TP,ZK,ZL,cE]
def Uv:Nat × Eng.Spec:=(108,ar [f2] [.val ba] (fun _=>True) (fun (u,_)=>(fq u,())))
end
end Go.Proofs.YtbeeaekepmnfhaaGreatDoor.h2c
namespace Go.Proofs.YtbeeaekepmnfhaaGreatDoor.h2c
open Go Go.Eng Go.RowKit Cr fp2 Rg Fd
theorem fT (y:Fp):(fp.aT (y*y)).2=true:=by
 by_cases hy:y=0
 ·rw[hy,mul_zero];exact fp2.Am
 ·unfold fp.aT
  have e:jG (y*y) fp.oh*jG (y*y) fp.oh=y*y:=by
   have hf:=Es hy
   rw[ti] at hf ⊢
   rw[<- Ab,<- zpow_add]
   have en:2*fp.oh.toNat+2*fp.oh.toNat=(4002409555221667393417789825735904156556882819939007885332058136124031650490837864442687629129015664037894272559785:Int).toNat+1+1+1:=Odt (by kernel_rfl)
   rw[en]
   generalize (4002409555221667393417789825735904156556882819939007885332058136124031650490837864442687629129015664037894272559785:Int).toNat=m at *
   show zpow y m*y*y*y=y*y
   rw[mul_comm (zpow y m) y,hf,one_mul]
  rw[if_pos e]
theorem Br (z:F2):(fp2.bF (z*z)).2=true:=by
 obtain⟨c,d⟩:=z
 have e1:(((c,d):F2)*(c,d)).1=c*c-d*d:=F2.mC _ _
 have e2:(((c,d):F2)*(c,d)).2=c*d+d*c:=F2.gK _ _
 by_cases hb:(((c,d):F2)*(c,d)).2=0
 ·rw[fp2.bF,if_pos hb]
  by_cases h1:(fp.aT (((c,d):F2)*(c,d)).1).2=true
  ·rw[if_pos h1]
  ·rw[if_neg h1]
   show (fp.aT (-(((c,d):F2)*(c,d)).1)).2=true
   rw[e1] at h1 ⊢
   rw[e2,mul_comm d c] at hb
   rcases mul_eq_zero (j8 hb) with h|h
   ·rw[h,q_8,neg_neg];exact fT d
   ·rw[h,mul_zero,sub_def,neg_zero,add_zero] at h1
    exact absurd (fT c) h1
 ·rw[fp2.bF,if_neg hb,e1,e2,q_5,if_pos (fT _)]
  have hn:=fp2.lO (fT (c*c+d*d))
  generalize (fp.aT ((c*c+d*d)*(c*c+d*d))).1=n at *
  rcases CQ hn with h|h
  ·rw[h,q_6,if_pos (fT _)]
  ·by_cases h2:(fp.aT (c*c-d*d+n+(c*c-d*d+n))).2=true
   ·rw[if_pos h2]
   ·rw[if_neg h2]
    show (fp.aT (c*c-d*d-n+(c*c-d*d-n))).2=true
    rw[h,q_7]
    exact fT _
theorem ON {x y:F2} (h:y*y=hq x cG):(qv x).2=true:=by rw[qv,<- h];exact Br y
theorem OO {x:F2} (h:(qv x).2=true):(qv x).1*(qv x).1=hq x cG:=Ig h
theorem Zy:inv2 0=0:=by
 rw[A4]
 refine F2.ext ?_ ?_
 ·show (0:Fp)*_=0
  rw[zero_mul]
 ·show -(0:Fp)*_=0
  rw[neg_zero,zero_mul]
theorem GK {x:F2} (h:x≠0):x*inv2 x=1:=mul_inv (F:=F2) x h
theorem Zz {x y:F2} (h:y*x=1):inv2 x=y:=by
 have hx:x≠0:=fun e=>by
  rw[e,mul_zero] at h
  exact absurd (congrArg Prod.fst h) (by decide)
 refine mul_left hx ?_
 rw[GK hx,mul_comm x y,h]
theorem ZR (u:F2):(qv (oJ u)).2=true\/(qv (oJ u*(cz*(u*u)))).2=true:=by
 by_cases h:∃ y:F2,y*y=hq (oJ u) cG
 ·obtain⟨y,hy⟩:=h
  exact .inl (ON hy)
 ·right
  have hn:∀ y:F2,y*y≠hq (oJ u) cG:=fun y e=>h ⟨y,e⟩
  by_cases hd:inv2 (cz*(u*u)*(cz*(u*u))+cz*(u*u))=0
  ·exfalso
   obtain⟨y,hy⟩:=af9
   refine hn y ?_
   rw[oJ,if_pos hd];exact hy
  ·have ht:cz*(u*u)*(cz*(u*u))+cz*(u*u)≠0:=fun e=>hd (by rw[e];exact Zy)
   obtain⟨y,hy⟩:=abf (u:=u) (t:=cz*(u*u)) (d:=inv2 (cz*(u*u)*(cz*(u*u))+cz*(u*u))) (x:=oJ u) rfl (by rw[mul_comm];exact GK ht) (by rw[oJ,if_neg hd];rfl) hn
   exact ON hy
theorem VB (u y:F2):um u y*um u y=y*y:=by
 rw[um]
 by_cases h:gg y=gg u
 ·rw[if_pos h]
 ·rw[if_neg h,neg_mul,mul_neg,neg_neg]
theorem U0 {x y:F2} (h:y*y=hq x cG):aV tb (gj x y):=by
 rw[gj,ay]
 by_cases hz:hq x cU*hq x cB=0
 ·rw[if_pos hz];exact .inl rfl
 ·rw[if_neg hz];exact .inr (ZE h (GK hz))
theorem Pg (u:F2):∃ x y:F2,y*y=hq x cG/\fq u=gj x (um u y)/\fq (-u)=gj x (um (-u) y):=by
 have e1 : -u * -u=u*u:=by rw[neg_mul,mul_neg,neg_neg]
 have e2:oJ (-u)=oJ u:=by rw[oJ,oJ,e1]
 by_cases h:(qv (oJ u)).2=true
 ·refine⟨oJ u,(qv (oJ u)).1,OO h,?_,?_⟩
  ·rw[fq,ay,E5,if_pos h]
  ·rw[fq,ay,e2,E5,if_pos h]
 ·have h2:=(ZR u).resolve_left h
  refine⟨oJ u*(cz*(u*u)),(qv (oJ u*(cz*(u*u)))).1,OO h2,?_,?_⟩
  ·rw[fq,ay,E5,if_neg h]
  ·rw[fq,ay,e2,e1,E5,if_neg h]
theorem pG (u:F2):aV tb (fq u):=by
 obtain⟨x,y,h,e,_⟩:=Pg u
 rw[e]
 exact U0 (by rw[VB,h])
noncomputable def eqv (a b:V2):Bool:=cJ.isz (fF a b)
theorem Yo {a b:V2} (h:eqv a b=true):q2 a=q2 b:=by
 have h1:q2 (fF a b)=0:=(cJ.isz_φ _).1 h
 rw[mJ] at h1
 exact bq h1
theorem aau:q2 (1,0)=1:=rfl
end Go.Proofs.YtbeeaekepmnfhaaGreatDoor.h2c
namespace Go.Proofs.YtbeeaekepmnfhaaGreatDoor.xmd
open Go Go.Eng Go.RowKit Cr sha
noncomputable def Co (E:List Int) (i:Nat):F2:=(zm (num ((E.drop (128*i)).take 64)),zm (num ((E.drop (128*i+64)).take 64)))
noncomputable def uo (m t:List Int) (n:Nat):List F2:=cr ((List.range n).map (Co (lu m t (128*(n:Int)))))
theorem Sg (m t:List Int) (n:Nat):(uo m t n).length=n:=by rw[uo,ay,List.length_map,List.length_range]
theorem Sh (m t:List Int):uo m t 2=[Co (lu m t 256) 0,Co (lu m t 256) 1]:=by rw[uo,ay];rfl
end Go.Proofs.YtbeeaekepmnfhaaGreatDoor.xmd
open Go.IntKind(i64)
namespace Go.Proofs.YtbeeaekepmnfhaaGreatDoor.xmd
noncomputable section
open Go Go.Eng Go.RowKit Cr sha
abbrev f2:Kd:=fp2.f2
def Us:Nat × Eng.Spec:=(152,mc db [ij,ij,.int .i64] [.val (.sl bK),.val (.int .i64)] tK (fun (m,t,n,_)=>((kz m t n).1,(kz m t n).2,())))
theorem YK:aB Tryz.prog 152 [ij,ij,.int .i64] [.val (.sl bK),.val (.int .i64)] db tK (fun (m,t,n,_)=>((kz m t n).1,(kz m t n).2,())):=Ou.Y3
def lQ (m t:List Int) (n:Int):List F2 × Int:=match decide (n<0)||decide (n>63) with
 | true=>([],1)
 | false=>(uo m t n.toNat,0)
theorem IT:enters Tryz.prog 107 Tryz.f107:=ek
theorem X8 (L:List Int):Bs (iM L):=by
 rw[iM,ay,LZ,DQ]
 intro x hx
 obtain⟨i,_,rfl⟩:=List.mem_map.1 hx
 generalize (Int.fdiv _ _)=y
 simp[IntKind.wrap,IntKind.signed,IntKind.bits]
 omega
theorem Oh (f t:List Int):∀ i,Bs (uW f t i).1
 | 0=>fun x hx=>by cases hx
 | i+1=>by
  show Bs ((uW f t i).1++Cp f t i (uW f t i).2)
  intro x hx
  rcases List.mem_append.1 hx with h|h
  ·exact Oh f t i x h
  ·exact X8 _ x h
theorem Vx (m t:List Int) (n:Int):Bs (lu m t n):=by
 rw[lu,ay,L9]
 intro x hx
 exact Oh _ _ _ x (List.mem_of_mem_take hx)
theorem abC (E:List Int) (k:Nat):List.take 64 (List.take 128 (List.drop (128*k) E))=List.take 64 (List.drop (128*k) E):=by
 rw[List.take_take];rfl
theorem abD (E:List Int) (k:Nat):List.take 64 (List.drop 64 (List.take 128 (List.drop (128*k) E)))=List.take 64 (List.drop (128*k+64) E):=by
 rw[List.drop_take,List.take_take,List.drop_drop];rfl
def EL (E:List Int) (n k:Nat):List F2:=(List.range k).map (Co E)++List.replicate (n-k) ((0:Fp),(0:Fp))
theorem Se {E:List Int} {n k:Nat} (h:k<n):(EL E n k).set k (Co E k)=EL E n (k+1):=by
 unfold EL
 rw[List.set_append_right _ _ (by simp),List.range_succ]
 have e:n-k=(n-(k+1))+1:=by omega
 have e2:k-((List.range k).map (Co E)).length=0:=by simp
 rw[e2,e,List.replicate_succ,List.set_cons_zero,List.map_append,List.append_assoc]
 simp
def KH (E:List Int) (n:Int) (g:Int × List F2):St:=aY Tryz.f107.ntmps 208 [(8,.is (.one (.ro bK E))),(10,.is (.one (.sl 168 0 0 n.toNat 12))),(33,sI .i64 n.toNat),(34,sI .i64 g.1)] [(168,[.row f2 n.toNat g.2])]
theorem Mf:aB Tryz.prog 107 [ij,ij,.int .i64] [.own f2,.val (.int .i64)] db tK (fun (m,t,n,_)=>((lQ m t n).1,(lQ m t n).2,())):=by
 have hsp:aN Tryz.prog (aF [Us,fp.yS]):=ai (B5 YK) (ai (ak fp.DC) aR)
 refine bh (sp:=aF [Us,fp.yS]) IT (by decide) (by decide) (by kernel_rfl) ?_
 rintro w M0 ⟨m,t,n,⟨⟩⟩
 revert m t n
 intro (m:List Int) (t:List Int) (n:Int) hw hp
 have hm:m.length<=1048576:=hp.1
 have ht:t.length<=1048576:=hp.2
 show Tr _ _ _ _ _ _ _
 refine eB hsp mixed 8 (fun σ=>KW bK 8 σ) (fun E=>KH E n (0,List.replicate n.toNat ((0:Fp),(0:Fp)))) (fun E=>E=lu m t (128*n)/\0<=n/\n<=63) ?_ ?_
 ·refine ao (X:=((decide (n<0)=true->([],1,())=((lQ m t n).fst,(lQ m t n).snd,()))/\(decide (n<0)=false->(decide (n>63)=true->([],1,())=((lQ m t n).fst,(lQ m t n).snd,()))/\(decide (n>63)=false->(∀ (g:Nat) (s:Sigma au),db g=some s->Decidable.rec (fun h=>(fun x=>if g=1 then some ⟨Kd.arr 64 uK,dQ⟩ else none) h) (fun h=>(fun x=>some ⟨Kd.arr 8 uK,cw⟩) h) (instDecidableEqNat g 0)=some s)/\tK (m,t,i64.wrap (128*n),())/\(((kz m t (i64.wrap (128*n))).snd != 0)=true->([],(kz m t (i64.wrap (128*n))).snd,())=((lQ m t n).fst,(lQ m t n).snd,()))/\(((kz m t (i64.wrap (128*n))).snd != 0)=false->(0<=n/\n<=n/\(↑(96:Nat):Int)*n<=281474976710656/\n<=9223372036854775807)/\(KH ((kz m t (i64.wrap (128*n))).fst,(kz m t (i64.wrap (128*n))).snd,()).fst n (0,List.replicate n.toNat ((0:Fp),(0:Fp)))).ah ((kz m t (i64.wrap (128*n))).fst=lu m t (128*n)/\0<=n/\n<=63)))))) (by kernel_rfl) ?_
  refine⟨fun h=>by rw[lQ,h];rfl,fun h=>⟨fun h2=>by rw[lQ,h,h2];rfl,fun h2=>?_⟩⟩
  have hn0:0<=n:=by have:=Odf h;omega
  have hn1:n<=63:=by have:=Odf h2;omega
  have e1:i64.wrap (128*n)=128*n:=aG (by omega) (by omega)
  have eA:kz m t (128*n)=(lu m t (128*n),0):=by
   rw[kz,decide_eq_false (by omega),decide_eq_false (by omega)];rfl
  rw[e1,eA]
  exact⟨fun _ _ h=>h,⟨hm,ht⟩,fun h=>by simp at h,fun _=>⟨⟨hn0,Int.le_refl _,by omega,by omega⟩,aA ⟨rfl,hn0,hn1⟩⟩⟩
 rintro E ⟨hE,hn0,hn1⟩
 revert E
 intro (E:List Int) (hE:E=lu m t (128*n))
 have hl:E.length=128*n.toNat:=by rw[hE,Rx];omega
 refine bO hsp mixed dA (fun σ=>(bU (.int .i64) 34 σ,cN f2 168 σ)) (KH E n) (fun g=>∃ k:Nat,k<=n.toNat/\g.1=(k:Int)/\g.2=EL E n.toNat k) (fun g=>n.toNat-g.1.toNat)
  (fun σ=>(bU (.int .i64) 34 σ,cN f2 168 σ)) (KH E n) (fun g=>g.2=uo m t n.toNat) (0,List.replicate n.toNat ((0:Fp),(0:Fp))) (c:=aI (aJ Tryz.f107) 8) (by kernel_rfl) (by kernel_rfl) (aC (by kernel_rfl) (by kernel_rfl) ?_) ?_ ?_
 ·exact⟨0,Nat.zero_le _,rfl,by simp[EL]⟩
 ·rintro⟨i,l⟩ hj
  revert i l
  intro (i:Int) (l:List F2) ⟨k,hk,ei,el⟩
  have ei:i=(k:Int):=ei
  have kl:l=EL E n.toNat k:=el
  subst ei
  have e1:i64.wrap (128*(k:Int))=((128*k:Nat):Int):=by rw[aG (by omega) (by omega)];omega
  have e2:i64.wrap ((k:Int)+1)=((k+1:Nat):Int):=aQ (by omega)
  have e3:i64.wrap (128*((k+1:Nat):Int))=((128*k+128:Nat):Int):=by rw[aG (by omega) (by omega)];omega
  have e4:(((128*k+128:Nat):Int)-((128*k:Nat):Int)).toNat=128:=by omega
  refine ao (X:=((decide ((k:Int)<(n.toNat:Int))=true->(0<=i64.wrap (128*(k:Int))/\i64.wrap (128*(k:Int))<=i64.wrap (128*i64.wrap ((k:Int)+1))/\i64.wrap (128*i64.wrap ((k:Int)+1))<=(E.length:Int))/\((0:Int)<=64/\64<=(↑(List.take (i64.wrap (128*i64.wrap ((k:Int)+1))-i64.wrap (128*(k:Int))).toNat (List.drop (i64.wrap (128*(k:Int))).toNat E)).length:Int))/\fp.mo (List.take 64 (List.take (i64.wrap (128*i64.wrap ((k:Int)+1))-i64.wrap (128*(k:Int))).toNat (List.drop (i64.wrap (128*(k:Int))).toNat E)),())/\((0:Int)<=64/\64<=(↑(List.take (i64.wrap (128*i64.wrap ((k:Int)+1))-i64.wrap (128*(k:Int))).toNat (List.drop (i64.wrap (128*(k:Int))).toNat E)).length:Int))/\fp.mo (List.take ((↑(List.take (i64.wrap (128*i64.wrap ((k:Int)+1))-i64.wrap (128*(k:Int))).toNat (List.drop (i64.wrap (128*(k:Int))).toNat E)).length:Int)-64).toNat (List.drop 64 (List.take (i64.wrap (128*i64.wrap ((k:Int)+1))-i64.wrap (128*(k:Int))).toNat (List.drop (i64.wrap (128*(k:Int))).toNat E))),())/\(0<=(k:Int)/\(k:Int)<(n.toNat:Int))/\(k:Int).toNat<n.toNat/\(KH E n (i64.wrap ((k:Int)+1),l.set (k:Int).toNat (aj (num (List.take 64 (List.take (i64.wrap (128*i64.wrap ((k:Int)+1))-i64.wrap (128*(k:Int))).toNat (List.drop (i64.wrap (128*(k:Int))).toNat E)))),aj (num (List.take ((↑(List.take (i64.wrap (128*i64.wrap ((k:Int)+1))-i64.wrap (128*(k:Int))).toNat (List.drop (i64.wrap (128*(k:Int))).toNat E)).length:Int)-64).toNat (List.drop 64 (List.take (i64.wrap (128*i64.wrap ((k:Int)+1))-i64.wrap (128*(k:Int))).toNat (List.drop (i64.wrap (128*(k:Int))).toNat E)))))))).ah ((∃ cE,cE<=n.toNat/\i64.wrap ((k:Int)+1)=(cE:Int)/\l.set (k:Int).toNat (aj (num (List.take 64 (List.take (i64.wrap (128*i64.wrap ((k:Int)+1))-i64.wrap (128*(k:Int))).toNat (List.drop (i64.wrap (128*(k:Int))).toNat E)))),aj (num (List.take ((↑(List.take (i64.wrap (128*i64.wrap ((k:Int)+1))-i64.wrap (128*(k:Int))).toNat (List.drop (i64.wrap (128*(k:Int))).toNat E)).length:Int)-64).toNat (List.drop 64 (List.take (i64.wrap (128*i64.wrap ((k:Int)+1))-i64.wrap (128*(k:Int))).toNat (List.drop (i64.wrap (128*(k:Int))).toNat E))))))=EL E n.toNat cE)/\n.toNat-(i64.wrap ((k:Int)+1)).toNat<n.toNat-(k:Int).toNat))/\(decide ((k:Int)<(n.toNat:Int))=false->(KH E n ((k:Int),l)).ah (l=uo m t n.toNat)))) (by kernel_rfl) ?_
  rw[e1,e2,e3,e4]
  simp only[Int.toNat_natCast]
  refine⟨fun h=>?_,fun h=>aA ?_⟩
  ·have hlt:k<n.toNat:=by have:=Odt h;omega
   have lp:(List.take 128 (List.drop (128*k) E)).length=128:=by rw[List.length_take,List.length_drop];omega
   rw[lp]
   have e5:(((128:Nat):Int)-64).toNat=64:=rfl
   rw[e5,abC,abD]
   have hb:=Vx m t (128*n)
   rw[<- hE] at hb
   have pw:∀ a:Nat,fp.mo (List.take 64 (List.drop a E),()):=fun a=>⟨fun x hx=>hb x (List.mem_of_mem_drop (List.mem_of_mem_take hx)),by
    show (List.take 64 (List.drop a E)).length<_
    rw[List.length_take];omega⟩
   refine⟨⟨by omega,by omega,by omega⟩,⟨by decide,by decide⟩,pw _,⟨by decide,by decide⟩,pw _,⟨by omega,by omega⟩,hlt,aA ⟨⟨k+1,hlt,rfl,?_⟩,?_⟩⟩
   ·show l.set k (Co E k)=_
    rw[kl,Se hlt]
   ·show n.toNat-((k+1:Nat):Int).toNat<n.toNat-(k:Int).toNat
    rw[Int.toNat_natCast,Int.toNat_natCast];omega
  ·have hk':k=n.toNat:=by have:=Odf h;omega
   show l=_
   rw[kl,hk',EL,Nat.sub_self,List.replicate_zero,List.append_nil,uo,ay,hE]
   have e6:128*(n.toNat:Int)=128*n:=by omega
   rw[e6]
 rintro⟨i,l⟩ hj
 revert i l
 intro (i:Int) (l:List F2) (hj:l=uo m t n.toNat)
 refine bf hsp mixed _ _ ?_
 refine ao (X:=(0+n.toNat<=n.toNat/\(List.take n.toNat l,0,())=((lQ m t n).fst,(lQ m t n).snd,()))) (by kernel_rfl) ?_
 have eN:lQ m t n=(uo m t n.toNat,0):=by
  rw[lQ,decide_eq_false (by omega),decide_eq_false (by omega)];rfl
 rw[eN,hj,List.take_of_length_le (by rw[Sg];exact Nat.le_refl _)]
 exact⟨by omega,rfl⟩
end
end Go.Proofs.YtbeeaekepmnfhaaGreatDoor.xmd
namespace Go.Proofs.YtbeeaekepmnfhaaGreatDoor.tower
noncomputable section
open Go Go.Eng Go.RowKit Cr fp2
abbrev dT:Kd:=.pair f2 (.pair f2 f2)
abbrev bC:Kd:=.pair dT dT
theorem Rw:enters Tryz.prog 212 Tryz.f212:=ek
abbrev DY:HL [f2]->HO [.val f2]:=fun (x,_)=>(xi*(x:F2),())
theorem zv:aB Tryz.prog 212 [f2] [.val f2] aM (fun _=>True) DY:=by
 refine ax (sp:=aF [fp.iI,fp.cv]) (ai (ak fp.gn) (ai (ak fp.cC) aR)) mixed Rw (by decide) (by decide) ?_
 rintro w M0 ⟨x,⟨⟩⟩
 revert x
 intro (x:F2) _ _
 refine ao (X:=(True/\True/\((x.fst-x.snd,x.fst+x.snd),())=DY (x,()))) (by kernel_rfl) ?_
 repeat refine⟨trivial,?_⟩
 show _=(xi*x,())
 rw[QF]
def CP:Nat × Eng.Spec:=(212,ar [f2] [.val f2] (fun _=>True) DY)
theorem Q5:enters Tryz.prog 205 Tryz.f205:=ek
abbrev DR:HL [dT,dT]->HO [.val dT]:=fun (x,y,_)=>((x:F6)+(y:F6),())
theorem Dy:aB Tryz.prog 205 [dT,dT] [.val dT] aM (fun _=>True) DR:=by
 refine ax (sp:=aF [fp2.cv]) (ai (ak fp2.cC) aR) mixed Q5 (by decide) (by decide) ?_
 rintro w M0 ⟨x,y,⟨⟩⟩
 revert x y
 intro (x:F6) (y:F6) _ _
 refine ao (X:=(True/\True/\True/\((x.fst+y.fst,x.snd.fst+y.snd.fst,x.snd.snd+y.snd.snd),())=DR (x,y,()))) (by kernel_rfl) ?_
 repeat refine⟨trivial,?_⟩
 show _=(x+y,())
 rw[F6.add_def]
def H5:Nat × Eng.Spec:=(205,ar [dT,dT] [.val dT] (fun _=>True) DR)
theorem Ra:enters Tryz.prog 203 Tryz.f203:=ek
abbrev DU:HL [dT,dT]->HO [.val dT]:=fun (x,y,_)=>((x:F6)-(y:F6),())
theorem u5:aB Tryz.prog 203 [dT,dT] [.val dT] aM (fun _=>True) DU:=by
 refine ax (sp:=aF [fp2.iI]) (ai (ak fp2.gn) aR) mixed Ra (by decide) (by decide) ?_
 rintro w M0 ⟨x,y,⟨⟩⟩
 revert x y
 intro (x:F6) (y:F6) _ _
 refine ao (X:=(True/\True/\True/\((x.fst-y.fst,x.snd.fst-y.snd.fst,x.snd.snd-y.snd.snd),())=DU (x,y,()))) (by kernel_rfl) ?_
 repeat refine⟨trivial,?_⟩
 show _=(x-y,())
 rw[F6.sub_def]
def yL:Nat × Eng.Spec:=(203,ar [dT,dT] [.val dT] (fun _=>True) DU)
theorem qu:enters Tryz.prog 206 Tryz.f206:=ek
abbrev Bd:HL [dT]->HO [.val dT]:=fun (x,_)=>(vv*(x:F6),())
theorem iS:aB Tryz.prog 206 [dT] [.val dT] aM (fun _=>True) Bd:=by
 refine ax (sp:=aF [CP]) (ai (ak zv) aR) mixed qu (by decide) (by decide) ?_
 rintro w M0 ⟨x,⟨⟩⟩
 revert x
 intro (x:F6) _ _
 refine ao (X:=(True/\((xi*x.snd.snd,x.fst,x.snd.fst),())=Bd (x,()))) (by kernel_rfl) ?_
 repeat refine⟨trivial,?_⟩
 show _=(vv*x,())
 rw[CY]
def iQ:Nat × Eng.Spec:=(206,ar [dT] [.val dT] (fun _=>True) Bd)
theorem Q8:enters Tryz.prog 204 Tryz.f204:=ek
abbrev DT:HL [dT,dT]->HO [.val dT]:=fun (x,y,_)=>((x:F6)*(y:F6),())
theorem Dz:aB Tryz.prog 204 [dT,dT] [.val dT] aM (fun _=>True) DT:=by
 refine ax (sp:=aF [fp2.cK,fp2.cv,fp2.iI,CP]) (ai (ak fp2.cL) (ai (ak fp2.cC) (ai (ak fp2.gn) (ai (ak zv) aR)))) mixed Q8 (by decide) (by decide) ?_
 rintro w M0 ⟨x,y,⟨⟩⟩
 revert x y
 intro (x:F6) (y:F6) _ _
 refine ao (X:=(True/\True/\True/\True/\True/\True/\True/\True/\True/\True/\True/\True/\True/\True/\True/\True/\True/\True/\True/\True/\True/\True/\True/\((x.fst*y.fst+xi*((x.snd.fst+x.snd.snd)*(y.snd.fst+y.snd.snd)-x.snd.fst*y.snd.fst-x.snd.snd*y.snd.snd),(x.fst+x.snd.fst)*(y.fst+y.snd.fst)-x.fst*y.fst-x.snd.fst*y.snd.fst+xi*(x.snd.snd*y.snd.snd),(x.fst+x.snd.snd)*(y.fst+y.snd.snd)-x.fst*y.fst-x.snd.snd*y.snd.snd+x.snd.fst*y.snd.fst),())=DT (x,y,()))) (by kernel_rfl) ?_
 repeat refine⟨trivial,?_⟩
 exact congrArg (fun t:F6=>(t,())) (Qz x y)
def H7:Nat × Eng.Spec:=(204,ar [dT,dT] [.val dT] (fun _=>True) DT)
theorem Rp:enters Tryz.prog 209 Tryz.f209:=ek
abbrev DX:HL [dT,f2,f2]->HO [.val dT]:=fun (x,a,b,_)=>((x:F6)*((a,b,(0:F2)):F6),())
theorem VS:aB Tryz.prog 209 [dT,f2,f2] [.val dT] aM (fun _=>True) DX:=by
 refine ax (sp:=aF [fp2.cK,fp2.cv,fp2.iI,CP]) (ai (ak fp2.cL) (ai (ak fp2.cC) (ai (ak fp2.gn) (ai (ak zv) aR)))) mixed Rp (by decide) (by decide) ?_
 rintro w M0 ⟨x,a,b,⟨⟩⟩
 revert x a b
 intro (x:F6) (a:F2) (b:F2) _ _
 refine ao (X:=(True/\True/\True/\True/\True/\True/\True/\True/\True/\True/\True/\True/\((x.fst*a+xi*(x.snd.snd*b),(x.fst+x.snd.fst)*(a+b)-x.fst*a-x.snd.fst*b,x.snd.fst*b+x.snd.snd*a),())=DX (x,a,b,()))) (by kernel_rfl) ?_
 repeat refine⟨trivial,?_⟩
 exact congrArg (fun t:F6=>(t,())) (Xr x a b)
def aba:Nat × Eng.Spec:=(209,ar [dT,f2,f2] [.val dT] (fun _=>True) DX)
theorem xS:enters Tryz.prog 210 Tryz.f210:=ek
abbrev na:HL [dT,f2]->HO [.val dT]:=fun (x,k,_)=>((x:F6)*((k,(0:F2),(0:F2)):F6),())
theorem m6:aB Tryz.prog 210 [dT,f2] [.val dT] aM (fun _=>True) na:=by
 refine ax (sp:=aF [fp2.cK]) (ai (ak fp2.cL) aR) mixed xS (by decide) (by decide) ?_
 rintro w M0 ⟨x,k,⟨⟩⟩
 revert x k
 intro (x:F6) (k:F2) _ _
 refine ao (X:=(True/\True/\True/\((x.fst*k,x.snd.fst*k,x.snd.snd*k),())=na (x,k,()))) (by kernel_rfl) ?_
 repeat refine⟨trivial,?_⟩
 exact congrArg (fun t:F6=>(t,())) (Iv x k)
def pY:Nat × Eng.Spec:=(210,ar [dT,f2] [.val dT] (fun _=>True) na)
theorem Q6:enters Tryz.prog 207 Tryz.f207:=ek
abbrev DS:HL [dT]->HO [.val dT]:=fun (x,_)=>(Fd.inv (x:F6),())
theorem VE:aB Tryz.prog 207 [dT] [.val dT] aM (fun _=>True) DS:=by
 refine ax (sp:=aF [fp2.bJ,fp2.cK,fp2.iI,fp2.cv,CP,fp2.mS,pY]) (ai (ak fp2.b9) (ai (ak fp2.cL) (ai (ak fp2.gn) (ai (ak fp2.cC) (ai (ak zv) (ai (ak fp2.ke) (ai (ak m6) aR))))))) mixed Q6 (by decide) (by decide) ?_
 rintro w M0 ⟨x,⟨⟩⟩
 revert x
 intro (x:F6) _ _
 refine ao (X:=(True/\True/\True/\True/\True/\True/\True/\True/\True/\True/\True/\True/\True/\True/\True/\True/\True/\True/\True/\((x.fst*x.fst-xi*(x.snd.fst*x.snd.snd),xi*(x.snd.snd*x.snd.snd)-x.fst*x.snd.fst,x.snd.fst*x.snd.fst-x.fst*x.snd.snd)*(inv2 (x.fst*(x.fst*x.fst-xi*(x.snd.fst*x.snd.snd))+xi*(x.snd.snd*(xi*(x.snd.snd*x.snd.snd)-x.fst*x.snd.fst)+x.snd.fst*(x.snd.fst*x.snd.fst-x.fst*x.snd.snd))),(0:F2),(0:F2)),())=DS (x,()))) (by kernel_rfl) ?_
 repeat refine⟨trivial,?_⟩
 exact congrArg (fun t:F6=>(t,())) (abk x)
def aa1:Nat × Eng.Spec:=(207,ar [dT] [.val dT] (fun _=>True) DS)
theorem uT:enters Tryz.prog 145 Tryz.f145:=ek
abbrev Hk:HL []->HO [.val bC]:=fun _=>((1:aE),())
theorem nM:aB Tryz.prog 145 [] [.val bC] aM (fun _=>True) Hk:=by
 refine ax (sp:=aF [fp2.ln]) (ai (ak fp2.lK) aR) mixed uT (by decide) (by decide) ?_
 rintro w M0 ⟨⟩ _ _
 refine ao (X:=((dF 1/\dF 0)/\((((aj 1,aj 0),((0:Fp),(0:Fp)),(0:Fp),(0:Fp)),((0:Fp),(0:Fp)),((0:Fp),(0:Fp)),(0:Fp),(0:Fp)),())=Hk ())) (by kernel_rfl) ?_
 have h1:aj 1=(1:Fp):=Zm.ext (by decide)
 have h0:aj 0=(0:Fp):=Zm.ext (by decide)
 rw[h1,h0]
 exact⟨⟨⟨by decide,by decide⟩,⟨by decide,by decide⟩⟩,rfl⟩
def kS:Nat × Eng.Spec:=(145,ar [] [.val bC] (fun _=>True) Hk)
theorem pk:enters Tryz.prog 181 Tryz.f181:=ek
abbrev iT:HL [bC,bC]->HO [.val bC]:=fun (x,y,_)=>((x:aE)*(y:aE),())
theorem cL:aB Tryz.prog 181 [bC,bC] [.val bC] aM (fun _=>True) iT:=by
 refine ax (sp:=aF [H7,H5,yL,iQ]) (ai (ak Dz) (ai (ak Dy) (ai (ak u5) (ai (ak iS) aR)))) mixed pk (by decide) (by decide) ?_
 rintro w M0 ⟨x,y,⟨⟩⟩
 revert x y
 intro (x:aE) (y:aE) _ _
 refine ao (X:=(True/\True/\True/\True/\True/\True/\True/\True/\True/\((x.fst*y.fst+vv*(x.snd*y.snd),(x.fst+x.snd)*(y.fst+y.snd)-x.fst*y.fst-x.snd*y.snd),())=iT (x,y,()))) (by kernel_rfl) ?_
 repeat refine⟨trivial,?_⟩
 exact congrArg (fun t:aE=>(t,())) (Lr x y)
def cK:Nat × Eng.Spec:=(181,ar [bC,bC] [.val bC] (fun _=>True) iT)
theorem kK:enters Tryz.prog 186 Tryz.f186:=ek
abbrev e9:HL [bC]->HO [.val bC]:=fun (x,_)=>((x:aE)*(x:aE),())
theorem b9:aB Tryz.prog 186 [bC] [.val bC] aM (fun _=>True) e9:=by
 refine ax (sp:=aF [H7,H5,yL,iQ]) (ai (ak Dz) (ai (ak Dy) (ai (ak u5) (ai (ak iS) aR)))) mixed kK (by decide) (by decide) ?_
 rintro w M0 ⟨x,⟨⟩⟩
 revert x
 intro (x:aE) _ _
 refine ao (X:=(True/\True/\True/\True/\True/\True/\True/\True/\True/\(((x.fst+x.snd)*(x.fst+vv*x.snd)-x.fst*x.snd-vv*(x.fst*x.snd),x.fst*x.snd+x.fst*x.snd),())=e9 (x,()))) (by kernel_rfl) ?_
 repeat refine⟨trivial,?_⟩
 exact congrArg (fun t:aE=>(t,())) (Qy x)
def bJ:Nat × Eng.Spec:=(186,ar [bC] [.val bC] (fun _=>True) e9)
theorem AN:enters Tryz.prog 180 Tryz.f180:=ek
abbrev rB:HL [bC]->HO [.val bC]:=fun (x,_)=>(r6 x,())
theorem u4:aB Tryz.prog 180 [bC] [.val bC] aM (fun _=>True) rB:=by
 refine ax (sp:=aF [yL]) (ai (ak u5) aR) mixed AN (by decide) (by decide) ?_
 rintro w M0 ⟨x,⟨⟩⟩
 revert x
 intro (x:aE) _ _
 refine ao (X:=(True/\((x.fst,(((0:Fp),(0:Fp)),((0:Fp),(0:Fp)),(0:Fp),(0:Fp))-x.snd),())=rB (x,()))) (by kernel_rfl) ?_
 repeat refine⟨trivial,?_⟩
 exact congrArg (fun t:aE=>(t,())) (Xo x)
theorem ph:enters Tryz.prog 182 Tryz.f182:=ek
abbrev jz:HL [bC]->HO [.val bC]:=fun (x,_)=>(Fd.inv (x:aE),())
theorem ke:aB Tryz.prog 182 [bC] [.val bC] aM (fun _=>True) jz:=by
 refine ax (sp:=aF [H7,yL,iQ,aa1]) (ai (ak Dz) (ai (ak u5) (ai (ak iS) (ai (ak VE) aR)))) mixed ph (by decide) (by decide) ?_
 rintro w M0 ⟨x,⟨⟩⟩
 revert x
 intro (x:aE) _ _
 refine ao (X:=(True/\True/\True/\True/\True/\True/\True/\True/\((x.fst*Fd.inv (x.fst*x.fst-vv*(x.snd*x.snd)),(((0:Fp),(0:Fp)),((0:Fp),(0:Fp)),(0:Fp),(0:Fp))-x.snd*Fd.inv (x.fst*x.fst-vv*(x.snd*x.snd))),())=jz (x,()))) (by kernel_rfl) ?_
 repeat refine⟨trivial,?_⟩
 exact congrArg (fun t:aE=>(t,())) (Xp x)
theorem Rj:enters Tryz.prog 188 Tryz.f188:=ek
abbrev DV:HL [bC,f2,f2,f2]->HO [.val bC]:=fun (x,a,b,c,_)=>((x:aE)*dN a b c,())
theorem VN:aB Tryz.prog 188 [bC,f2,f2,f2] [.val bC] aM (fun _=>True) DV:=by
 refine ax (sp:=aF [aba,pY,iQ,H5,yL,fp2.cv]) (ai (ak VS) (ai (ak m6) (ai (ak iS) (ai (ak Dy) (ai (ak u5) (ai (ak fp2.cC) aR)))))) mixed Rj (by decide) (by decide) ?_
 rintro w M0 ⟨x,a,b,c,⟨⟩⟩
 revert x a b c
 intro (x:aE) (a:F2) (b:F2) (c:F2) _ _
 refine ao (X:=(True/\True/\True/\True/\True/\True/\True/\True/\True/\True/\((x.fst*(a,b,(0:F2))+vv*(vv*(x.snd*(c,(0:F2),(0:F2)))),(x.fst+x.snd)*(a,b+c,(0:F2))-x.fst*(a,b,(0:F2))-vv*(x.snd*(c,(0:F2),(0:F2)))),())=DV (x,a,b,c,()))) (by kernel_rfl) ?_
 repeat refine⟨trivial,?_⟩
 exact congrArg (fun t:aE=>(t,())) (Xq x a b c)
def Qg:Nat × Eng.Spec:=(188,ar [bC,f2,f2,f2] [.val bC] (fun _=>True) DV)
end
end Go.Proofs.YtbeeaekepmnfhaaGreatDoor.tower
open Go.IntKind(i64)
namespace Go.Proofs.YtbeeaekepmnfhaaGreatDoor.tower
noncomputable section
open Go Go.Eng Go.RowKit Cr fp2
def tp (e:Nat):Fp:=zpow (1+1:Fp) e
theorem adp (e:Nat):tp e*tp e=tp (2*e):=by rw[tp,tp,<- ud,show e+e=2*e by omega]
theorem Xl (e:Nat):tp e+tp e=tp (e+1):=by
 show tp e+tp e=zpow (1+1:Fp) e*(1+1)
 rw[Rg.mul_add,Rg.mul_one];rfl
theorem WJ (r b:Nat) (hr:r<4294967296) (hb:b<256):av .or .i64 ((r*256:Nat):Int) (b:Int)=((r*256+b:Nat):Int):=by
 have e:((BitVec.ofInt 64 ((r*256:Nat):Int) ||| BitVec.ofInt 64 (b:Int):BitVec 64).toNat)=r*256+b:=by
  rw[BitVec.toNat_or,BitVec.toNat_ofInt,BitVec.toNat_ofInt]
  have h1:(((r*256:Nat):Int)%((2^64:Nat):Int)).toNat=r <<< 8:=by rw[Nat.shiftLeft_eq];omega
  have h2:((b:Int)%((2^64:Nat):Int)).toNat=b:=by omega
  rw[h1,h2,<- Nat.shiftLeft_add_eq_or_of_lt (by omega),Nat.shiftLeft_eq]
 show i64.wrap (((BitVec.ofInt 64 ((r*256:Nat):Int) ||| BitVec.ofInt 64 (b:Int):BitVec 64).toNat:Nat):Int)=_
 rw[e]
 exact aG (by omega) (by omega)
theorem Da (n:Nat) (hn:n<4294967296):av .and .i64 (n:Int) 1=((n%2:Nat):Int):=by
 have e:((BitVec.ofInt 64 (n:Int) &&& BitVec.ofInt 64 1:BitVec 64).toNat)=n%2:=by
  rw[BitVec.toNat_and,BitVec.toNat_ofInt,BitVec.toNat_ofInt]
  have h1:((n:Int)%((2^64:Nat):Int)).toNat=n:=by omega
  have h2:((1:Int)%((2^64:Nat):Int)).toNat=1:=by omega
  rw[h1,h2,Nat.and_one_is_mod]
 show i64.wrap (((BitVec.ofInt 64 (n:Int) &&& BitVec.ofInt 64 1:BitVec 64).toNat:Nat):Int)=_
 rw[e]
 exact aG (by omega) (by omega)
theorem Rr:enters Tryz.prog 158 Tryz.f158:=ek
abbrev fK:List Int:=bL 48 (Zm.v (-(zm 1:Fp)))
theorem KV:List.length fK=48:=cO 48 _
def EV (bs:List Int) (g:Int × Fp × Int):St:=aY Tryz.f158.ntmps 72 [(0,.is (.one (.ptr 0 0))),(1,.is (.one (.ptr 16 0))),(2,sI .i64 g.2.2),(10,sA .u8 48 bs),(11,sI .i64 g.1)] [(16,[.row .fp 1 [g.2.1]]),(0,[.row .fp 1 [(0:Fp)],.row .fp 1 [(0:Fp)]])]
def PW (bs:List Int) (i rest dg:Int) (g:Int × Fp):St:=aY Tryz.f158.ntmps 72 [(0,.is (.one (.ptr 0 0))),(1,.is (.one (.ptr 16 0))),(2,sI .i64 rest),(5,sI .i64 dg),(10,sA .u8 48 bs),(11,sI .i64 i),(23,sI .i64 g.1)] [(16,[.row .fp 1 [g.2]]),(0,[.row .fp 1 [(0:Fp)],.row .fp 1 [(0:Fp)]])]
def rtO (x:Fp):St:=aY Tryz.f158.ntmps 72 [(0,.is (.one (.ptr 0 0))),(1,.is (.one (.ptr 16 0)))] [(16,[.row .fp 1 [x]]),(0,[.row .fp 1 [(0:Fp)],.row .fp 1 [(0:Fp)]])]
def rtJ (bs:List Int) (g:Int × Fp × Int):Prop:=∃ k:Nat,k<=48/\g.1=(k:Int)/\g.2.1=tp (num (bs.take k)/12).toNat/\g.2.2=num (bs.take k)%12
def aU:Fp:=tp (num fK/12).toNat
theorem Ke:aB Tryz.prog 158 [] [.val f2] aM (fun _=>True) (fun _=>((aU,-aU),())):=by
 have hsp:aN Tryz.prog (aF [fp.ly,fp.jb,fp.fw,fp.bJ,fp.cv]):=ai (ak fp.nL) (ai (ak fp.iA) (ai (ak fp.gO) (ai (ak fp.b9) (ai (ak fp.cC) aR))))
 refine bh (sp:=aF [fp.ly,fp.jb,fp.fw,fp.bJ,fp.cv]) Rr (by decide) (by decide) (by kernel_rfl) ?_
 rintro w M0 ⟨⟩ _ _
 show Tr _ _ _ _ _ _ _
 refine aP hsp mixed 3 (EV fK (0,zm 1,0)) True ?_ (fun _=>?_)
 ·refine ao (X:=(dF (1:Int)/\dF (1:Int)/\True/\True/\(EV fK ((0:Int),aj (1:Int),(0:Int))).ah True)) (by kernel_rfl) ?_
  exact⟨⟨by decide,by decide⟩,⟨by decide,by decide⟩,trivial,trivial,aA trivial⟩
 refine fh dA (fun σ=>(bU (.int .i64) 11 σ,ga .fp 16 σ,bU (.int .i64) 2 σ)) (EV fK) (rtJ fK) (fun g=>48-g.1.toNat)
  (fun σ=>ga .fp 16 σ) rtO (fun x=>x=aU) (0,zm 1,0) (c:=aI (aJ Tryz.f158) 3) (by kernel_rfl) (by kernel_rfl) (aC (by kernel_rfl) (by kernel_rfl) ?_) ?_ ?_
 ·refine⟨0,by decide,rfl,?_,rfl⟩
  exact Zm.ext (by decide)
 ·rintro⟨i,x,rest⟩ hj
  revert i x rest
  intro (i:Int) (x:Fp) (rest:Int) ⟨k,hk,ei,ex,er⟩
  have ei:i=(k:Int):=ei
  subst ei
  have hbd:=sn (l:=fK.take k) (fun x hx=>(kt 48 _:Bs fK) x (List.mem_of_mem_take hx))
  refine aP hsp mixed 2 (EV fK ((k:Int),x,rest)) (k<48) ?_ (fun hlt=>?_)
  ·refine ao (X:=((decide ((k:Int)<(48:Int))=true->(EV fK ((k:Int),x,rest)).ah (k<(48:Nat)))/\(decide ((k:Int)<(48:Int))=false->(rtO x).ah (x=aU)))) (by kernel_rfl) ?_
   refine⟨fun h=>aA (by have:=Odt h;omega),fun h=>aA ?_⟩
   have e48:k=48:=by have:=Odf h;omega
   have ex:x=tp (num (fK.take k)/12).toNat:=ex
   rw[ex,e48,List.take_of_length_le (by rw[KV];decide)];rfl
  refine eG (c:=aI (bQ (aI (aJ Tryz.f158) 3)) 2) (by kernel_rfl) (by kernel_rfl) ?_
  have hkl:k<List.length fK:=by rw[KV];exact hlt
  obtain⟨b,hb⟩:∃ b,b=fK.getD k 0:=⟨_,rfl⟩
  have hb0:0<=b/\b<256:=by
   rw[hb];simp only[List.getD_eq_getElem?_getD,List.getElem?_eq_getElem hkl,Option.getD_some]
   exact (kt 48 _:Bs fK) _ (List.getElem_mem hkl)
  refine eB hsp mixed 5 (fun σ=>(bU (.int .i64) 2 σ,bU (.int .i64) 5 σ)) (fun g=>PW fK k g.1 g.2 (0,x)) (fun g=>g.1=(rest*256+b)%12/\g.2=(rest*256+b)/12) ?_ ?_
  ·refine ao (X:=(((0:Int)<=(k:Int)/\(k:Int)<(↑(48:Nat):Int))/\(0:Int)<=(8:Int)/\((12:Int)=(0:Int)->False)/\((12:Int)=(0:Int)->False)/\(PW fK (k:Int) ((av BinOp.or i64 (i64.wrap (rest*(2:Int)^min (8:Nat) i64.bits)) (i64.wrap (fK.getD (k:Int).toNat (0:Int)))).tmod (12:Int),i64.wrap ((av BinOp.or i64 (i64.wrap (rest*(2:Int)^min (8:Nat) i64.bits)) (i64.wrap (fK.getD (k:Int).toNat (0:Int)))).tdiv (12:Int))).fst ((av BinOp.or i64 (i64.wrap (rest*(2:Int)^min (8:Nat) i64.bits)) (i64.wrap (fK.getD (k:Int).toNat (0:Int)))).tmod (12:Int),i64.wrap ((av BinOp.or i64 (i64.wrap (rest*(2:Int)^min (8:Nat) i64.bits)) (i64.wrap (fK.getD (k:Int).toNat (0:Int)))).tdiv (12:Int))).snd ((0:Int),x)).ah ((av BinOp.or i64 (i64.wrap (rest*(2:Int)^min (8:Nat) i64.bits)) (i64.wrap (fK.getD (k:Int).toNat (0:Int)))).tmod (12:Int)=(rest*(256:au (Kd.int i64))+b)%(12:au (Kd.int i64))/\i64.wrap ((av BinOp.or i64 (i64.wrap (rest*(2:Int)^min (8:Nat) i64.bits)) (i64.wrap (fK.getD (k:Int).toNat (0:Int)))).tdiv (12:Int))=(rest*(256:au (Kd.int i64))+b)/(12:au (Kd.int i64))))) (by kernel_rfl) ?_
   have er:rest=num (fK.take k)%12:=er
   have hr0:0<=rest/\rest<12:=by rw[er];omega
   obtain⟨rn,hrn⟩:=Int.eq_ofNat_of_zero_le hr0.1
   obtain⟨bn,hbn⟩:=Int.eq_ofNat_of_zero_le hb0.1
   have e1:i64.wrap (rest*2^min (8:Nat) i64.bits)=((rn*256:Nat):Int):=by
    show i64.wrap (rest*256)=_
    rw[aG (by omega) (by omega)];omega
   have e2:i64.wrap (fK.getD (k:Int).toNat 0)=(bn:Int):=by
    rw[Int.toNat_natCast,<- hb,aG (by omega) (by omega),hbn]
   have e3:rest*256+b=((rn*256+bn:Nat):Int):=by rw[hrn,hbn];simp
   rw[e1,e2,WJ rn bn (by omega) (by omega)]
   have e4:((rn*256+bn:Nat):Int).tmod 12=(rest*256+b)%12:=by rw[Int.tmod_eq_emod_of_nonneg (by omega),e3]
   have e5:i64.wrap (((rn*256+bn:Nat):Int).tdiv 12)=(rest*256+b)/12:=by rw[Int.tdiv_eq_ediv_of_nonneg (by omega),aG (by omega) (by omega),e3]
   rw[e4,e5]
   exact⟨⟨by omega,by omega⟩,by decide,by decide,by decide,aA ⟨rfl,rfl⟩⟩
  rintro⟨r2,dg⟩ hrd
  revert r2 dg
  intro (r2:Int) (dg:Int) ⟨hr2,hdg⟩
  have hr2:r2=(rest*256+b)%12:=hr2
  have hdg:dg=(rest*256+b)/12:=hdg
  have hdg0:0<=dg/\dg<256:=by
   have er:rest=num (fK.take k)%12:=er
   rw[hdg];omega
  refine bO hsp mixed dA (fun σ=>(bU (.int .i64) 23 σ,ga .fp 16 σ)) (PW fK k r2 dg) (fun g=>∃ j:Nat,j<=8/\g.1=(j:Int)/\g.2=tp (((num (fK.take k)/12).toNat)*2^j+dg.toNat/2^(8-j))) (fun g=>8-g.1.toNat)
   (fun σ=>ga .fp 16 σ) (fun y=>EV fK ((k:Int),y,r2)) (fun y=>y=tp (((num (fK.take k)/12).toNat)*256+dg.toNat)) (0,x) (c:=aI (fz (aI (bQ (aI (aJ Tryz.f158) 3)) 2)) 5) (by kernel_rfl) (by kernel_rfl) (aC (by kernel_rfl) (by kernel_rfl) ?_) ?_ ?_
  ·refine⟨0,by decide,rfl,?_⟩
   have ex:x=tp (num (fK.take k)/12).toNat:=ex
   rw[Nat.pow_zero,Nat.mul_one,show 8-0=8 from rfl,show (2:Nat)^8=256 from rfl,Nat.div_eq_of_lt (by omega),Nat.add_zero]
   exact ex
  ·rintro⟨j,y⟩ hj
   revert j y
   intro (j:Int) (y:Fp) ⟨t,ht,ej,ey⟩
   have ej:j=(t:Int):=ej
   subst ej
   refine ao (X:=((decide ((t:Int)<(8:Int))=true->True/\(0:Int)<=i64.wrap ((7:Int)-(t:Int))/\((av BinOp.and i64 (dg.fdiv ((2:Int)^min (i64.wrap ((7:Int)-(t:Int))).toNat i64.bits)) (1:Int)==(1:Int))=true->True/\(PW fK (k:Int) r2 dg (i64.wrap ((t:Int)+(1:Int)),y*y+y*y)).ah ((∃ j,j<=(8:Nat)/\i64.wrap ((t:Int)+(1:Int))=(j:Int)/\y*y+y*y=tp ((num (List.take k fK)/(12:Int)).toNat*(2:Nat)^j+dg.toNat/(2:Nat)^((8:Nat)-j)))/\(8:Nat)-(i64.wrap ((t:Int)+(1:Int))).toNat<(8:Nat)-(t:Int).toNat))/\((av BinOp.and i64 (dg.fdiv ((2:Int)^min (i64.wrap ((7:Int)-(t:Int))).toNat i64.bits)) (1:Int)==(1:Int))=false->(PW fK (k:Int) r2 dg (i64.wrap ((t:Int)+(1:Int)),y*y)).ah ((∃ j,j<=(8:Nat)/\i64.wrap ((t:Int)+(1:Int))=(j:Int)/\y*y=tp ((num (List.take k fK)/(12:Int)).toNat*(2:Nat)^j+dg.toNat/(2:Nat)^((8:Nat)-j)))/\(8:Nat)-(i64.wrap ((t:Int)+(1:Int))).toNat<(8:Nat)-(t:Int).toNat)))/\(decide ((t:Int)<(8:Int))=false->(EV fK ((k:Int),y,r2)).ah (y=tp ((num (List.take k fK)/(12:Int)).toNat*(256:Nat)+dg.toNat))))) (by kernel_rfl) ?_
   have ht:t<=8:=ht
   have ey:y=tp (((num (fK.take k)/12).toNat)*2^t+dg.toNat/2^(8-t)):=ey
   obtain⟨d,hd⟩:=Int.eq_ofNat_of_zero_le hdg0.1
   generalize (num (fK.take k)/12).toNat=q at *
   refine⟨fun h=>?_,fun h=>aA ?_⟩
   ·have h8:t<8:=by have:=Odt h;omega
    have e1:(i64.wrap (7-(t:Int))).toNat=7-t:=by rw[aG (by omega) (by omega)];omega
    have e0:0<=i64.wrap (7-(t:Int)):=by rw[aG (by omega) (by omega)];omega
    have hm:min (7-t) i64.bits=7-t:=Nat.min_eq_left (show 7-t<=64 by omega)
    have e2:dg.fdiv (2^(7-t))=((d/2^(7-t):Nat):Int):=by
     rw[Int.fdiv_eq_ediv_of_nonneg _ (Int.le_of_lt (Int.pow_pos (by decide))),hd]
     simp
    have e3:d/2^(8-t)=d/2^(7-t)/2:=by
     rw[Nat.div_div_eq_div_mul,<- Nat.pow_succ,show (7-t).succ=8-t by omega]
    have e4:dg.toNat=d:=by rw[hd];rfl
    have hdl:d/2^(7-t)<4294967296:=Nat.lt_of_le_of_lt (Nat.div_le_self _ _) (by omega)
    have e5:8-(t+1)=7-t:=by omega
    rw[e1,hm,e2,Da _ hdl,aQ (by omega)]
    have key:y*y=tp (q*2^(t+1)+2*(d/2^(7-t)/2)):=by
     rw[ey,adp,e4,e3,Nat.pow_succ]
     congr 1
     rw[Nat.mul_add,<- Nat.mul_assoc,Nat.mul_comm 2 q,Nat.mul_assoc,Nat.mul_comm 2 (2^t)]
    refine⟨trivial,e0,fun h1=>⟨trivial,aA ⟨⟨t+1,h8,rfl,?_⟩,by omega⟩⟩,fun h1=>aA ⟨⟨t+1,h8,rfl,?_⟩,by omega⟩⟩
    ·have hbit:d/2^(7-t)%2=1:=by
      have h1:((d/2^(7-t)%2:Nat):Int)=1:=by simpa using h1
      omega
     rw[key,Xl,e4,e5]
     congr 1
     omega
    ·have hbit:d/2^(7-t)%2=0:=by
      have h1:¬ ((d/2^(7-t)%2:Nat):Int)=1:=by simpa using h1
      omega
     rw[key,e4,e5]
     congr 1
     omega
   ·have h8:t=8:=by have:=Odf h;omega
    rw[ey,h8]
    simp
  intro (y:Fp) (hy:y=tp (((num (fK.take k)/12).toNat)*256+dg.toNat))
  refine ig ?_
  refine bf hsp mixed _ _ ?_
  refine ao (X:=((EV fK (i64.wrap ((k:Int)+(1:Int)),y,r2)).ah (rtJ fK (i64.wrap ((k:Int)+(1:Int)),y,r2)/\(48:Nat)-(i64.wrap ((k:Int)+(1:Int))).toNat<(48:Nat)-(k:Int).toNat))) (by kernel_rfl) ?_
  have er:rest=num (fK.take k)%12:=er
  have hns:=qS hkl
  rw[<- hb] at hns
  rw[aQ (by omega)]
  refine aA ⟨⟨k+1,hlt,rfl,?_,?_⟩,by omega⟩
  ·show y=tp _
   rw[hy,hns]
   congr 1
   omega
  ·show r2=_
   rw[hr2,hns,er]
   omega
 intro (x:Fp) (hx:x=aU)
 refine bf hsp mixed _ _ ?_
 refine ao (X:=(True/\((x,-x),())=((aU,-aU),()))) (by kernel_rfl) ?_
 exact⟨trivial,by rw[hx]⟩
end
end Go.Proofs.YtbeeaekepmnfhaaGreatDoor.tower
open Go.IntKind(i64 u8)
namespace Go.Proofs.YtbeeaekepmnfhaaGreatDoor.tower
noncomputable section
open Go Go.Eng Go.RowKit Cr fp2
theorem qt:enters Tryz.prog 185 Tryz.f185:=ek
def eJ (x:aE) (n:Nat):aE:=cr (az x n)
theorem Ss (x:aE):eJ x 0=1:=ay _
theorem PL (x:aE) (n:Nat):eJ x n*eJ x n=eJ x (2*n):=by
 rw[eJ,eJ,ay,ay,<- dZ,show n+n=2*n by omega]
theorem HF (x:aE) (n:Nat):eJ x n*x=eJ x (n+1):=by
 rw[eJ,eJ,ay,ay];rfl
abbrev om:HL [bC,.sl (.int .u8)]->Prop:=fun (_,e,_)=>Bs e/\List.length e<=1048576
abbrev iU:HL [bC,.sl (.int .u8)]->HO [.val bC]:=fun (x,e,_)=>(eJ x (num e).toNat,())
abbrev Ey (x:aE):List Cell:=cellsOf bC x
def At (x:aE) (e:List Int) (g:Int × aE × Bool):St:=aY Tryz.f185.ntmps 72 [(2,.is (.one (.ptr 0 0))),(4,.is (.one (.ptr 8 0))),(5,.is (.one (.ptr 24 0))),(6,.is (.one (.v (.bool g.2.2)))),(11,.is (.one (.ro (.int .u8) e))),(12,sI .i64 e.length),(13,sI .i64 g.1)] [(24,Ey g.2.1),(8,Ey 0),(0,Ey x)]
def yv (x:aE) (e:List Int) (i b:Int) (g:Int × aE × Bool):St:=aY Tryz.f185.ntmps 72 [(2,.is (.one (.ptr 0 0))),(4,.is (.one (.ptr 8 0))),(5,.is (.one (.ptr 24 0))),(6,.is (.one (.v (.bool g.2.2)))),(8,sI .u8 b),(11,.is (.one (.ro (.int .u8) e))),(12,sI .i64 e.length),(13,sI .i64 i),(17,sI .i64 g.1)] [(24,Ey g.2.1),(8,Ey 0),(0,Ey x)]
def sJ (x:aE) (n:Nat) (y:aE) (bg:Bool):Prop:=y=eJ x n/\(bg=false->n=0)
theorem XI (n:Nat) (hn:n<256):av .and .u8 (n:Int) 1=((n%2:Nat):Int):=by
 have e:((BitVec.ofInt 8 (n:Int) &&& BitVec.ofInt 8 1:BitVec 8).toNat)=n%2:=by
  rw[BitVec.toNat_and,BitVec.toNat_ofInt,BitVec.toNat_ofInt]
  have h1:((n:Int)%((2^8:Nat):Int)).toNat=n:=by omega
  have h2:((1:Int)%((2^8:Nat):Int)).toNat=1:=by omega
  rw[h1,h2,Nat.and_one_is_mod]
 show u8.wrap (((BitVec.ofInt 8 (n:Int) &&& BitVec.ofInt 8 1:BitVec 8).toNat:Nat):Int)=_
 rw[e]
 simp only[IntKind.wrap,IntKind.signed,IntKind.bits]
 simp;omega
theorem pC:aB Tryz.prog 185 [bC,.sl (.int .u8)] [.val bC] aM om iU:=by
 have hsp:aN Tryz.prog (aF [kS,bJ,cK]):=ai (ak nM) (ai (ak b9) (ai (ak cL) aR))
 refine bh (sp:=aF [kS,bJ,cK]) qt (by decide) (by decide) (by kernel_rfl) ?_
 rintro w M0 ⟨x,e,⟨⟩⟩
 revert x e
 intro (x:aE) (e:List Int) _ hp
 have hbs:Bs e:=hp.1
 have hel:e.length<=1048576:=hp.2
 show Tr _ _ _ _ _ _ _
 refine Lp hsp mixed 3 6 (fun σ=>bU .bool 6 σ) (fun bg=>At x e (0,1,bg)) (fun bg=>bg=false) ?_ ?_
 ·refine ao (X:=(True/\(At x e ((0:Int),(1:aE),false)).ah (false=false))) (by kernel_rfl) ?_
  exact⟨trivial,aA rfl⟩
 intro (bg0:Bool) (hbg0:bg0=false)
 subst hbg0
 refine fh dA (fun σ=>(bU (.int .i64) 13 σ,ga bC 24 σ,bU .bool 6 σ)) (At x e) (fun g=>∃ k:Nat,k<=e.length/\g.1=(k:Int)/\sJ x (num (e.take k)).toNat g.2.1 g.2.2) (fun g=>e.length-g.1.toNat)
  (fun σ=>(bU (.int .i64) 13 σ,ga bC 24 σ,bU .bool 6 σ)) (At x e) (fun g=>g.2.1=eJ x (num e).toNat) (0,1,false) (c:=aI (aJ Tryz.f185) 3) (by kernel_rfl) (by kernel_rfl) (aC (by kernel_rfl) (by kernel_rfl) ?_) ?_ ?_
 ·exact⟨0,Nat.zero_le _,rfl,(Ss x).symm,fun _=>rfl⟩
 ·rintro⟨i,y,bg⟩ hj
  revert i y bg
  intro (i:Int) (y:aE) (bg:Bool) ⟨k,hk,ei,hy⟩
  have ei:i=(k:Int):=ei
  subst ei
  have hy:sJ x (num (e.take k)).toNat y bg:=hy
  have hbd:=sn (l:=e.take k) (fun z hz=>hbs z (List.mem_of_mem_take hz))
  refine aP hsp mixed 2 (At x e ((k:Int),y,bg)) (k<e.length) ?_ (fun hlt=>?_)
  ·refine ao (X:=((decide ((k:Int)<(e.length:Int))=true->(At x e ((k:Int),y,bg)).ah (k<e.length))/\(decide ((k:Int)<(e.length:Int))=false->(At x e ((k:Int),y,bg)).ah (y=eJ x (num e).toNat)))) (by kernel_rfl) ?_
   refine⟨fun h=>aA (by have:=Odt h;omega),fun h=>aA ?_⟩
   have ek:k=e.length:=by have:=Odf h;omega
   rw[ek,List.take_length] at hy
   exact hy.1
  refine eG (c:=aI (bQ (aI (aJ Tryz.f185) 3)) 2) (by kernel_rfl) (by kernel_rfl) ?_
  refine eB hsp mixed 2 (fun σ=>bU (.int .u8) 8 σ) (fun b=>yv x e k b (0,y,bg)) (fun b=>b=e.getD k 0) ?_ ?_
  ·refine ao (X:=(((0:Int)<=(k:Int)/\(k:Int)<(e.length:Int))/\(k:Int).toNat<e.length/\(yv x e (k:Int) (e.getD (k:Int).toNat (0:Int)) ((0:Int),y,bg)).ah (e.getD (k:Int).toNat (0:Int)=e.getD k (0:Int)))) (by kernel_rfl) ?_
   simp only[Int.toNat_natCast]
   exact⟨⟨by omega,by omega⟩,hlt,aA (by first|exact trivial|rfl)⟩
  intro (b:Int) (hb:b=e.getD k 0)
  have hb0:0<=b/\b<256:=by
   rw[hb];simp only[List.getD_eq_getElem?_getD,List.getElem?_eq_getElem hlt,Option.getD_some]
   exact hbs _ (List.getElem_mem hlt)
  obtain⟨d,hd⟩:=Int.eq_ofNat_of_zero_le hb0.1
  refine fh dA (fun σ=>(bU (.int .i64) 17 σ,ga bC 24 σ,bU .bool 6 σ)) (yv x e k b) (fun g=>∃ j:Nat,j<=8/\g.1=(j:Int)/\sJ x ((num (e.take k)).toNat*2^j+d/2^(8-j)) g.2.1 g.2.2) (fun g=>8-g.1.toNat)
   (fun σ=>(ga bC 24 σ,bU .bool 6 σ)) (fun g=>At x e ((k:Int),g.1,g.2)) (fun g=>sJ x ((num (e.take k)).toNat*256+d) g.1 g.2) (0,y,bg) (c:=aI (fz (aI (bQ (aI (aJ Tryz.f185) 3)) 2)) 2) (by kernel_rfl) (by kernel_rfl) (aC (by kernel_rfl) (by kernel_rfl) ?_) ?_ ?_
  ·refine⟨0,by decide,rfl,?_⟩
   rw[Nat.pow_zero,Nat.mul_one,show 8-0=8 from rfl,show (2:Nat)^8=256 from rfl,Nat.div_eq_of_lt (by omega),Nat.add_zero]
   exact hy
  ·rintro⟨j,y1,b1⟩ hj
   revert j y1 b1
   intro (j:Int) (y1:aE) (b1:Bool) ⟨t,ht,ej,hy1⟩
   have ej:j=(t:Int):=ej
   subst ej
   have ht:t<=8:=ht
   have hy1:sJ x ((num (e.take k)).toNat*2^t+d/2^(8-t)) y1 b1:=hy1
   generalize (num (e.take k)).toNat=q at *
   refine aP hsp mixed 2 (yv x e k b ((t:Int),y1,b1)) (t<8) ?_ (fun h8=>?_)
   ·refine ao (X:=((decide ((t:Int)<(8:Int))=true->(yv x e (k:Int) b ((t:Int),y1,b1)).ah (t<(8:Nat)))/\(decide ((t:Int)<(8:Int))=false->(At x e ((k:Int),(y1,b1).fst,(y1,b1).snd)).ah (sJ x (q*(256:Nat)+d) y1 b1)))) (by kernel_rfl) ?_
    refine⟨fun h=>aA (by have:=Odt h;omega),fun h=>aA ?_⟩
    have et:t=8:=by have:=Odf h;omega
    rw[et] at hy1
    simpa using hy1
   refine eG (c:=aI (bQ (aI (fz (aI (bQ (aI (aJ Tryz.f185) 3)) 2)) 2)) 2) (by kernel_rfl) (by kernel_rfl) ?_
   have e3:d/2^(8-t)=d/2^(7-t)/2:=by
    rw[Nat.div_div_eq_div_mul,<- Nat.pow_succ,show (7-t).succ=8-t by omega]
   have e5:8-(t+1)=7-t:=by omega
   have eN:q*2^(t+1)+d/2^(8-(t+1))=2*(q*2^t+d/2^(8-t))+d/2^(7-t)%2:=by
    rw[e5,e3,Nat.pow_succ,<- Nat.mul_assoc];omega
   refine Lp hsp mixed 5 6 (fun σ=>(ga bC 24 σ,bU .bool 6 σ)) (fun g=>yv x e k b ((t:Int),g.1,g.2)) (fun g=>sJ x (q*2^(t+1)+d/2^(8-(t+1))) g.1 g.2) ?_ ?_
   ·refine ao (X:=((b1=true->True/\(0:Int)<=i64.wrap ((7:Int)-(t:Int))/\((av BinOp.and u8 (b.fdiv ((2:Int)^min (i64.wrap ((7:Int)-(t:Int))).toNat u8.bits)) (1:Int)==(1:Int))=true->True/\(yv x e (k:Int) b ((t:Int),(y1*y1*x,true).fst,(y1*y1*x,true).snd)).ah (sJ x (q*(2:Nat)^(t+(1:Nat))+d/(2:Nat)^((8:Nat)-(t+(1:Nat)))) (y1*y1*x) true))/\((av BinOp.and u8 (b.fdiv ((2:Int)^min (i64.wrap ((7:Int)-(t:Int))).toNat u8.bits)) (1:Int)==(1:Int))=false->(yv x e (k:Int) b ((t:Int),(y1*y1,b1).fst,(y1*y1,b1).snd)).ah (sJ x (q*(2:Nat)^(t+(1:Nat))+d/(2:Nat)^((8:Nat)-(t+(1:Nat)))) (y1*y1) b1)))/\(b1=false->(0:Int)<=i64.wrap ((7:Int)-(t:Int))/\((av BinOp.and u8 (b.fdiv ((2:Int)^min (i64.wrap ((7:Int)-(t:Int))).toNat u8.bits)) (1:Int)==(1:Int))=true->True/\(yv x e (k:Int) b ((t:Int),(y1*x,true).fst,(y1*x,true).snd)).ah (sJ x (q*(2:Nat)^(t+(1:Nat))+d/(2:Nat)^((8:Nat)-(t+(1:Nat)))) (y1*x) true))/\((av BinOp.and u8 (b.fdiv ((2:Int)^min (i64.wrap ((7:Int)-(t:Int))).toNat u8.bits)) (1:Int)==(1:Int))=false->(yv x e (k:Int) b ((t:Int),(y1,b1).fst,(y1,b1).snd)).ah (sJ x (q*(2:Nat)^(t+(1:Nat))+d/(2:Nat)^((8:Nat)-(t+(1:Nat)))) y1 b1))))) (by kernel_rfl) ?_
    have e0:0<=i64.wrap (7-(t:Int)):=by rw[aG (by omega) (by omega)];omega
    have e1:(i64.wrap (7-(t:Int))).toNat=7-t:=by rw[aG (by omega) (by omega)];omega
    have hm:min (7-t) u8.bits=7-t:=Nat.min_eq_left (show 7-t<=8 by omega)
    have e2:b.fdiv (2^(7-t))=((d/2^(7-t):Nat):Int):=by
     rw[Int.fdiv_eq_ediv_of_nonneg _ (Int.le_of_lt (Int.pow_pos (by decide))),hd]
     simp
    have hdl:d/2^(7-t)<256:=Nat.lt_of_le_of_lt (Nat.div_le_self _ _) (by omega)
    rw[e1,hm,e2,XI _ hdl,eN]
    obtain⟨hy1,hb1⟩:=hy1
    generalize q*2^t+d/2^(8-t)=Q at *
    have hbit1:(((d/2^(7-t)%2:Nat):Int)==1)=true->d/2^(7-t)%2=1:=fun h=>by
     have h:((d/2^(7-t)%2:Nat):Int)=1:=by simpa using h
     omega
    have hbit0:(((d/2^(7-t)%2:Nat):Int)==1)=false->d/2^(7-t)%2=0:=fun h=>by
     have h:¬ ((d/2^(7-t)%2:Nat):Int)=1:=by simpa using h
     omega
    refine⟨fun hb=>⟨trivial,e0,fun h=>⟨trivial,aA ⟨?_,fun h=>by cases h⟩⟩,fun h=>aA ⟨?_,fun h2=>?_⟩⟩,fun hb=>⟨e0,fun h=>⟨trivial,aA ⟨?_,fun h=>by cases h⟩⟩,fun h=>aA ⟨?_,fun _=>?_⟩⟩⟩
    ·rw[hbit1 h,hy1,PL,HF]
    ·rw[hbit0 h,hy1,PL];rfl
    ·rw[hb] at h2;cases h2
    ·have hQ:=hb1 hb
     rw[hbit1 h,hy1,HF,hQ]
    ·have hQ:=hb1 hb
     rw[hbit0 h,hy1,hQ]
    ·have hQ:=hb1 hb
     rw[hbit0 h,hQ]
   rintro⟨y2,b2⟩ hy2
   revert y2 b2
   intro (y2:aE) (b2:Bool) (hy2:sJ x (q*2^(t+1)+d/2^(8-(t+1))) y2 b2)
   refine ig ?_
   refine bf hsp mixed _ _ ?_
   refine ao (X:=((yv x e (k:Int) b (i64.wrap ((t:Int)+(1:Int)),y2,b2)).ah ((∃ j,j<=(8:Nat)/\i64.wrap ((t:Int)+(1:Int))=(j:Int)/\sJ x (q*(2:Nat)^j+d/(2:Nat)^((8:Nat)-j)) y2 b2)/\(8:Nat)-(i64.wrap ((t:Int)+(1:Int))).toNat<(8:Nat)-(t:Int).toNat))) (by kernel_rfl) ?_
   rw[aQ (by omega)]
   exact aA ⟨⟨t+1,h8,rfl,hy2⟩,by rw[Int.toNat_natCast,Int.toNat_natCast];omega⟩
  rintro⟨y2,b2⟩ hy2
  revert y2 b2
  intro (y2:aE) (b2:Bool) (hy2:sJ x ((num (e.take k)).toNat*256+d) y2 b2)
  refine ig ?_
  refine bf hsp mixed _ _ ?_
  refine ao (X:=((At x e (i64.wrap ((k:Int)+(1:Int)),y2,b2)).ah ((∃ cE,cE<=e.length/\i64.wrap ((k:Int)+(1:Int))=(cE:Int)/\sJ x (num (List.take cE e)).toNat y2 b2)/\e.length-(i64.wrap ((k:Int)+(1:Int))).toNat<e.length-(k:Int).toNat))) (by kernel_rfl) ?_
  have hns:=qS hlt
  rw[<- hb] at hns
  have en:(num (e.take (k+1))).toNat=(num (e.take k)).toNat*256+d:=by rw[hns,hd];omega
  rw[aQ (by omega)]
  exact aA ⟨⟨k+1,hlt,rfl,by rw[en];exact hy2⟩,by rw[Int.toNat_natCast,Int.toNat_natCast];omega⟩
 rintro⟨i,y,bg⟩ hy
 revert i y bg
 intro (i:Int) (y:aE) (bg:Bool) (hy:y=eJ x (num e).toNat)
 refine bf hsp mixed _ _ ?_
 refine ao (X:=((y,())=iU (x,e,()))) (by kernel_rfl) ?_
 rw[hy]
def pX:Nat × Eng.Spec:=(185,ar [bC,.sl (.int .u8)] [.val bC] om iU)
end
end Go.Proofs.YtbeeaekepmnfhaaGreatDoor.tower
namespace Go.Proofs.YtbeeaekepmnfhaaGreatDoor.fp2
open Go Go.Eng Go.RowKit Cr Go.Proofs.YtbeeaekepmnfhaaGreatDoor
theorem nJ:enters Tryz.prog 208 Tryz.f208:=ek
noncomputable abbrev fW:HL [f2]->HO [.val f2]:=fun (x,_)=>((x:F2)+x,())
theorem kA:aB Tryz.prog 208 [f2] [.val f2] aM (fun _=>True) fW:=by
 refine ax (sp:=aF [cv]) (ai (ak cC) aR) mixed nJ (by decide) (by decide) ?_
 rintro w M0 ⟨x,⟨⟩⟩
 revert x
 intro (x:F2) _ _
 refine ao (X:=(True/\(x+x,())=fW (x,()))) (by kernel_rfl) ?_
 repeat refine⟨trivial,?_⟩
 rfl
noncomputable def jS:Nat × Eng.Spec:=(208,ar [f2] [.val f2] (fun _=>True) fW)
end Go.Proofs.YtbeeaekepmnfhaaGreatDoor.fp2
namespace Go.Proofs.YtbeeaekepmnfhaaGreatDoor.tower
open Go Go.Eng Go.RowKit Cr Go.Proofs.YtbeeaekepmnfhaaGreatDoor Go.Proofs.YtbeeaekepmnfhaaGreatDoor.fp2
noncomputable def fm:F2:=(aU,-aU)
noncomputable def cj (x:F2):F2:=(x.1,-x.2)
noncomputable def zx (x:aE):aE:=((cj x.1.1,cj x.1.2.1*(fm*fm),cj x.1.2.2*(fm*fm*(fm*fm))),(cj x.2.1*fm,cj x.2.2.1*(fm*fm*fm),cj x.2.2.2*(fm*fm*(fm*fm)*fm)))
theorem Rc:enters Tryz.prog 183 Tryz.f183:=ek
noncomputable def abb:Nat × Eng.Spec:=(158,ar [] [.val f2] (fun _=>True) (fun _=>(fm,())))
theorem VH:aB Tryz.prog 183 [bC] [.val bC] aM (fun _=>True) (fun (x,_)=>(zx x,())):=by
 refine ax (sp:=aF [abb,fp2.bJ,fp2.cK,fp2.H9]) (ai (ak Ke) (ai (ak fp2.b9) (ai (ak fp2.cL) (ai (ak fp2.u4) aR)))) mixed Rc (by decide) (by decide) ?_
 rintro w M0 ⟨x,⟨⟩⟩
 revert x
 intro (x:aE) _ _
 refine ao (X:=(True/\True/\True/\True/\True/\True/\True/\True/\True/\True/\True/\True/\True/\True/\True/\True/\((((x.fst.fst.fst,-x.fst.fst.snd),(x.fst.snd.fst.fst,-x.fst.snd.fst.snd)*((aU,-aU)*(aU,-aU)),(x.fst.snd.snd.fst,-x.fst.snd.snd.snd)*((aU,-aU)*(aU,-aU)*((aU,-aU)*(aU,-aU)))),(x.snd.fst.fst,-x.snd.fst.snd)*(aU,-aU),(x.snd.snd.fst.fst,-x.snd.snd.fst.snd)*((aU,-aU)*(aU,-aU)*(aU,-aU)),(x.snd.snd.snd.fst,-x.snd.snd.snd.snd)*((aU,-aU)*(aU,-aU)*((aU,-aU)*(aU,-aU))*(aU,-aU))),())=(zx x,()))) (by kernel_rfl) ?_
 repeat refine⟨trivial,?_⟩
 rfl
end Go.Proofs.YtbeeaekepmnfhaaGreatDoor.tower
namespace Go.Proofs.YtbeeaekepmnfhaaGreatDoor.pairing
open Go Go.Eng Go.RowKit Cr Go.Proofs.YtbeeaekepmnfhaaGreatDoor Go.Proofs.YtbeeaekepmnfhaaGreatDoor.fp2 Go.Proofs.YtbeeaekepmnfhaaGreatDoor.tower
abbrev bo:Kd:=.pair .fp .fp
abbrev ba:Kd:=.pair f2 f2
abbrev vn:Kd:=.pair f2 (.pair f2 f2)
def sk (x:F2) (k:Fp):F2:=(x.1*k,x.2*k)
noncomputable def l7 (t:F2 × F2 × F2) (p:Fp × Fp):(F2 × F2 × F2) × (F2 × F2 × F2) :=
 let xx:=t.1*t.1;let yy:=t.2.1*t.2.1;let zz:=t.2.2*t.2.2;let ox:=xx+xx+xx
 let d0:=yy*yy;let d1:=d0+d0;let d2:=d1+d1;let eight:=d2+d2
 let f0:=t.1*yy;let f1:=f0+f0;let four:=f1+f1
 let x:=ox*ox-(four+four);let y:=ox*(four-x)-eight;let z:=t.2.1*t.2.2+t.2.1*t.2.2
 ((x,y,z),(ox*t.1-(yy+yy),-(sk (ox*zz) p.1),sk (z*zz) p.2))
noncomputable def two (t:F2 × F2 × F2) (p:Fp × Fp):(F2 × F2 × F2) × (F2 × F2 × F2):=cr (l7 t p)
noncomputable def sD (t:F2 × F2 × F2) (q:F2 × F2) (p:Fp × Fp):(F2 × F2 × F2) × (F2 × F2 × F2) :=
 let zz:=t.2.2*t.2.2;let wide:=q.1*zz-t.1;let high:=q.2*(zz*t.2.2)-t.2.1
 let square:=wide*wide;let cube:=square*wide;let part:=t.1*square
 let x:=high*high-cube-(part+part);let y:=high*(part-x)-t.2.1*cube;let z:=t.2.2*wide
 ((x,y,z),(high*q.1-z*q.2,-(sk high p.1),sk z p.2))
noncomputable def jB (t:F2 × F2 × F2) (q:F2 × F2) (p:Fp × Fp):(F2 × F2 × F2) × (F2 × F2 × F2):=cr (sD t q p)
theorem Od:enters Tryz.prog 187 Tryz.f187:=ek
theorem RM:aB Tryz.prog 187 [vn,bo] [.val vn,.val vn] aM (fun _=>True) (fun (t,p,_)=>((two t p).1,(two t p).2,())):=by
 refine ax (sp:=aF [fp2.bJ,fp2.cK,fp2.cv,fp2.iI,fp2.jS,fp2.pY,fp2.jb]) (ai (ak fp2.b9) (ai (ak fp2.cL) (ai (ak fp2.cC) (ai (ak fp2.gn) (ai (ak fp2.kA) (ai (ak fp2.m6) (ai (ak fp2.iA) aR))))))) mixed Od (by decide) (by decide) ?_
 rintro w M0 ⟨t,p,⟨⟩⟩
 revert t p
 intro (t:F2 × F2 × F2) (p:Fp × Fp) _ _
 refine ao (X:=(True/\True/\True/\True/\True/\True/\True/\True/\True/\True/\True/\True/\True/\True/\True/\True/\True/\True/\True/\True/\True/\True/\True/\True/\True/\True/\True/\True/\(((t.fst*t.fst+t.fst*t.fst+t.fst*t.fst)*(t.fst*t.fst+t.fst*t.fst+t.fst*t.fst)-(t.fst*(t.snd.fst*t.snd.fst)+t.fst*(t.snd.fst*t.snd.fst)+(t.fst*(t.snd.fst*t.snd.fst)+t.fst*(t.snd.fst*t.snd.fst))+(t.fst*(t.snd.fst*t.snd.fst)+t.fst*(t.snd.fst*t.snd.fst)+(t.fst*(t.snd.fst*t.snd.fst)+t.fst*(t.snd.fst*t.snd.fst)))),(t.fst*t.fst+t.fst*t.fst+t.fst*t.fst)*(t.fst*(t.snd.fst*t.snd.fst)+t.fst*(t.snd.fst*t.snd.fst)+(t.fst*(t.snd.fst*t.snd.fst)+t.fst*(t.snd.fst*t.snd.fst))-((t.fst*t.fst+t.fst*t.fst+t.fst*t.fst)*(t.fst*t.fst+t.fst*t.fst+t.fst*t.fst)-(t.fst*(t.snd.fst*t.snd.fst)+t.fst*(t.snd.fst*t.snd.fst)+(t.fst*(t.snd.fst*t.snd.fst)+t.fst*(t.snd.fst*t.snd.fst))+(t.fst*(t.snd.fst*t.snd.fst)+t.fst*(t.snd.fst*t.snd.fst)+(t.fst*(t.snd.fst*t.snd.fst)+t.fst*(t.snd.fst*t.snd.fst))))))-(t.snd.fst*t.snd.fst*(t.snd.fst*t.snd.fst)+t.snd.fst*t.snd.fst*(t.snd.fst*t.snd.fst)+(t.snd.fst*t.snd.fst*(t.snd.fst*t.snd.fst)+t.snd.fst*t.snd.fst*(t.snd.fst*t.snd.fst))+(t.snd.fst*t.snd.fst*(t.snd.fst*t.snd.fst)+t.snd.fst*t.snd.fst*(t.snd.fst*t.snd.fst)+(t.snd.fst*t.snd.fst*(t.snd.fst*t.snd.fst)+t.snd.fst*t.snd.fst*(t.snd.fst*t.snd.fst)))),t.snd.fst*t.snd.snd+t.snd.fst*t.snd.snd),((t.fst*t.fst+t.fst*t.fst+t.fst*t.fst)*t.fst-(t.snd.fst*t.snd.fst+t.snd.fst*t.snd.fst),-(((t.fst*t.fst+t.fst*t.fst+t.fst*t.fst)*(t.snd.snd*t.snd.snd)).fst*p.fst,((t.fst*t.fst+t.fst*t.fst+t.fst*t.fst)*(t.snd.snd*t.snd.snd)).snd*p.fst),((t.snd.fst*t.snd.snd+t.snd.fst*t.snd.snd)*(t.snd.snd*t.snd.snd)).fst*p.snd,((t.snd.fst*t.snd.snd+t.snd.fst*t.snd.snd)*(t.snd.snd*t.snd.snd)).snd*p.snd),())=((two t p).fst,(two t p).snd,()))) (by kernel_rfl) ?_
 repeat refine⟨trivial,?_⟩
 rw[two,ay]
 rfl
noncomputable def Ld:Nat × Eng.Spec:=(187,ar [vn,bo] [.val vn,.val vn] (fun _=>True) (fun (t,p,_)=>((two t p).1,(two t p).2,())))
theorem r7:enters Tryz.prog 189 Tryz.f189:=ek
theorem pA:aB Tryz.prog 189 [vn,ba,bo] [.val vn,.val vn] aM (fun _=>True) (fun (t,q,p,_)=>((jB t q p).1,(jB t q p).2,())):=by
 refine ax (sp:=aF [fp2.bJ,fp2.cK,fp2.cv,fp2.iI,fp2.jS,fp2.pY,fp2.jb]) (ai (ak fp2.b9) (ai (ak fp2.cL) (ai (ak fp2.cC) (ai (ak fp2.gn) (ai (ak fp2.kA) (ai (ak fp2.m6) (ai (ak fp2.iA) aR))))))) mixed r7 (by decide) (by decide) ?_
 rintro w M0 ⟨t,q,p,⟨⟩⟩
 revert t q p
 intro (t:F2 × F2 × F2) (q:F2 × F2) (p:Fp × Fp) _ _
 refine ao (X:=(True/\True/\True/\True/\True/\True/\True/\True/\True/\True/\True/\True/\True/\True/\True/\True/\True/\True/\True/\True/\True/\True/\True/\True/\(((q.snd*(t.snd.snd*t.snd.snd*t.snd.snd)-t.snd.fst)*(q.snd*(t.snd.snd*t.snd.snd*t.snd.snd)-t.snd.fst)-(q.fst*(t.snd.snd*t.snd.snd)-t.fst)*(q.fst*(t.snd.snd*t.snd.snd)-t.fst)*(q.fst*(t.snd.snd*t.snd.snd)-t.fst)-(t.fst*((q.fst*(t.snd.snd*t.snd.snd)-t.fst)*(q.fst*(t.snd.snd*t.snd.snd)-t.fst))+t.fst*((q.fst*(t.snd.snd*t.snd.snd)-t.fst)*(q.fst*(t.snd.snd*t.snd.snd)-t.fst))),(q.snd*(t.snd.snd*t.snd.snd*t.snd.snd)-t.snd.fst)*(t.fst*((q.fst*(t.snd.snd*t.snd.snd)-t.fst)*(q.fst*(t.snd.snd*t.snd.snd)-t.fst))-((q.snd*(t.snd.snd*t.snd.snd*t.snd.snd)-t.snd.fst)*(q.snd*(t.snd.snd*t.snd.snd*t.snd.snd)-t.snd.fst)-(q.fst*(t.snd.snd*t.snd.snd)-t.fst)*(q.fst*(t.snd.snd*t.snd.snd)-t.fst)*(q.fst*(t.snd.snd*t.snd.snd)-t.fst)-(t.fst*((q.fst*(t.snd.snd*t.snd.snd)-t.fst)*(q.fst*(t.snd.snd*t.snd.snd)-t.fst))+t.fst*((q.fst*(t.snd.snd*t.snd.snd)-t.fst)*(q.fst*(t.snd.snd*t.snd.snd)-t.fst)))))-t.snd.fst*((q.fst*(t.snd.snd*t.snd.snd)-t.fst)*(q.fst*(t.snd.snd*t.snd.snd)-t.fst)*(q.fst*(t.snd.snd*t.snd.snd)-t.fst)),t.snd.snd*(q.fst*(t.snd.snd*t.snd.snd)-t.fst)),((q.snd*(t.snd.snd*t.snd.snd*t.snd.snd)-t.snd.fst)*q.fst-t.snd.snd*(q.fst*(t.snd.snd*t.snd.snd)-t.fst)*q.snd,-((q.snd*(t.snd.snd*t.snd.snd*t.snd.snd)-t.snd.fst).fst*p.fst,(q.snd*(t.snd.snd*t.snd.snd*t.snd.snd)-t.snd.fst).snd*p.fst),(t.snd.snd*(q.fst*(t.snd.snd*t.snd.snd)-t.fst)).fst*p.snd,(t.snd.snd*(q.fst*(t.snd.snd*t.snd.snd)-t.fst)).snd*p.snd),())=((jB t q p).fst,(jB t q p).snd,()))) (by kernel_rfl) ?_
 repeat refine⟨trivial,?_⟩
 rw[jB,ay]
 rfl
noncomputable def qI:Nat × Eng.Spec:=(189,ar [vn,ba,bo] [.val vn,.val vn] (fun _=>True) (fun (t,q,p,_)=>((jB t q p).1,(jB t q p).2,())))
end Go.Proofs.YtbeeaekepmnfhaaGreatDoor.pairing
open Go.IntKind(i64 u64 u8)
namespace Go.Proofs.YtbeeaekepmnfhaaGreatDoor.pairing
noncomputable section
open Go Go.Eng Go.RowKit Cr fp2 tower
theorem h9:enters Tryz.prog 184 Tryz.f184:=ek
def Tm (n:Int) (i:Nat):Int:=u8.wrap (n.fdiv (2^(56-8*i)))
def uI (n:Int) (k:Nat):List Int:=(List.range k).map (Tm n)++List.replicate (8-k) 0
def bI (n:Int):List Int:=cr (uI n 8)
def JD (n:Int) (g:Int × List Int):St:=aY Tryz.f184.ntmps 48 [(0,sI .u64 n),(3,.is (.one (.sl 8 0 0 8 1))),(7,sI .i64 8),(8,sI .i64 g.1)] [(8,[.ints .u8 8 g.2])]
theorem JC (n:Int) (k:Nat) (h:k<=8):(uI n k).length=8:=by simp[uI];omega
theorem JF (n:Int):(bI n).length=8:=by rw[bI,ay,JC n 8 (by decide)]
theorem U4 (n:Int) (k:Nat) (h:k<8):(uI n k).set k (Tm n k)=uI n (k+1):=by
 unfold uI
 rw[List.set_append_right _ _ (by simp),show 8-k=(8-(k+1))+1 by omega,List.replicate_succ]
 rw[show k-((List.range k).map (Tm n)).length=0 by simp,List.set_cons_zero,List.range_succ,List.map_append,List.append_assoc]
 rfl
theorem gO:aB Tryz.prog 184 [.int .u64] [.own (.int .u8)] aM (fun _=>True) (fun (n,_)=>(bI n,())):=by
 have hsp:aN Tryz.prog (aF []):=aR
 refine bh (sp:=aF []) h9 (by decide) (by decide) (by kernel_rfl) ?_
 rintro w M0 ⟨n,⟨⟩⟩
 revert n
 intro (n:Int) _ _
 show Tr _ _ _ _ _ _ _
 refine aP hsp mixed 3 (JD n (0,List.replicate 8 0)) True ?_ (fun _=>?_)
 ·refine ao (X:=(((0:Int)<=(8:Int)/\(8:Int)<=(8:Int)/\(↑(1:Nat):Int)*(8:Int)<=(281474976710656:Int)/\(8:Int)<=(9223372036854775807:Int))/\(JD n ((0:Int),List.replicate (8:Nat) (0:Int))).ah True)) (by kernel_rfl) ?_
  exact⟨⟨by decide,by decide,by decide,by decide⟩,aA trivial⟩
 refine bO hsp mixed dA (fun σ=>(bU (.int .i64) 8 σ,cN (.int .u8) 8 σ)) (JD n) (fun g=>∃ k:Nat,k<=8/\g.1=(k:Int)/\g.2=uI n k) (fun g=>8-g.1.toNat)
  (fun σ=>(bU (.int .i64) 8 σ,cN (.int .u8) 8 σ)) (JD n) (fun g=>g.2=uI n 8) (0,List.replicate 8 0) (c:=aI (aJ Tryz.f184) 3) (by kernel_rfl) (by kernel_rfl) (aC (by kernel_rfl) (by kernel_rfl) ?_) ?_ ?_
 ·exact⟨0,by decide,rfl,rfl⟩
 ·rintro⟨i,l⟩ hj
  revert i l
  intro (i:Int) (l:List Int) ⟨k,hk,ei,el⟩
  have ei:i=(k:Int):=ei
  have kl:l=uI n k:=el
  subst ei
  refine ao (X:=((decide ((k:Int)<(8:Int))=true->(0:Int)<=i64.wrap ((56:Int)-i64.wrap ((8:Int)*(k:Int)))/\((0:Int)<=(k:Int)/\(k:Int)<(↑(8:Nat):Int))/\(k:Int).toNat<(8:Nat)/\(JD n (i64.wrap ((k:Int)+(1:Int)),l.set (k:Int).toNat (u8.wrap (n.fdiv ((2:Int)^min (i64.wrap ((56:Int)-i64.wrap ((8:Int)*(k:Int)))).toNat u64.bits))))).ah ((∃ cE,cE<=(8:Nat)/\i64.wrap ((k:Int)+(1:Int))=(cE:Int)/\l.set (k:Int).toNat (u8.wrap (n.fdiv ((2:Int)^min (i64.wrap ((56:Int)-i64.wrap ((8:Int)*(k:Int)))).toNat u64.bits)))=uI n cE)/\(8:Nat)-(i64.wrap ((k:Int)+(1:Int))).toNat<(8:Nat)-(k:Int).toNat))/\(decide ((k:Int)<(8:Int))=false->(JD n ((k:Int),l)).ah (l=uI n (8:Nat))))) (by kernel_rfl) ?_
  refine⟨fun h=>?_,fun h=>aA ?_⟩
  ·have h8:k<8:=by have:=Odt h;omega
   have e0:i64.wrap (56-i64.wrap (8*(k:Int)))=((56-8*k:Nat):Int):=by
    rw[aG (a:=8*(k:Int)) (by omega) (by omega),aG (by omega) (by omega)];omega
   have hm:min (56-8*k) u64.bits=56-8*k:=Nat.min_eq_left (show 56-8*k<=64 by omega)
   rw[e0,aQ (by omega)]
   simp only[Int.toNat_natCast]
   rw[hm]
   exact⟨by omega,⟨by omega,by omega⟩,h8,aA ⟨⟨k+1,h8,rfl,by rw[kl];exact U4 n k h8⟩,by omega⟩⟩
  ·have h8:k=8:=by have:=Odf h;omega
   rw[kl,h8]
 rintro⟨i,l⟩ hl
 revert i l
 intro (i:Int) (l:List Int) (hl:l=uI n 8)
 refine bf hsp mixed _ _ ?_
 refine ao (X:=(0+8<=8/\(List.take 8 l,())=(bI n,()))) (by kernel_rfl) ?_
 refine⟨by decide,?_⟩
 rw[hl,bI,ay,List.take_of_length_le (by rw[JC n 8 (by decide)];decide)]
def fw:Nat × Eng.Spec:=(184,ar [.int .u64] [.own (.int .u8)] (fun _=>True) (fun (n,_)=>(bI n,())))
theorem S5 (x:Int):u8.wrap x=x%256:=by
 simp only[IntKind.wrap,IntKind.signed,IntKind.bits]
 simp
theorem NT (n:Int):Bs (bI n):=by
 intro x hx
 rw[bI,ay,uI] at hx
 simp only[Nat.sub_self,List.replicate_zero,List.append_nil,List.mem_map] at hx
 obtain⟨i,_,rfl⟩:=hx
 rw[Tm,S5]
 omega
def eC (x:aE):aE:=cr (tower.zx x)
def dx (x:aE):aE:=cr (r6 x)
def gf (x:aE):aE:=cr (Fd.inv x)
theorem VX:aB Tryz.prog 183 [bC] [.val bC] aM (fun _=>True) (fun (x,_)=>(eC x,())):=tower.VH.out (by rintro⟨x,⟨⟩⟩;show (eC x,())=(tower.zx x,());rw[eC,ay])
theorem Kh:aB Tryz.prog 180 [bC] [.val bC] aM (fun _=>True) (fun (x,_)=>(dx x,())):=tower.u4.out (by rintro⟨x,⟨⟩⟩;show (dx x,())=(r6 x,());rw[dx,ay])
theorem YY:aB Tryz.prog 182 [bC] [.val bC] aM (fun _=>True) (fun (x,_)=>(gf x,())):=tower.ke.out (by rintro⟨x,⟨⟩⟩;show (gf x,())=(Fd.inv (x:aE),());rw[gf,ay])
def aaT:Nat × Eng.Spec:=(183,ar [bC] [.val bC] (fun _=>True) (fun (x,_)=>(eC x,())))
def H3:Nat × Eng.Spec:=(180,ar [bC] [.val bC] (fun _=>True) (fun (x,_)=>(dx x,())))
def ac4:Nat × Eng.Spec:=(182,ar [bC] [.val bC] (fun _=>True) (fun (x,_)=>(gf x,())))
def Dv (f:aE):aE:=eC (eC (dx f*gf f))*(dx f*gf f)
def CD (x:aE) (n:Int):aE:=eJ x (num (bI n)).toNat
def Ry (f:aE):aE:=CD (CD f 15132376222941642753) 15132376222941642753
def Rz (a:aE):aE:=dx (CD a 15132376222941642752)*eC a
def RA (b:aE):aE:=CD (CD b 15132376222941642752) 15132376222941642752*eC (eC b)*dx b
def YH (f:aE):aE:=RA (Rz (Ry (Dv f)))*(Dv f*Dv f)*Dv f
def r9 (f:aE):aE:=cr (YH f)
theorem L4:enters Tryz.prog 143 Tryz.f143:=ek
theorem Ov:aB Tryz.prog 143 [bC] [.val bC] aM (fun _=>True) (fun (f,_)=>(r9 f,())):=by
 refine ax (sp:=aF [H3,ac4,tower.cK,aaT,fw,tower.pX,tower.bJ]) (ai (ak Kh) (ai (ak YY) (ai (ak tower.cL) (ai (ak VX) (ai (ak gO) (ai (ak tower.pC) (ai (ak tower.b9) aR))))))) mixed L4 (by decide) (by decide) ?_
 rintro w M0 ⟨f,⟨⟩⟩
 revert f
 intro (f:aE) _ _
 refine ao (X:=(True/\True/\True/\True/\True/\True/\True/\True/\(0:Nat)+(bI (15132376222941642753:Int)).length<=(bI (15132376222941642753:Int)).length/\om (eC (eC (dx f*gf f))*(dx f*gf f),List.take (bI (15132376222941642753:Int)).length (bI (15132376222941642753:Int)),())/\(0:Nat)+(bI (15132376222941642753:Int)).length<=(bI (15132376222941642753:Int)).length/\om (eJ (eC (eC (dx f*gf f))*(dx f*gf f)) (num (List.take (bI (15132376222941642753:Int)).length (bI (15132376222941642753:Int)))).toNat,List.take (bI (15132376222941642753:Int)).length (bI (15132376222941642753:Int)),())/\(0:Nat)+(bI (15132376222941642752:Int)).length<=(bI (15132376222941642752:Int)).length/\om (eJ (eJ (eC (eC (dx f*gf f))*(dx f*gf f)) (num (List.take (bI (15132376222941642753:Int)).length (bI (15132376222941642753:Int)))).toNat) (num (List.take (bI (15132376222941642753:Int)).length (bI (15132376222941642753:Int)))).toNat,List.take (bI (15132376222941642752:Int)).length (bI (15132376222941642752:Int)),())/\True/\True/\True/\(0:Nat)+(bI (15132376222941642752:Int)).length<=(bI (15132376222941642752:Int)).length/\om (dx (eJ (eJ (eJ (eC (eC (dx f*gf f))*(dx f*gf f)) (num (List.take (bI (15132376222941642753:Int)).length (bI (15132376222941642753:Int)))).toNat) (num (List.take (bI (15132376222941642753:Int)).length (bI (15132376222941642753:Int)))).toNat) (num (List.take (bI (15132376222941642752:Int)).length (bI (15132376222941642752:Int)))).toNat)*eC (eJ (eJ (eC (eC (dx f*gf f))*(dx f*gf f)) (num (List.take (bI (15132376222941642753:Int)).length (bI (15132376222941642753:Int)))).toNat) (num (List.take (bI (15132376222941642753:Int)).length (bI (15132376222941642753:Int)))).toNat),List.take (bI (15132376222941642752:Int)).length (bI (15132376222941642752:Int)),())/\(0:Nat)+(bI (15132376222941642752:Int)).length<=(bI (15132376222941642752:Int)).length/\om (eJ (dx (eJ (eJ (eJ (eC (eC (dx f*gf f))*(dx f*gf f)) (num (List.take (bI (15132376222941642753:Int)).length (bI (15132376222941642753:Int)))).toNat) (num (List.take (bI (15132376222941642753:Int)).length (bI (15132376222941642753:Int)))).toNat) (num (List.take (bI (15132376222941642752:Int)).length (bI (15132376222941642752:Int)))).toNat)*eC (eJ (eJ (eC (eC (dx f*gf f))*(dx f*gf f)) (num (List.take (bI (15132376222941642753:Int)).length (bI (15132376222941642753:Int)))).toNat) (num (List.take (bI (15132376222941642753:Int)).length (bI (15132376222941642753:Int)))).toNat)) (num (List.take (bI (15132376222941642752:Int)).length (bI (15132376222941642752:Int)))).toNat,List.take (bI (15132376222941642752:Int)).length (bI (15132376222941642752:Int)),())/\True/\True/\True/\True/\True/\True/\True/\True/\(eJ (eJ (dx (eJ (eJ (eJ (eC (eC (dx f*gf f))*(dx f*gf f)) (num (List.take (bI (15132376222941642753:Int)).length (bI (15132376222941642753:Int)))).toNat) (num (List.take (bI (15132376222941642753:Int)).length (bI (15132376222941642753:Int)))).toNat) (num (List.take (bI (15132376222941642752:Int)).length (bI (15132376222941642752:Int)))).toNat)*eC (eJ (eJ (eC (eC (dx f*gf f))*(dx f*gf f)) (num (List.take (bI (15132376222941642753:Int)).length (bI (15132376222941642753:Int)))).toNat) (num (List.take (bI (15132376222941642753:Int)).length (bI (15132376222941642753:Int)))).toNat)) (num (List.take (bI (15132376222941642752:Int)).length (bI (15132376222941642752:Int)))).toNat) (num (List.take (bI (15132376222941642752:Int)).length (bI (15132376222941642752:Int)))).toNat*eC (eC (dx (eJ (eJ (eJ (eC (eC (dx f*gf f))*(dx f*gf f)) (num (List.take (bI (15132376222941642753:Int)).length (bI (15132376222941642753:Int)))).toNat) (num (List.take (bI (15132376222941642753:Int)).length (bI (15132376222941642753:Int)))).toNat) (num (List.take (bI (15132376222941642752:Int)).length (bI (15132376222941642752:Int)))).toNat)*eC (eJ (eJ (eC (eC (dx f*gf f))*(dx f*gf f)) (num (List.take (bI (15132376222941642753:Int)).length (bI (15132376222941642753:Int)))).toNat) (num (List.take (bI (15132376222941642753:Int)).length (bI (15132376222941642753:Int)))).toNat)))*dx (dx (eJ (eJ (eJ (eC (eC (dx f*gf f))*(dx f*gf f)) (num (List.take (bI (15132376222941642753:Int)).length (bI (15132376222941642753:Int)))).toNat) (num (List.take (bI (15132376222941642753:Int)).length (bI (15132376222941642753:Int)))).toNat) (num (List.take (bI (15132376222941642752:Int)).length (bI (15132376222941642752:Int)))).toNat)*eC (eJ (eJ (eC (eC (dx f*gf f))*(dx f*gf f)) (num (List.take (bI (15132376222941642753:Int)).length (bI (15132376222941642753:Int)))).toNat) (num (List.take (bI (15132376222941642753:Int)).length (bI (15132376222941642753:Int)))).toNat))*(eC (eC (dx f*gf f))*(dx f*gf f)*(eC (eC (dx f*gf f))*(dx f*gf f)))*(eC (eC (dx f*gf f))*(dx f*gf f)),())=(r9 f,()))) (by kernel_rfl) ?_
 have l1:=JF 15132376222941642753
 have l2:=JF 15132376222941642752
 have b1:=NT 15132376222941642753
 have b2:=NT 15132376222941642752
 have p1:∀ x:aE,om (x,bI 15132376222941642753,()):=fun _=>⟨b1,by show (bI 15132376222941642753).length<=_;omega⟩
 have p2:∀ x:aE,om (x,bI 15132376222941642752,()):=fun _=>⟨b2,by show (bI 15132376222941642752).length<=_;omega⟩
 rw[List.take_length,List.take_length]
 repeat first|refine⟨trivial,?_⟩|refine⟨p1 _,?_⟩|refine⟨p2 _,?_⟩|refine⟨by omega,?_⟩
 rw[r9,ay]
 rfl
def SJ:Nat × Eng.Spec:=(143,ar [bC] [.val bC] (fun _=>True) (fun (f,_)=>(r9 f,())))
end
end Go.Proofs.YtbeeaekepmnfhaaGreatDoor.pairing
open Go.IntKind(i64 u64 u8)
namespace Go.Proofs.YtbeeaekepmnfhaaGreatDoor.pairing
open Go Go.Eng Go.RowKit Cr fp2 tower
def nj:ByteArray:=(ByteArray.mk ((([(0:UInt8),(1:UInt8),(2:UInt8),(2:UInt8),(3:UInt8),(3:UInt8),(3:UInt8),(3:UInt8),(4:UInt8),(4:UInt8),(4:UInt8),(4:UInt8),(4:UInt8),(4:UInt8),(4:UInt8),(4:UInt8),(5:UInt8),(5:UInt8),(5:UInt8),(5:UInt8),(5:UInt8),(5:UInt8),(5:UInt8),(5:UInt8),(5:UInt8),(5:UInt8),(5:UInt8),(5:UInt8),(5:UInt8),(5:UInt8),(5:UInt8),(5:UInt8),(6:UInt8),(6:UInt8),(6:UInt8),(6:UInt8),(6:UInt8),(6:UInt8),(6:UInt8),(6:UInt8),(6:UInt8),(6:UInt8),(6:UInt8),(6:UInt8),(6:UInt8),(6:UInt8),(6:UInt8),(6:UInt8),(6:UInt8),(6:UInt8),(6:UInt8),(6:UInt8),(6:UInt8),(6:UInt8),(6:UInt8),(6:UInt8),(6:UInt8),(6:UInt8),(6:UInt8),(6:UInt8),(6:UInt8),(6:UInt8),(6:UInt8),(6:UInt8)].append [(7:UInt8),(7:UInt8),(7:UInt8),(7:UInt8),(7:UInt8),(7:UInt8),(7:UInt8),(7:UInt8),(7:UInt8),(7:UInt8),(7:UInt8),(7:UInt8),(7:UInt8),(7:UInt8),(7:UInt8),(7:UInt8),(7:UInt8),(7:UInt8),(7:UInt8),(7:UInt8),(7:UInt8),(7:UInt8),(7:UInt8),(7:UInt8),(7:UInt8),(7:UInt8),(7:UInt8),(7:UInt8),(7:UInt8),(7:UInt8),(7:UInt8),(7:UInt8),(7:UInt8),(7:UInt8),(7:UInt8),(7:UInt8),(7:UInt8),(7:UInt8),(7:UInt8),(7:UInt8),(7:UInt8),(7:UInt8),(7:UInt8),(7:UInt8),(7:UInt8),(7:UInt8),(7:UInt8),(7:UInt8),(7:UInt8),(7:UInt8),(7:UInt8),(7:UInt8),(7:UInt8),(7:UInt8),(7:UInt8),(7:UInt8),(7:UInt8),(7:UInt8),(7:UInt8),(7:UInt8),(7:UInt8),(7:UInt8),(7:UInt8),(7:UInt8)]).append ([(8:UInt8),(8:UInt8),(8:UInt8),(8:UInt8),(8:UInt8),(8:UInt8),(8:UInt8),(8:UInt8),(8:UInt8),(8:UInt8),(8:UInt8),(8:UInt8),(8:UInt8),(8:UInt8),(8:UInt8),(8:UInt8),(8:UInt8),(8:UInt8),(8:UInt8),(8:UInt8),(8:UInt8),(8:UInt8),(8:UInt8),(8:UInt8),(8:UInt8),(8:UInt8),(8:UInt8),(8:UInt8),(8:UInt8),(8:UInt8),(8:UInt8),(8:UInt8),(8:UInt8),(8:UInt8),(8:UInt8),(8:UInt8),(8:UInt8),(8:UInt8),(8:UInt8),(8:UInt8),(8:UInt8),(8:UInt8),(8:UInt8),(8:UInt8),(8:UInt8),(8:UInt8),(8:UInt8),(8:UInt8),(8:UInt8),(8:UInt8),(8:UInt8),(8:UInt8),(8:UInt8),(8:UInt8),(8:UInt8),(8:UInt8),(8:UInt8),(8:UInt8),(8:UInt8),(8:UInt8),(8:UInt8),(8:UInt8),(8:UInt8),(8:UInt8)].append [(8:UInt8),(8:UInt8),(8:UInt8),(8:UInt8),(8:UInt8),(8:UInt8),(8:UInt8),(8:UInt8),(8:UInt8),(8:UInt8),(8:UInt8),(8:UInt8),(8:UInt8),(8:UInt8),(8:UInt8),(8:UInt8),(8:UInt8),(8:UInt8),(8:UInt8),(8:UInt8),(8:UInt8),(8:UInt8),(8:UInt8),(8:UInt8),(8:UInt8),(8:UInt8),(8:UInt8),(8:UInt8),(8:UInt8),(8:UInt8),(8:UInt8),(8:UInt8),(8:UInt8),(8:UInt8),(8:UInt8),(8:UInt8),(8:UInt8),(8:UInt8),(8:UInt8),(8:UInt8),(8:UInt8),(8:UInt8),(8:UInt8),(8:UInt8),(8:UInt8),(8:UInt8),(8:UInt8),(8:UInt8),(8:UInt8),(8:UInt8),(8:UInt8),(8:UInt8),(8:UInt8),(8:UInt8),(8:UInt8),(8:UInt8),(8:UInt8),(8:UInt8),(8:UInt8),(8:UInt8),(8:UInt8),(8:UInt8),(8:UInt8),(8:UInt8)])).toArray ))
theorem xM:enters Tryz.prog 138 Tryz.f138:=ek
theorem AY:aB Tryz.prog 138 [.int .u64] [.val (.int .i64)] aM (fun (n,_)=>n=(15132376222941642752:Int)) (fun _=>((64:Int),())):=by
 refine ax (sp:=aF []) aR mixed xM (by decide) (by decide) ?_
 rintro w M0 ⟨n,⟨⟩⟩
 revert n
 intro (n:Int) _ hn
 have hn:n=(15132376222941642752:Int):=hn
 subst hn
 refine ao (X:=((decide ((15132376222941642752:Int)>=4294967296)=true->(0:Int)<=32/\(decide (Int.fdiv 15132376222941642752 (2^min 32 u64.bits)>=65536)=true->(0:Int)<=16/\(decide ((Int.fdiv 15132376222941642752 (2^min 32 u64.bits)).fdiv (2^min 16 u64.bits)>=256)=true->(0:Int)<=8/\(0<=u8.wrap (((Int.fdiv 15132376222941642752 (2^min 32 u64.bits)).fdiv (2^min 16 u64.bits)).fdiv (2^min 8 u64.bits))/\u8.wrap (((Int.fdiv 15132376222941642752 (2^min 32 u64.bits)).fdiv (2^min 16 u64.bits)).fdiv (2^min 8 u64.bits))<(nj.size:Int))/\(i64.wrap (i64.wrap (i64.wrap ((32:Int)+16)+8)+i64.wrap (↑(UInt8.toNat (8:UInt8)):Int)),())=(64,()))/\(decide ((Int.fdiv 15132376222941642752 (2^min 32 u64.bits)).fdiv (2^min 16 u64.bits)>=256)=false->(0<=u8.wrap ((Int.fdiv 15132376222941642752 (2^min 32 u64.bits)).fdiv (2^min 16 u64.bits))/\u8.wrap ((Int.fdiv 15132376222941642752 (2^min 32 u64.bits)).fdiv (2^min 16 u64.bits))<(nj.size:Int))/\(i64.wrap (i64.wrap ((32:Int)+16)+i64.wrap (↑(UInt8.toNat (1:UInt8)):Int)),())=(64,())))/\(decide (Int.fdiv 15132376222941642752 (2^min 32 u64.bits)>=65536)=false->(decide (Int.fdiv 15132376222941642752 (2^min 32 u64.bits)>=256)=true->(0:Int)<=8/\(0<=u8.wrap ((Int.fdiv 15132376222941642752 (2^min 32 u64.bits)).fdiv (2^min 8 u64.bits))/\u8.wrap ((Int.fdiv 15132376222941642752 (2^min 32 u64.bits)).fdiv (2^min 8 u64.bits))<(nj.size:Int))/\(i64.wrap (i64.wrap ((32:Int)+8)+i64.wrap (↑(UInt8.toNat (0:UInt8)):Int)),())=(64,()))/\(decide (Int.fdiv 15132376222941642752 (2^min 32 u64.bits)>=256)=false->(0<=u8.wrap (Int.fdiv 15132376222941642752 (2^min 32 u64.bits))/\u8.wrap (Int.fdiv 15132376222941642752 (2^min 32 u64.bits))<(nj.size:Int))/\(i64.wrap (32+i64.wrap (↑(UInt8.toNat (0:UInt8)):Int)),())=(64,()))))/\(decide ((15132376222941642752:Int)>=4294967296)=false->(decide ((15132376222941642752:Int)>=65536)=true->(0:Int)<=16/\(decide (Int.fdiv 15132376222941642752 (2^min 16 u64.bits)>=256)=true->(0:Int)<=8/\(0<=u8.wrap ((Int.fdiv 15132376222941642752 (2^min 16 u64.bits)).fdiv (2^min 8 u64.bits))/\u8.wrap ((Int.fdiv 15132376222941642752 (2^min 16 u64.bits)).fdiv (2^min 8 u64.bits))<(nj.size:Int))/\(i64.wrap (i64.wrap (i64.wrap ((0:Int)+16)+8)+i64.wrap (↑(UInt8.toNat (0:UInt8)):Int)),())=(64,()))/\(decide (Int.fdiv 15132376222941642752 (2^min 16 u64.bits)>=256)=false->(0<=u8.wrap (Int.fdiv 15132376222941642752 (2^min 16 u64.bits))/\u8.wrap (Int.fdiv 15132376222941642752 (2^min 16 u64.bits))<(nj.size:Int))/\(i64.wrap (i64.wrap ((0:Int)+16)+i64.wrap (↑(UInt8.toNat (1:UInt8)):Int)),())=(64,())))/\(decide ((15132376222941642752:Int)>=65536)=false->(decide ((15132376222941642752:Int)>=256)=true->(0:Int)<=8/\(0<=u8.wrap (Int.fdiv 15132376222941642752 (2^min 8 u64.bits))/\u8.wrap (Int.fdiv 15132376222941642752 (2^min 8 u64.bits))<(nj.size:Int))/\(i64.wrap (i64.wrap ((0:Int)+8)+i64.wrap (↑(UInt8.toNat (0:UInt8)):Int)),())=(64,()))/\(decide ((15132376222941642752:Int)>=256)=false->(0<=u8.wrap 15132376222941642752/\u8.wrap 15132376222941642752<(nj.size:Int))/\(i64.wrap (0+i64.wrap (↑(UInt8.toNat (0:UInt8)):Int)),())=(64,())))))) (by kernel_rfl) ?_
 refine⟨fun _=>⟨by decide,fun _=>⟨by decide,fun _=>⟨by decide,⟨by decide,by decide⟩,?_⟩,fun h=>absurd h (by decide)⟩,fun h=>absurd h (by decide)⟩,fun h=>absurd h (by decide)⟩
 decide
noncomputable def vz:Nat × Eng.Spec:=(138,ar [.int .u64] [.val (.int .i64)] (fun (n,_)=>n=(15132376222941642752:Int)) (fun _=>((64:Int),())))
end Go.Proofs.YtbeeaekepmnfhaaGreatDoor.pairing
open Go.IntKind(i64 u64)
namespace Go.Proofs.YtbeeaekepmnfhaaGreatDoor.pairing
noncomputable section
open Go Go.Eng Go.RowKit Cr fp2 tower
abbrev aw:(Fp × Fp) × (F2 × F2) × (F2 × F2 × F2):=(((0:Fp),(0:Fp)),(((0:Fp),(0:Fp)),(0:Fp),(0:Fp)),((0:Fp),(0:Fp)),((0:Fp),(0:Fp)),(0:Fp),(0:Fp))
abbrev ns:Kd:=.pair bo (.pair ba vn)
abbrev Pr:=(Fp × Fp) × ((F2 × F2) × (F2 × F2 × F2))
def xh (p:Fp × Fp) (q:F2 × F2) (l:List Pr):List Pr:=match !gm bo p ((0:Fp),(0:Fp)),!gm ba q (((0:Fp),(0:Fp)),(0:Fp),(0:Fp)) with
 | true,true=>l++[(p,(q,(q.1,q.2,(1:F2))))]
 | _,_=>l
def gB (ps:List (Fp × Fp)) (qs:List (F2 × F2)) (k:Nat):List Pr:=it (fun i l=>xh (ps.getD i ((0:Fp),(0:Fp))) (qs.getD i (((0:Fp),(0:Fp)),(0:Fp),(0:Fp))) l) [] k
theorem WR (p:Fp × Fp) (q:F2 × F2) (l:List Pr):(xh p q l).length<=l.length+1:=by
 unfold xh
 split
 ·simp
 ·omega
theorem D3 (ps:List (Fp × Fp)) (qs:List (F2 × F2)):∀ k,(gB ps qs k).length<=k
 | 0=>Nat.zero_le _
 | k+1=>Nat.le_trans (WR _ _ _) (Nat.succ_le_succ (D3 ps qs k))
theorem N9:enters Tryz.prog 144 Tryz.f144:=ek
abbrev Hy:HL [.sl bo,.sl ba]->Prop:=fun (ps,qs,_)=>List.length ps<=List.length qs/\List.length ps<=1048576
def Kw (o:F2) (ps:List (Fp × Fp)) (qs:List (F2 × F2)) (g:Int × Nat × Nat × List Pr):St:=aY Tryz.f144.ntmps 88 [(1,.is (.one (.ro ba qs))),(4,.is (.one (.ptr 0 0))),(5,.is (.one (.ptr 16 0))),(6,.is (.one (.sl 48 0 0 g.2.1 72))),(19,.is (.one (.ro bo ps))),(20,sI .i64 ps.length),(21,sI .i64 g.1)] [(48,[.row ns g.2.2.1 g.2.2.2]),(16,cellsOf f2 o),(0,cellsOf bC (0:aE))]
def liO (g:Nat × Nat × List Pr):St:=aY Tryz.f144.ntmps 88 [(4,.is (.one (.ptr 0 0))),(6,.is (.one (.sl 48 0 0 g.1 72)))] [(48,[.row ns g.2.1 g.2.2]),(0,cellsOf bC (0:aE))]
def iG (b:Int):Bool:=av .and .u64 (Int.fdiv 15132376222941642752 (2^min b.toNat u64.bits)) 1==1
def qK (b:Bool) (f:aE) (k:Pr):aE × Pr:=match b with
 | false=>(f*dN (two k.2.2 k.1).2.1 (two k.2.2 k.1).2.2.1 (two k.2.2 k.1).2.2.2,(k.1,(k.2.1,(two k.2.2 k.1).1)))
 | true=>(f*dN (two k.2.2 k.1).2.1 (two k.2.2 k.1).2.2.1 (two k.2.2 k.1).2.2.2*dN (jB (two k.2.2 k.1).1 k.2.1 k.1).2.1 (jB (two k.2.2 k.1).1 k.2.1 k.1).2.2.1 (jB (two k.2.2 k.1).1 k.2.1 k.1).2.2.2,(k.1,(k.2.1,(jB (two k.2.2 k.1).1 k.2.1 k.1).1)))
def lA (b:Bool) (s:aE × List Pr) (i:Nat):aE × List Pr:=it (fun i s=>((qK b s.1 (s.2.getD i (zeroOf ns))).1,s.2.set i (qK b s.1 (s.2.getD i (zeroOf ns))).2)) s i
theorem DG (b:Bool) (s:aE × List Pr):∀ i,(lA b s i).2.length=s.2.length
 | 0=>rfl
 | i+1=>by show (List.set _ _ _).length=_;rw[List.length_set];exact DG b s i
def qZ (l:List Pr) (j:Nat):aE × List Pr:=it (fun j s=>lA (iG (62-(j:Int))) (s.1*s.1,s.2) l.length) (1,l) j
theorem KJ (l:List Pr):∀ j,(qZ l j).2.length=l.length
 | 0=>rfl
 | j+1=>by show (lA _ _ _).2.length=_;rw[DG];exact KJ l j
def Ar (L N:Nat) (g:Int × aE × List Pr):St:=aY Tryz.f144.ntmps 160 [(4,.is (.one (.ptr 0 0))),(6,.is (.one (.sl 48 0 0 L 72))),(10,.is (.one (.ptr 96 0))),(11,sI .i64 g.1)] [(48,[.row ns N g.2.2]),(96,Ey g.2.1),(0,cellsOf bC (0:aE))]
def Pd (L N:Nat) (b:Int) (g:Int × aE × List Pr):St:=aY Tryz.f144.ntmps 160 [(4,.is (.one (.ptr 0 0))),(6,.is (.one (.sl 48 0 0 L 72))),(10,.is (.one (.ptr 96 0))),(11,sI .i64 b),(65,sI .i64 L),(66,sI .i64 g.1)] [(48,[.row ns N g.2.2]),(96,Ey g.2.1),(0,cellsOf bC (0:aE))]
def Pc (ps:List (Fp × Fp)) (qs:List (F2 × F2)):aE:=match (gB ps qs ps.length).length with
 | 0=>1
 | _+1=>dx (qZ (gB ps qs ps.length) 63).1
def qR (ps:List (Fp × Fp)) (qs:List (F2 × F2)):aE:=cr (Pc ps qs)
theorem RI:aB Tryz.prog 144 [.sl bo,.sl ba] [.val bC] aM Hy (fun (ps,qs,_)=>(qR ps qs,())):=by
 have hsp:aN Tryz.prog (aF [fp2.ln,tower.kS,vz,tower.bJ,Ld,qI,tower.Qg,H3]):=ai (ak fp2.lK) (ai (ak tower.nM) (ai (ak AY) (ai (ak tower.b9) (ai (ak RM) (ai (ak pA) (ai (ak tower.VN) (ai (ak Kh) aR)))))))
 refine bh (sp:=aF [fp2.ln,tower.kS,vz,tower.bJ,Ld,qI,tower.Qg,H3]) N9 (by decide) (by decide) (by kernel_rfl) ?_
 rintro w M0 ⟨ps,qs,⟨⟩⟩
 revert ps qs
 intro (ps:List (Fp × Fp)) (qs:List (F2 × F2)) _ hp
 have hpq:ps.length<=qs.length:=hp.1
 have hpl:ps.length<=1048576:=hp.2
 show Tr _ _ _ _ _ _ _
 refine eB hsp mixed 4 (fun σ=>(ga f2 16 σ,PQ 48 σ,cN ns 48 σ)) (fun g=>Kw g.1 ps qs (0,0,g.2.1,g.2.2)) (fun g=>g.1=(1:F2)) ?_ ?_
 ·refine ao (X:=((dF (1:Int)/\dF (0:Int))/\((0:Int)<=(0:Int)/\(0:Int)<=(ps.length:Int)/\(↑(576:Nat):Int)*(ps.length:Int)<=(281474976710656:Int)/\(ps.length:Int)<=(9223372036854775807:Int))/\(Kw ((aj (1:Int),aj (0:Int)),(ps.length:Int).toNat,List.replicate (ps.length:Int).toNat aw).fst ps qs ((0:Int),(0:Nat),((aj (1:Int),aj (0:Int)),(ps.length:Int).toNat,List.replicate (ps.length:Int).toNat aw).snd.fst,((aj (1:Int),aj (0:Int)),(ps.length:Int).toNat,List.replicate (ps.length:Int).toNat aw).snd.snd)).ah ((aj (1:Int),aj (0:Int))=(1:F2)))) (by kernel_rfl) ?_
  refine⟨⟨⟨by decide,by decide⟩,⟨by decide,by decide⟩⟩,⟨by decide,by omega,by omega,by omega⟩,aA ?_⟩
  have h1:aj 1=(1:Fp):=Zm.ext (by decide)
  have h0:aj 0=(0:Fp):=Zm.ext (by decide)
  rw[h1,h0];rfl
 rintro⟨o,N0,x0⟩ ho
 revert o x0
 intro (o:F2) (x0:List Pr) (ho:o=(1:F2))
 refine bO hsp mixed (fun σ=>[(48,PO 6 σ)]) (fun σ=>(bU (.int .i64) 21 σ,yD 6 σ,PQ 48 σ,cN ns 48 σ)) (Kw o ps qs) (fun g=>∃ k:Nat,k<=ps.length/\g.1=(k:Int)/\g.2.1<=g.2.2.1/\g.2.2.2.take g.2.1=gB ps qs k/\g.2.1=(gB ps qs k).length) (fun g=>ps.length-g.1.toNat)
  (fun σ=>(yD 6 σ,PQ 48 σ,cN ns 48 σ)) liO (fun g=>g.1<=g.2.1/\g.2.2.take g.1=gB ps qs ps.length/\g.1=(gB ps qs ps.length).length) (0,0,N0,x0) (c:=aI (aJ Tryz.f144) 4) (by kernel_rfl) (by kernel_rfl) (aC (by kernel_rfl) (by kernel_rfl) ?_) ?_ ?_
 ·exact⟨0,Nat.zero_le _,rfl,Nat.zero_le _,rfl,rfl⟩
 ·rintro⟨i,L,N,xs⟩ hj
  revert i xs
  intro (i:Int) (xs:List Pr) ⟨k,hk,ei,hLN,hx,hL⟩
  have ei:i=(k:Int):=ei
  subst ei
  have hLN:L<=N:=hLN
  have hx:xs.take L=gB ps qs k:=hx
  have hL:L=(gB ps qs k).length:=hL
  refine ao (X:=((decide ((k:Int)<(ps.length:Int))=true->((0:Int)<=(k:Int)/\(k:Int)<(ps.length:Int))/\(k:Int).toNat<ps.length/\((0:Int)<=(k:Int)/\(k:Int)<(qs.length:Int))/\(k:Int).toNat<qs.length/\((!gm (Kd.fp.pair Kd.fp) (ps.getD (k:Int).toNat ((0:Fp),(0:Fp))) ((0:Fp),(0:Fp)))=true->((!gm ((Kd.fp.pair Kd.fp).pair (Kd.fp.pair Kd.fp)) (qs.getD (k:Int).toNat (((0:Fp),(0:Fp)),(0:Fp),(0:Fp))) (((0:Fp),(0:Fp)),(0:Fp),(0:Fp)))=true->0+1<=1/\L<=N/\(L+(1:Nat))*(576:Nat)<=(140737488355328:Nat)/\L+(1:Nat)<=(4611686018427387904:Nat)/\(Kw o ps qs (i64.wrap ((k:Int)+(1:Int)),L+(1:Nat),L+(1:Nat),List.take L xs++List.take 1 [(ps.getD (k:Int).toNat ((0:Fp),(0:Fp)),qs.getD (k:Int).toNat (((0:Fp),(0:Fp)),(0:Fp),(0:Fp)),(qs.getD (k:Int).toNat (((0:Fp),(0:Fp)),(0:Fp),(0:Fp))).fst,(qs.getD (k:Int).toNat (((0:Fp),(0:Fp)),(0:Fp),(0:Fp))).snd,o)])).ah ((∃ cE,cE<=ps.length/\i64.wrap ((k:Int)+(1:Int))=(cE:Int)/\L+(1:Nat)<=L+(1:Nat)/\List.take (L+(1:Nat)) (List.take L xs++List.take 1 [(ps.getD (k:Int).toNat ((0:Fp),(0:Fp)),qs.getD (k:Int).toNat (((0:Fp),(0:Fp)),(0:Fp),(0:Fp)),(qs.getD (k:Int).toNat (((0:Fp),(0:Fp)),(0:Fp),(0:Fp))).fst,(qs.getD (k:Int).toNat (((0:Fp),(0:Fp)),(0:Fp),(0:Fp))).snd,o)])=gB ps qs cE/\L+(1:Nat)=(gB ps qs cE).length)/\ps.length-(i64.wrap ((k:Int)+(1:Int))).toNat<ps.length-(k:Int).toNat))/\((!gm ((Kd.fp.pair Kd.fp).pair (Kd.fp.pair Kd.fp)) (qs.getD (k:Int).toNat (((0:Fp),(0:Fp)),(0:Fp),(0:Fp))) (((0:Fp),(0:Fp)),(0:Fp),(0:Fp)))=false->(Kw o ps qs (i64.wrap ((k:Int)+(1:Int)),L,N,xs)).ah ((∃ cE,cE<=ps.length/\i64.wrap ((k:Int)+(1:Int))=(cE:Int)/\L<=N/\List.take L xs=gB ps qs cE/\L=(gB ps qs cE).length)/\ps.length-(i64.wrap ((k:Int)+(1:Int))).toNat<ps.length-(k:Int).toNat)))/\((!gm (Kd.fp.pair Kd.fp) (ps.getD (k:Int).toNat ((0:Fp),(0:Fp))) ((0:Fp),(0:Fp)))=false->(Kw o ps qs (i64.wrap ((k:Int)+(1:Int)),L,N,xs)).ah ((∃ cE,cE<=ps.length/\i64.wrap ((k:Int)+(1:Int))=(cE:Int)/\L<=N/\List.take L xs=gB ps qs cE/\L=(gB ps qs cE).length)/\ps.length-(i64.wrap ((k:Int)+(1:Int))).toNat<ps.length-(k:Int).toNat)))/\(decide ((k:Int)<(ps.length:Int))=false->(liO (L,N,xs)).ah (L<=N/\List.take L xs=gB ps qs ps.length/\L=(gB ps qs ps.length).length)))) (by kernel_rfl) ?_
  have hstep:gB ps qs (k+1)=xh (ps.getD k ((0:Fp),(0:Fp))) (qs.getD k (((0:Fp),(0:Fp)),(0:Fp),(0:Fp))) (gB ps qs k):=rfl
  have hle:=D3 ps qs k
  refine⟨fun h=>?_,fun h=>aA ?_⟩
  ·have hlt:k<ps.length:=by have:=Odt h;omega
   rw[aQ (by omega)]
   simp only[Int.toNat_natCast]
   refine⟨⟨by omega,by omega⟩,hlt,⟨by omega,by omega⟩,by omega,fun h1=>⟨fun h2=>⟨by decide,hLN,by omega,by omega,aA ⟨⟨k+1,hlt,rfl,Nat.le_refl _,?_,?_⟩,by omega⟩⟩,fun h2=>aA ⟨⟨k+1,hlt,rfl,hLN,?_,?_⟩,by omega⟩⟩,fun h1=>aA ⟨⟨k+1,hlt,rfl,hLN,?_,?_⟩,by omega⟩⟩
   ·rw[hstep,xh,h1,h2,hx,List.take_of_length_le (by rw[List.length_append,<- hL];exact Nat.le_refl _),ho];rfl
   ·rw[hstep,xh,h1,h2]
    show L+1=(gB ps qs k++[_]).length
    rw[List.length_append,<- hL];rfl
   ·rw[hstep,xh,h1,h2,hx]
   ·rw[hstep,xh,h1,h2,hL]
   ·rw[hstep,xh,h1,hx]
   ·rw[hstep,xh,h1,hL]
  ·have hk2:k=ps.length:=by have:=Odf h;omega
   rw[hk2] at hx hL
   exact⟨hLN,hx,hL⟩
 rintro⟨L,N,xs⟩ hj
 revert xs
 intro (xs:List Pr) ⟨hLN,hx,hL⟩
 have hLN:L<=N:=hLN
 have hx:xs.take L=gB ps qs ps.length:=hx
 have hL:L=(gB ps qs ps.length).length:=hL
 refine eB hsp mixed 4 (fun σ=>ga bC 96 σ) (fun f=>Ar L N (62,f,xs)) (fun f=>f=(1:aE)/\0<L) ?_ ?_
 ·refine ao (X:=(True/\(((L:Int)==(0:Int))=true->(((((1:Fp),(0:Fp)),((0:Fp),(0:Fp)),(0:Fp),(0:Fp)),((0:Fp),(0:Fp)),((0:Fp),(0:Fp)),(0:Fp),(0:Fp)),())=(qR ps qs,()))/\(((L:Int)==(0:Int))=false->(15132376222941642752:Int)=(15132376222941642752:Int)/\(Ar L N ((62:Int),((((1:Fp),(0:Fp)),((0:Fp),(0:Fp)),(0:Fp),(0:Fp)),((0:Fp),(0:Fp)),((0:Fp),(0:Fp)),(0:Fp),(0:Fp)),xs)).ah (((((1:Fp),(0:Fp)),((0:Fp),(0:Fp)),(0:Fp),(0:Fp)),((0:Fp),(0:Fp)),((0:Fp),(0:Fp)),(0:Fp),(0:Fp))=(1:aE)/\(0:Nat)<L)))) (by kernel_rfl) ?_
  refine⟨trivial,fun h=>?_,fun h=>⟨rfl,aA ⟨rfl,?_⟩⟩⟩
  ·have h0:L=0:=by have:(L:Int)=0:=by simpa using h
                   omega
   rw[qR,ay,Pc,<- hL,h0];rfl
  ·have h0:¬ (L:Int)=0:=by simpa using h
   omega
 rintro f0 ⟨hf0,hL0⟩
 revert f0
 intro (f0:aE) (hf0:f0=1)
 refine fh dA (fun σ=>(bU (.int .i64) 11 σ,ga bC 96 σ,cN ns 48 σ)) (Ar L N) (fun g=>∃ j:Nat,j<=63/\g.1=62-(j:Int)/\(g.2.1,g.2.2.take L)=qZ (gB ps qs ps.length) j) (fun g=>(g.1+1).toNat)
  (fun σ=>(bU (.int .i64) 11 σ,ga bC 96 σ,cN ns 48 σ)) (Ar L N) (fun g=>g.2.1=(qZ (gB ps qs ps.length) 63).1) (62,f0,xs) (c:=aI (aJ Tryz.f144) 9) (by kernel_rfl) (by kernel_rfl) (aC (by kernel_rfl) (by kernel_rfl) ?_) ?_ ?_
 ·refine⟨0,by decide,rfl,?_⟩
  show (f0,xs.take L)=(1,gB ps qs ps.length)
  rw[hf0,hx]
 ·rintro⟨b,f,ys⟩ hj
  revert b f ys
  intro (b:Int) (f:aE) (ys:List Pr) ⟨j,hj,eb,es⟩
  have hj:j<=63:=hj
  have eb:b=62-(j:Int):=eb
  have es:(f,ys.take L)=qZ (gB ps qs ps.length) j:=es
  refine aP hsp mixed 2 (Ar L N (b,f,ys)) (j<63) ?_ (fun hj63=>?_)
  ·refine ao (X:=((decide (b>=(0:Int))=true->(Ar L N (b,f,ys)).ah (j<(63:Nat)))/\(decide (b>=(0:Int))=false->(Ar L N (b,f,ys)).ah (f=(qZ (gB ps qs ps.length) (63:Nat)).fst)))) (by kernel_rfl) ?_
   refine⟨fun h=>aA (by have h:b>=0:=Odt h
                        omega),fun h=>aA ?_⟩
   have h:¬ b>=0:=Odf h
   have ej:j=63:=by omega
   rw[<- ej,<- es]
  refine eG (c:=aI (bQ (aI (aJ Tryz.f144) 9)) 2) (by kernel_rfl) (by kernel_rfl) ?_
  refine eB hsp mixed 2 (fun σ=>ga bC 96 σ) (fun f2=>Pd L N b (0,f2,ys)) (fun f2=>f2=f*f) ?_ ?_
  ·refine ao (X:=(True/\(Pd L N b ((0:Int),f*f,ys)).ah (f*f=f*f))) (by kernel_rfl) ?_
   exact⟨trivial,aA (by first|exact trivial|rfl)⟩
  intro (f2:aE) (hf2:f2=f*f)
  refine bO hsp mixed dA (fun σ=>(bU (.int .i64) 66 σ,ga bC 96 σ,cN ns 48 σ)) (Pd L N b) (fun g=>∃ i:Nat,i<=L/\g.1=(i:Int)/\(g.2.1,g.2.2.take L)=lA (iG b) (f*f,ys.take L) i) (fun g=>L-g.1.toNat)
   (fun σ=>(ga bC 96 σ,cN ns 48 σ)) (fun g=>Ar L N (b,g.1,g.2)) (fun g=>(g.1,g.2.take L)=lA (iG b) (f*f,ys.take L) L) (0,f2,ys) (c:=aI (fz (aI (bQ (aI (aJ Tryz.f144) 9)) 2)) 2) (by kernel_rfl) (by kernel_rfl) (aC (by kernel_rfl) (by kernel_rfl) ?_) ?_ ?_
  ·exact⟨0,Nat.zero_le _,rfl,by rw[hf2];rfl⟩
  ·rintro⟨i,f3,zs⟩ hi
   revert i f3 zs
   intro (i:Int) (f3:aE) (zs:List Pr) ⟨t,ht,ei,es3⟩
   have ei:i=(t:Int):=ei
   subst ei
   have ht:t<=L:=ht
   have es3:(f3,zs.take L)=lA (iG b) (f*f,ys.take L) t:=es3
   refine ao (X:=((decide ((t:Int)<(L:Int))=true->((0:Int)<=(t:Int)/\(t:Int)<(L:Int))/\(t:Int).toNat<N/\(t:Int).toNat<N/\True/\(t:Int).toNat<N/\True/\(0:Int)<=b/\((av BinOp.and u64 (Int.fdiv (15132376222941642752:Int) ((2:Int)^min b.toNat u64.bits)) (1:Int)==(1:Int))=true->(t:Int).toNat<N/\(t:Int).toNat<N/\(t:Int).toNat<N/\True/\(t:Int).toNat<N/\True/\(Pd L N b (i64.wrap ((t:Int)+(1:Int)),f3*dN (two (zs.getD (t:Int).toNat aw).snd.snd (zs.getD (t:Int).toNat aw).fst).snd.fst (two (zs.getD (t:Int).toNat aw).snd.snd (zs.getD (t:Int).toNat aw).fst).snd.snd.fst (two (zs.getD (t:Int).toNat aw).snd.snd (zs.getD (t:Int).toNat aw).fst).snd.snd.snd*dN (jB ((zs.set (t:Int).toNat ((zs.getD (t:Int).toNat aw).fst,(zs.getD (t:Int).toNat aw).snd.fst,(two (zs.getD (t:Int).toNat aw).snd.snd (zs.getD (t:Int).toNat aw).fst).fst)).getD (t:Int).toNat aw).snd.snd ((zs.set (t:Int).toNat ((zs.getD (t:Int).toNat aw).fst,(zs.getD (t:Int).toNat aw).snd.fst,(two (zs.getD (t:Int).toNat aw).snd.snd (zs.getD (t:Int).toNat aw).fst).fst)).getD (t:Int).toNat aw).snd.fst ((zs.set (t:Int).toNat ((zs.getD (t:Int).toNat aw).fst,(zs.getD (t:Int).toNat aw).snd.fst,(two (zs.getD (t:Int).toNat aw).snd.snd (zs.getD (t:Int).toNat aw).fst).fst)).getD (t:Int).toNat aw).fst).snd.fst (jB ((zs.set (t:Int).toNat ((zs.getD (t:Int).toNat aw).fst,(zs.getD (t:Int).toNat aw).snd.fst,(two (zs.getD (t:Int).toNat aw).snd.snd (zs.getD (t:Int).toNat aw).fst).fst)).getD (t:Int).toNat aw).snd.snd ((zs.set (t:Int).toNat ((zs.getD (t:Int).toNat aw).fst,(zs.getD (t:Int).toNat aw).snd.fst,(two (zs.getD (t:Int).toNat aw).snd.snd (zs.getD (t:Int).toNat aw).fst).fst)).getD (t:Int).toNat aw).snd.fst ((zs.set (t:Int).toNat ((zs.getD (t:Int).toNat aw).fst,(zs.getD (t:Int).toNat aw).snd.fst,(two (zs.getD (t:Int).toNat aw).snd.snd (zs.getD (t:Int).toNat aw).fst).fst)).getD (t:Int).toNat aw).fst).snd.snd.fst (jB ((zs.set (t:Int).toNat ((zs.getD (t:Int).toNat aw).fst,(zs.getD (t:Int).toNat aw).snd.fst,(two (zs.getD (t:Int).toNat aw).snd.snd (zs.getD (t:Int).toNat aw).fst).fst)).getD (t:Int).toNat aw).snd.snd ((zs.set (t:Int).toNat ((zs.getD (t:Int).toNat aw).fst,(zs.getD (t:Int).toNat aw).snd.fst,(two (zs.getD (t:Int).toNat aw).snd.snd (zs.getD (t:Int).toNat aw).fst).fst)).getD (t:Int).toNat aw).snd.fst ((zs.set (t:Int).toNat ((zs.getD (t:Int).toNat aw).fst,(zs.getD (t:Int).toNat aw).snd.fst,(two (zs.getD (t:Int).toNat aw).snd.snd (zs.getD (t:Int).toNat aw).fst).fst)).getD (t:Int).toNat aw).fst).snd.snd.snd,(zs.set (t:Int).toNat ((zs.getD (t:Int).toNat aw).fst,(zs.getD (t:Int).toNat aw).snd.fst,(two (zs.getD (t:Int).toNat aw).snd.snd (zs.getD (t:Int).toNat aw).fst).fst)).set (t:Int).toNat (((zs.set (t:Int).toNat ((zs.getD (t:Int).toNat aw).fst,(zs.getD (t:Int).toNat aw).snd.fst,(two (zs.getD (t:Int).toNat aw).snd.snd (zs.getD (t:Int).toNat aw).fst).fst)).getD (t:Int).toNat aw).fst,((zs.set (t:Int).toNat ((zs.getD (t:Int).toNat aw).fst,(zs.getD (t:Int).toNat aw).snd.fst,(two (zs.getD (t:Int).toNat aw).snd.snd (zs.getD (t:Int).toNat aw).fst).fst)).getD (t:Int).toNat aw).snd.fst,(jB ((zs.set (t:Int).toNat ((zs.getD (t:Int).toNat aw).fst,(zs.getD (t:Int).toNat aw).snd.fst,(two (zs.getD (t:Int).toNat aw).snd.snd (zs.getD (t:Int).toNat aw).fst).fst)).getD (t:Int).toNat aw).snd.snd ((zs.set (t:Int).toNat ((zs.getD (t:Int).toNat aw).fst,(zs.getD (t:Int).toNat aw).snd.fst,(two (zs.getD (t:Int).toNat aw).snd.snd (zs.getD (t:Int).toNat aw).fst).fst)).getD (t:Int).toNat aw).snd.fst ((zs.set (t:Int).toNat ((zs.getD (t:Int).toNat aw).fst,(zs.getD (t:Int).toNat aw).snd.fst,(two (zs.getD (t:Int).toNat aw).snd.snd (zs.getD (t:Int).toNat aw).fst).fst)).getD (t:Int).toNat aw).fst).fst))).ah ((∃ i,i<=L/\i64.wrap ((t:Int)+(1:Int))=(i:Int)/\(f3*dN (two (zs.getD (t:Int).toNat aw).snd.snd (zs.getD (t:Int).toNat aw).fst).snd.fst (two (zs.getD (t:Int).toNat aw).snd.snd (zs.getD (t:Int).toNat aw).fst).snd.snd.fst (two (zs.getD (t:Int).toNat aw).snd.snd (zs.getD (t:Int).toNat aw).fst).snd.snd.snd*dN (jB ((zs.set (t:Int).toNat ((zs.getD (t:Int).toNat aw).fst,(zs.getD (t:Int).toNat aw).snd.fst,(two (zs.getD (t:Int).toNat aw).snd.snd (zs.getD (t:Int).toNat aw).fst).fst)).getD (t:Int).toNat aw).snd.snd ((zs.set (t:Int).toNat ((zs.getD (t:Int).toNat aw).fst,(zs.getD (t:Int).toNat aw).snd.fst,(two (zs.getD (t:Int).toNat aw).snd.snd (zs.getD (t:Int).toNat aw).fst).fst)).getD (t:Int).toNat aw).snd.fst ((zs.set (t:Int).toNat ((zs.getD (t:Int).toNat aw).fst,(zs.getD (t:Int).toNat aw).snd.fst,(two (zs.getD (t:Int).toNat aw).snd.snd (zs.getD (t:Int).toNat aw).fst).fst)).getD (t:Int).toNat aw).fst).snd.fst (jB ((zs.set (t:Int).toNat ((zs.getD (t:Int).toNat aw).fst,(zs.getD (t:Int).toNat aw).snd.fst,(two (zs.getD (t:Int).toNat aw).snd.snd (zs.getD (t:Int).toNat aw).fst).fst)).getD (t:Int).toNat aw).snd.snd ((zs.set (t:Int).toNat ((zs.getD (t:Int).toNat aw).fst,(zs.getD (t:Int).toNat aw).snd.fst,(two (zs.getD (t:Int).toNat aw).snd.snd (zs.getD (t:Int).toNat aw).fst).fst)).getD (t:Int).toNat aw).snd.fst ((zs.set (t:Int).toNat ((zs.getD (t:Int).toNat aw).fst,(zs.getD (t:Int).toNat aw).snd.fst,(two (zs.getD (t:Int).toNat aw).snd.snd (zs.getD (t:Int).toNat aw).fst).fst)).getD (t:Int).toNat aw).fst).snd.snd.fst (jB ((zs.set (t:Int).toNat ((zs.getD (t:Int).toNat aw).fst,(zs.getD (t:Int).toNat aw).snd.fst,(two (zs.getD (t:Int).toNat aw).snd.snd (zs.getD (t:Int).toNat aw).fst).fst)).getD (t:Int).toNat aw).snd.snd ((zs.set (t:Int).toNat ((zs.getD (t:Int).toNat aw).fst,(zs.getD (t:Int).toNat aw).snd.fst,(two (zs.getD (t:Int).toNat aw).snd.snd (zs.getD (t:Int).toNat aw).fst).fst)).getD (t:Int).toNat aw).snd.fst ((zs.set (t:Int).toNat ((zs.getD (t:Int).toNat aw).fst,(zs.getD (t:Int).toNat aw).snd.fst,(two (zs.getD (t:Int).toNat aw).snd.snd (zs.getD (t:Int).toNat aw).fst).fst)).getD (t:Int).toNat aw).fst).snd.snd.snd,List.take L ((zs.set (t:Int).toNat ((zs.getD (t:Int).toNat aw).fst,(zs.getD (t:Int).toNat aw).snd.fst,(two (zs.getD (t:Int).toNat aw).snd.snd (zs.getD (t:Int).toNat aw).fst).fst)).set (t:Int).toNat (((zs.set (t:Int).toNat ((zs.getD (t:Int).toNat aw).fst,(zs.getD (t:Int).toNat aw).snd.fst,(two (zs.getD (t:Int).toNat aw).snd.snd (zs.getD (t:Int).toNat aw).fst).fst)).getD (t:Int).toNat aw).fst,((zs.set (t:Int).toNat ((zs.getD (t:Int).toNat aw).fst,(zs.getD (t:Int).toNat aw).snd.fst,(two (zs.getD (t:Int).toNat aw).snd.snd (zs.getD (t:Int).toNat aw).fst).fst)).getD (t:Int).toNat aw).snd.fst,(jB ((zs.set (t:Int).toNat ((zs.getD (t:Int).toNat aw).fst,(zs.getD (t:Int).toNat aw).snd.fst,(two (zs.getD (t:Int).toNat aw).snd.snd (zs.getD (t:Int).toNat aw).fst).fst)).getD (t:Int).toNat aw).snd.snd ((zs.set (t:Int).toNat ((zs.getD (t:Int).toNat aw).fst,(zs.getD (t:Int).toNat aw).snd.fst,(two (zs.getD (t:Int).toNat aw).snd.snd (zs.getD (t:Int).toNat aw).fst).fst)).getD (t:Int).toNat aw).snd.fst ((zs.set (t:Int).toNat ((zs.getD (t:Int).toNat aw).fst,(zs.getD (t:Int).toNat aw).snd.fst,(two (zs.getD (t:Int).toNat aw).snd.snd (zs.getD (t:Int).toNat aw).fst).fst)).getD (t:Int).toNat aw).fst).fst)))=lA (iG b) (f*f,List.take L ys) i)/\L-(i64.wrap ((t:Int)+(1:Int))).toNat<L-(t:Int).toNat))/\((av BinOp.and u64 (Int.fdiv (15132376222941642752:Int) ((2:Int)^min b.toNat u64.bits)) (1:Int)==(1:Int))=false->(Pd L N b (i64.wrap ((t:Int)+(1:Int)),f3*dN (two (zs.getD (t:Int).toNat aw).snd.snd (zs.getD (t:Int).toNat aw).fst).snd.fst (two (zs.getD (t:Int).toNat aw).snd.snd (zs.getD (t:Int).toNat aw).fst).snd.snd.fst (two (zs.getD (t:Int).toNat aw).snd.snd (zs.getD (t:Int).toNat aw).fst).snd.snd.snd,zs.set (t:Int).toNat ((zs.getD (t:Int).toNat aw).fst,(zs.getD (t:Int).toNat aw).snd.fst,(two (zs.getD (t:Int).toNat aw).snd.snd (zs.getD (t:Int).toNat aw).fst).fst))).ah ((∃ i,i<=L/\i64.wrap ((t:Int)+(1:Int))=(i:Int)/\(f3*dN (two (zs.getD (t:Int).toNat aw).snd.snd (zs.getD (t:Int).toNat aw).fst).snd.fst (two (zs.getD (t:Int).toNat aw).snd.snd (zs.getD (t:Int).toNat aw).fst).snd.snd.fst (two (zs.getD (t:Int).toNat aw).snd.snd (zs.getD (t:Int).toNat aw).fst).snd.snd.snd,List.take L (zs.set (t:Int).toNat ((zs.getD (t:Int).toNat aw).fst,(zs.getD (t:Int).toNat aw).snd.fst,(two (zs.getD (t:Int).toNat aw).snd.snd (zs.getD (t:Int).toNat aw).fst).fst)))=lA (iG b) (f*f,List.take L ys) i)/\L-(i64.wrap ((t:Int)+(1:Int))).toNat<L-(t:Int).toNat)))/\(decide ((t:Int)<(L:Int))=false->(Ar L N (b,(f3,zs).fst,(f3,zs).snd)).ah ((f3,List.take L zs)=lA (iG b) (f*f,List.take L ys) L)))) (by kernel_rfl) ?_
   have hkl:(zs.take L).length=L:=by
    have h1:=congrArg (fun s:aE × List Pr=>s.2.length) es3
    have h2:=congrArg (fun s:aE × List Pr=>s.2.length) es
    simp only[DG,KJ] at h1 h2
    rw[h1,h2,<- hL]
   have hzL:L<=zs.length:=by rw[List.length_take] at hkl;omega
   refine⟨fun h=>?_,fun h=>aA ?_⟩
   ·have htL:t<L:=by have:=Odt h;omega
    have hd:zs.getD t (zeroOf ns)=(zs.take L).getD t (zeroOf ns):=by
     simp only[List.getD_eq_getElem?_getD,List.getElem?_take,htL,if_true]
    obtain⟨Z,hZ⟩:∃ Z,Z=zs.getD t (zeroOf ns):=⟨_,rfl⟩
    have hZ1:zs.getD t aw=Z:=hZ.symm
    have hs:∀ v:Pr,(zs.set t v).getD t aw=v:=fun v=>by
     simp[show t<zs.length by omega]
    have hT:∀ v:Pr,(zs.set t v).take L=(zs.take L).set t v:=fun v=>by rw[List.take_set]
    have hb0:0<=b:=by omega
    have hLp:=D3 ps qs ps.length
    have hLb:L<=1048576:=by omega
    have hin:lA (iG b) (f*f,ys.take L) (t+1)=((qK (iG b) f3 Z).1,(zs.take L).set t (qK (iG b) f3 Z).2):=by
     show ((qK (iG b) (lA (iG b) (f*f,ys.take L) t).1 ((lA (iG b) (f*f,ys.take L) t).2.getD t (zeroOf ns))).1,(lA (iG b) (f*f,ys.take L) t).2.set t (qK (iG b) (lA (iG b) (f*f,ys.take L) t).1 ((lA (iG b) (f*f,ys.take L) t).2.getD t (zeroOf ns))).2)=_
     rw[<- es3,hZ,hd]
    rw[aQ (by omega)]
    simp only[Int.toNat_natCast]
    rw[hZ1]
    simp only[hs,List.set_set]
    have htN:t<N:=by omega
    refine⟨⟨by omega,by omega⟩,htN,htN,trivial,htN,trivial,hb0,fun h1=>?_,fun h1=>?_⟩
    ·have hp1:iG b=true:=h1
     refine⟨htN,htN,htN,trivial,htN,trivial,aA ⟨⟨t+1,htL,rfl,?_⟩,by omega⟩⟩
     rw[hin,hp1,<- hT];rfl
    ·have hp1:iG b=false:=h1
     refine aA ⟨⟨t+1,htL,rfl,?_⟩,by omega⟩
     rw[hin,hp1,<- hT];rfl
   ·have htL:t=L:=by have:=Odf h;omega
    rw[htL] at es3
    exact es3
  rintro⟨f4,zs⟩ h4
  revert f4 zs
  intro (f4:aE) (zs:List Pr) (h4:(f4,zs.take L)=lA (iG b) (f*f,ys.take L) L)
  refine ig ?_
  refine bf hsp mixed _ _ ?_
  refine ao (X:=((Ar L N (i64.wrap (b-(1:Int)),f4,zs)).ah ((∃ j,j<=(63:Nat)/\i64.wrap (b-(1:Int))=(62:au (Kd.int i64))-(j:Int)/\(f4,List.take L zs)=qZ (gB ps qs ps.length) j)/\Int.toNat (i64.wrap (b-(1:Int))+(1:au (Kd.int i64)))<Int.toNat (b+(1:au (Kd.int i64)))))) (by kernel_rfl) ?_
  have hw:i64.wrap (b-1)=b-1:=aG (by omega) (by omega)
  refine aA ⟨⟨j+1,hj63,?_,?_⟩,?_⟩
  ·show i64.wrap (b-1)=62-((j+1:Nat):Int)
   rw[hw];omega
  ·show (f4,zs.take L)=lA (iG (62-(j:Int))) ((qZ (gB ps qs ps.length) j).1*(qZ (gB ps qs ps.length) j).1,(qZ (gB ps qs ps.length) j).2) (gB ps qs ps.length).length
   rw[<- es,<- hL,<- eb];exact h4
  ·show (i64.wrap (b-1)+1).toNat<(b+1).toNat
   rw[hw];omega
 rintro⟨b,f,ys⟩ hf
 revert b f ys
 intro (b:Int) (f:aE) (ys:List Pr) (hf:f=(qZ (gB ps qs ps.length) 63).1)
 refine bf hsp mixed _ _ ?_
 refine ao (X:=(True/\(dx f,())=(qR ps qs,()))) (by kernel_rfl) ?_
 refine⟨trivial,?_⟩
 obtain⟨m,hm⟩:∃ m,L=m+1:=⟨L-1,by omega⟩
 rw[qR,ay,Pc,<- hL,hm,hf]
def Xd:Nat × Eng.Spec:=(144,ar [.sl bo,.sl ba] [.val bC] Hy (fun (ps,qs,_)=>(qR ps qs,())))
end
end Go.Proofs.YtbeeaekepmnfhaaGreatDoor.pairing
namespace Go.Proofs.YtbeeaekepmnfhaaGreatDoor.pairing
open Go Go.Eng Go.RowKit Cr fp2 tower
theorem N6:enters Tryz.prog 97 Tryz.f97:=ek
noncomputable def ui (ps:List (Fp × Fp)) (qs:List (F2 × F2)):Bool:=match decide (ps.length=qs.length) with
 | true=>gm bC (r9 (qR ps qs)) (1:aE)
 | false=>false
noncomputable def NY (ps:List (Fp × Fp)):Nat:=cr ps.length
abbrev Hw:HL [.sl bo,.sl ba]->Prop:=fun (ps,_)=>NY ps<=1048576
theorem RD:aB Tryz.prog 97 [.sl bo,.sl ba] [.val .bool] aM Hw (fun (ps,qs,_)=>(ui ps qs,())):=by
 refine ax (sp:=aF [Xd,SJ,tower.kS]) (ai (ak RI) (ai (ak Ov) (ai (ak tower.nM) aR))) mixed N6 (by decide) (by decide) ?_
 rintro w M0 ⟨ps,qs,⟨⟩⟩
 revert ps qs
 intro (ps:List (Fp × Fp)) (qs:List (F2 × F2)) _ hp
 have hp:NY ps<=1048576:=hp
 rw[NY,ay] at hp
 refine ao (X:=((((ps.length:Int) != (qs.length:Int))=true->(false,())=(ui ps qs,()))/\(((ps.length:Int) != (qs.length:Int))=false->Hy (ps,qs,())/\True/\True/\(gm (((Kd.fp.pair Kd.fp).pair ((Kd.fp.pair Kd.fp).pair (Kd.fp.pair Kd.fp))).pair ((Kd.fp.pair Kd.fp).pair ((Kd.fp.pair Kd.fp).pair (Kd.fp.pair Kd.fp)))) (r9 (qR ps qs)) ((((1:Fp),(0:Fp)),((0:Fp),(0:Fp)),(0:Fp),(0:Fp)),((0:Fp),(0:Fp)),((0:Fp),(0:Fp)),(0:Fp),(0:Fp)),())=(ui ps qs,())))) (by kernel_rfl) ?_
 refine⟨fun h=>?_,fun h=>?_⟩
 ·have h1:¬ ps.length=qs.length:=by simp at h;omega
  rw[ui,decide_eq_false h1]
 ·have h1:ps.length=qs.length:=by simp at h;omega
  refine⟨⟨by show ps.length<=qs.length;omega,hp⟩,trivial,trivial,?_⟩
  rw[ui,decide_eq_true h1];rfl
noncomputable def Xb:Nat × Eng.Spec:=(97,ar [.sl bo,.sl ba] [.val .bool] Hw (fun (ps,qs,_)=>(ui ps qs,())))
end Go.Proofs.YtbeeaekepmnfhaaGreatDoor.pairing
namespace Go.Proofs.YtbeeaekepmnfhaaGreatDoor.tower
open Go Go.Eng Go.RowKit Cr Go.Proofs.YtbeeaekepmnfhaaGreatDoor Go.Proofs.YtbeeaekepmnfhaaGreatDoor.fp2
theorem HP {q:Nat} (hq:q=bM/6):fm=az xi q:=by
 obtain⟨m,hm⟩:∃ m,m=(num fK/12).toNat:=⟨_,rfl⟩
 have hm2:m=bM/12:=hm.trans (Odt (by kernel_rfl))
 have h1:q=2*m+1:=by rw[hq,hm2];exact Odt (by kernel_rfl)
 have h2:m=2*(2*(bM/48))+2+1:=hm2.trans (Odt (by kernel_rfl))
 rw[UT h1 h2,<- th]
 show (zpow _ _,-zpow _ _)=_
 rw[<- hm]
theorem Gx {p:Nat} (hp:p=bM) (x:aE):zx x=az x p:=by
 have hq:p=6*(bM/6)+1:=hp.trans (Odt (by kernel_rfl))
 rw[aao hp hq,<- HP rfl];rfl
end Go.Proofs.YtbeeaekepmnfhaaGreatDoor.tower
namespace Go.Proofs.YtbeeaekepmnfhaaGreatDoor.pairing
open Go Go.Eng Go.RowKit Cr Go.Proofs.YtbeeaekepmnfhaaGreatDoor Go.Proofs.YtbeeaekepmnfhaaGreatDoor.fp2 Go.Proofs.YtbeeaekepmnfhaaGreatDoor.tower
theorem x8 {p:Nat} (hp:p=bM) (x:aE):eC x=az x p:=by rw[eC,ay,Gx hp]
theorem qp {p:Nat} (hp:p=bM) (x:aE):dx x=az x (p^6):=by rw[dx,ay,D6 hp];rfl
theorem Vy {p n:Nat} (hp:p=bM) (h6:p^6=n+1) {f:aE} (hf:f≠0):Dv f=az f (n*(p*p+1)):=by
 have h1:dx f*gf f=az f n:=by
  rw[qp hp,gf,ay,h6]
  show az f n*f*Fd.inv f=_
  rw[Rg.mul_assoc,Fd.mul_inv _ hf,Rg.mul_one]
 rw[Dv,h1,x8 hp,x8 hp,bz f n,dZ _ (p*p) 1,bz _ p p,yw]
theorem T8 {v:Nat} (hv:v=15132376222941642753) (x:aE):CD x 15132376222941642753=az x v:=by
 have h:(num (bI 15132376222941642753)).toNat=v:=by rw[hv,bI,ay];exact Odt (by kernel_rfl)
 rw[CD,eJ,ay,h]
theorem MV {v:Nat} (hv:v=15132376222941642752) (x:aE):CD x 15132376222941642752=az x v:=by
 have h:(num (bI 15132376222941642752)).toNat=v:=by rw[hv,bI,ay];exact Odt (by kernel_rfl)
 rw[CD,eJ,ay,h]
def lJ (p n v u:Nat):Nat:=n*(p*p+1)*(v*v*(u*p^6+p)*(u*u+p*p+p^6)+2+1)
theorem VA {p n v u:Nat} (hp:p=bM) (h6:p^6=n+1) (hv:v=15132376222941642753) (hu:u=15132376222941642752) {f:aE} (hf:f≠0):r9 f=az f (lJ p n v u):=by
 have hA:∀ x,Ry x=az x (v*v):=fun x=>by rw[Ry,T8 hv,T8 hv,bz]
 have hB:∀ x,Rz x=az x (u*p^6+p):=fun x=>by rw[Rz,qp hp,x8 hp,MV hu,dZ,bz]
 have hC:∀ x,RA x=az x (u*u+p*p+p^6):=fun x=>by rw[RA,qp hp,x8 hp,x8 hp,MV hu,MV hu,dZ,dZ,bz,bz]
 rw[r9,ay,YH,hA,hB,hC,Vy hp h6 hf]
 obtain⟨g,hg⟩:∃ g,g=az f (n*(p*p+1)):=⟨_,rfl⟩
 rw[lJ,bz f (n*(p*p+1)),<- hg,dZ g _ 1,dZ g _ 2,bz,bz,yw]
 show _=_*(1*g*g)*g
 rw[Rg.one_mul,bz g (v*v),bz g v v]
theorem acr {p n v u:Nat} (hp:p=bM) (h6:p^6=n+1) {x:aE} (hx:x≠0) (h2:x.2=0):az x (lJ p n v u)=1:=by
 have h1:az x (n+1)=x:=by rw[<- h6,D6 hp,h2,gu,<- h2]
 have h3:az x n*x=x:=h1
 have h4:az x n*(x*Fd.inv x)=x*Fd.inv x:=by rw[<- Rg.mul_assoc,h3]
 rw[Fd.mul_inv _ hx,Rg.mul_one] at h4
 rw[lJ,Nat.mul_assoc,bz,h4,fY]
theorem ab1 {p n v u r m:Nat} (hm:r*lJ p n v u=m*(bM^12-1)) {x:aE} (hx:x≠0):az (az x (lJ p n v u)) r=1:=by
 obtain⟨k,hk⟩:∃ k,k=bM^12-1:=⟨_,rfl⟩
 have h1:bM^12=k+1:=by rw[hk];exact Odt (by kernel_rfl)
 rw[<- bz,Nat.mul_comm,hm,<- hk,Nat.mul_comm,bz,aap h1 hx,fY]
def rrN:Nat:=52435875175126190479447740508185965837690552500527637822603658699938581184513
theorem Vz:∃ m,rrN*lJ bM (bM^6-1) 15132376222941642753 15132376222941642752=m*(bM^12-1):=⟨rrN*lJ bM (bM^6-1) 15132376222941642753 15132376222941642752/(bM^12-1),Odt (by kernel_rfl)⟩
end Go.Proofs.YtbeeaekepmnfhaaGreatDoor.pairing
namespace Cr
open Rg Fd Go.Eng
def tt (n:Nat):Bool->Nat
 | false=>n+n
 | true=>n+n+1
def lr (l:List Bool) (m:Nat):Nat:=l.foldl tt m
theorem JA (l:List Bool):∀ m,m<=lr l m:=by
 induction l with
 | nil=>exact fun m=>Nat.le_refl m
 | cons x l ih =>
  intro m
  refine Nat.le_trans ?_ (ih (tt m x))
  cases x
  ·show m<=m+m;omega
  ·show m<=m+m+1;omega
section
variable {F:Type} [Fd F] {b:F}
theorem aaq (x:F) (l:List Bool):∀ m,l.foldl (sj x) (az x m)=az x (lr l m):=by
 induction l with
 | nil=>exact fun m=>rfl
 | cons y l ih =>
  intro m
  have e:sj x (az x m) y=az x (tt m y):=by
   cases y
   ·show az x m*az x m=az x (m+m);rw[dZ]
   ·show az x m*az x m*x=az x (m+m)*x;rw[dZ]
  show l.foldl (sj x) (sj x (az x m) y)=az x (lr l (tt m y))
  rw[e];exact ih _
theorem Ub (x:F) (l:List Bool):ZX x l=az x (lr l 1):=by
 rw[<- aaq]
 show l.foldl (sj x) x=l.foldl (sj x) (1*x)
 rw[one_mul]
variable (hb:b≠0)
include hb
theorem ZW {Q:F × F} (oQ:aV b Q) (R:F × F) (l:List Bool):∀ f m,(l.foldl (kC Q R) (f,aq Q m)).2=aq Q (lr l m):=by
 induction l with
 | nil=>exact fun f m=>rfl
 | cons y l ih =>
  intro f m
  obtain⟨g,hg⟩:∃ g,kC Q R (f,aq Q m) y=(g,aq Q (tt m y)):=by
   cases y
   ·refine⟨_,Prod.ext rfl ?_⟩
    show ae (aq Q m) (aq Q m)=aq Q (m+m)
    rw[cn hb oQ]
   ·refine⟨_,Prod.ext rfl ?_⟩
    show ae (ae (aq Q m) (aq Q m)) Q=ae (aq Q (m+m)) Q
    rw[cn hb oQ]
  show (l.foldl (kC Q R) (kC Q R (f,aq Q m) y)).2=aq Q (lr l (tt m y))
  rw[hg];exact ih _ _
theorem G5 {Q:F × F} (oQ:aV b Q) (R:F × F) (l:List Bool):(ml Q R l).2=aq Q (lr l 1):=by
 rw[<- ZW hb oQ R l 1 1,gv];rfl
theorem WI {Q:F × F} (oQ:aV b Q) (l:List Bool):∀ m,0<m->(∀ k,0<k->k<=lr l m->aq Q k≠O2)->EM Q l (aq Q m):=by
 induction l with
 | nil=>exact fun m _ _=>trivial
 | cons y l ih =>
  intro m hm hk
  have hle:=JA l (tt m y)
  have hk:∀ k,0<k->k<=lr l (tt m y)->aq Q k≠O2:=hk
  cases y
  ·have hle:m+m<=lr l (tt m false):=hle
   refine⟨?_,?_⟩
   ·rw[<- cn hb oQ];exact hk _ (by omega) hle
   ·rw[<- cn hb oQ];exact ih (m+m) (by omega) hk
  ·have hle:m+m+1<=lr l (tt m true):=hle
   refine⟨?_,?_,?_⟩
   ·rw[<- cn hb oQ];exact hk _ (by omega) (by omega)
   ·rw[<- cn hb oQ];exact hk (m+m+1) (by omega) hle
   ·rw[<- cn hb oQ];exact ih (m+m+1) (by omega) hk
omit hb in
theorem afr (R:F × F) (l:List Bool):ml O2 R l=(1,O2):=by
 have key:∀ l:List Bool,l.foldl (kC O2 R) ((1:F),O2)=(1,O2):=by
  intro l
  induction l with
  | nil=>rfl
  | cons y l ih =>
   have e:kC O2 R ((1:F),O2) y=(1,O2):=by
    cases y
    ·show ((1:F)*1*Lt O2 O2 R,ae O2 O2)=_
     rw[nD,ue,one_mul,one_mul,ct]
    ·show ((1:F)*1*Lt O2 O2 R*Lt (ae O2 O2) O2 R,ae (ae O2 O2) O2)=_
     rw[ct,nD,ue,one_mul,one_mul,one_mul,ct]
   show l.foldl (kC O2 R) (kC O2 R (1,O2) y)=_
   rw[e];exact ih
 exact key l
end
section
variable {N p u r:Nat} (L:qa N p u r) {b1:Fp} {b2:F2} (hb1:b1≠0) (hb2:b2≠0) (hns:∀ y:F2,y*y=b2->False) (he:b2=e0 b1*xi)
structure GQ (p u r:Nat) (b2:F2) (Q:F2 × F2):Prop where
 on:aV b2 Q
 gJ:cD (gJ p) (cc e2 wi Q)=aX (cc e2 wi (aq Q u))
 ord:aq Q r=O2
 small:Q=O2\/∀ k,0<k->k<=u->aq Q k≠O2
noncomputable def xV (L:qa N p u r) (bl:List Bool) (P:Fp × Fp) (Q:F2 × F2):aE:=(dy L).χ (ml (cc e2 wi Q) (cD e1 P) bl).1
include hb1 hb2 hns he
theorem adt {P:Fp × Fp} (oP:aV b1 P) (nP:P≠O2) {A B:F2 × F2} (hA:GQ p u r b2 A) (hB:GQ p u r b2 B) :
  (dy L).χ (Lt (cc e2 wi (aq A u)) (cc e2 wi (aq B u)) (cD e1 P))=az ((dy L).χ (Lt (cc e2 wi A) (cc e2 wi B) (cD e1 P))) u/\(dy L).χ (Lt (cc e2 wi A) (cc e2 wi B) (cD e1 P))≠0:=by
 have g:=TC L hb1 hb2 hns he oP nP
 have hB12:=qd hb1
 have oR:cY (e1 b1) (cD e1 P):=yd qj rfl (oP.resolve_left nP)
 have sA:SS b2 (cc e2 wi A):=⟨A,hA.on,rfl⟩
 have sB:SS b2 (cc e2 wi B):=⟨B,hB.on,rfl⟩
 have sA':SS b2 (cc e2 wi (aq A u)):=⟨_,a7 hb2 hA.on u,rfl⟩
 have sB':SS b2 (cc e2 wi (aq B u)):=⟨_,a7 hb2 hB.on u,rfl⟩
 have h1:=O5 (dy L) hB12 oR g sA sB
 have h2:=O5 (dy L) hB12 oR g sA' sB'
 rw[<- hA.gJ,<- hB.gJ] at h2
 have hf:=OQ (f:=gJ p) (b':=e1 b1) (yc L.pp) (x9 L.pp b1).symm hB12 hB12 (g.on _ sA) (g.on _ sB) (cD e1 P)
 rw[DF L.pp] at hf
 rw[hf,Ku] at h2
 have n0:Lt (cc e2 wi A) (cc e2 wi B) (cD e1 P)≠0:=GX L h1
 have h3:=O4 L n0
 obtain⟨c,hc⟩:∃ c,c=(dy L).χ (Lt (cc e2 wi A) (cc e2 wi B) (cD e1 P)):=⟨_,rfl⟩
 obtain⟨d,hd⟩:∃ d,d=(dy L).χ (Lt (cc e2 wi (aq A u)) (cc e2 wi (aq B u)) (cD e1 P)):=⟨_,rfl⟩
 rw[<- hc] at h1 h2 h3 ⊢
 rw[<- hd] at h2 ⊢
 refine⟨?_,?_⟩
 ·have h4:d*(az c u*az c p)=az c u*(d*az c p):=by rw[<- mul_assoc,mul_comm d,mul_assoc]
  rw[h3,h2,mul_one,mul_one] at h4
  exact h4
 ·rintro rfl
  rw[zero_mul] at h1
  exact one_ne h1.symm
variable {bl:List Bool} (hbl:lr bl 1=u)
include hbl
theorem abJ {P:Fp × Fp} (oP:aV b1 P) (nP:P≠O2) {A B:F2 × F2} (hA:GQ p u r b2 A) (hB:GQ p u r b2 B):xV L bl P (ae A B)=xV L bl P A*xV L bl P B:=by
 have g:=TC L hb1 hb2 hns he oP nP
 have hB12:=qd hb1
 have oR:cY (e1 b1) (cD e1 P):=yd qj rfl (oP.resolve_left nP)
 have sA:SS b2 (cc e2 wi A):=⟨A,hA.on,rfl⟩
 have sB:SS b2 (cc e2 wi B):=⟨B,hB.on,rfl⟩
 obtain⟨_,_,_,h⟩:=Wz (dy L) hB12 oR g sA sB bl
 obtain⟨k,n0⟩:=adt L hb1 hb2 hns he oP nP hA hB
 rw[G5 hB12 (g.on _ sA),G5 hB12 (g.on _ sB),hbl,<- ni cS (nG he) hb2 hB12 hA.on,<- ni cS (nG he) hb2 hB12 hB.on,k,Ub,hbl,<- p7 cS (nG he) hb2 hB12 hA.on hB.on] at h
 have n1:=yz n0 u
 rw[mul_comm,mul_comm ((dy L).χ _*(dy L).χ _)] at h
 exact mul_left n1 h
omit hb1 hb2 hns he hbl in
theorem abH (P:Fp × Fp):xV L bl P O2=1:=by
 rw[xV,rj cS,afr];exact (dy L).one
omit hns in
theorem Ps {A:F2 × F2} (hA:GQ p u r b2 A) (nA:A≠O2):EM (cc e2 wi A) bl (cc e2 wi A):=by
 have hB12:=qd hb1
 have h:=WI hB12 (rM cS (nG he) hA.on) bl 1 Nat.one_pos
 rw[gv] at h
 refine h fun k h0 h1=>?_
 rw[<- ni cS (nG he) hb2 hB12 hA.on]
 rw[hbl] at h1
 exact ta cS FM ((hA.small.resolve_left nA) k h0 h1)
theorem abI {P P':Fp × Fp} (oP:aV b1 P) (oP':aV b1 P') (nP:P≠O2) (nP':P'≠O2) (nS:ae P P'≠O2) {A:F2 × F2} (hA:GQ p u r b2 A) (nA:A≠O2) (hu:0<u):xV L bl (ae P P') A=xV L bl P A*xV L bl P' A:=by
 have g:=CX L hb1 hb2 hns he
 have hB12:=qd hb1
 have sA:SS b2 (cc e2 wi A):=⟨A,hA.on,rfl⟩
 have sU:SS b2 (cc e2 wi (aq A u)):=⟨_,a7 hb2 hA.on u,rfl⟩
 have nA':=ta cS FM nA
 have nU:cc e2 wi (aq A u)≠O2:=ta cS FM ((hA.small.resolve_left nA) u hu (Nat.le_refl u))
 have tP:TT b1 (cD e1 P):=⟨P,oP,rfl⟩
 have tP':TT b1 (cD e1 P'):=⟨P',oP',rfl⟩
 have ne1:∀ {P:Fp × Fp},P≠O2->cD e1 P≠O2:=fun h=>by rw[<- kX];exact ta qj one_ne h
 have eS:cD e1 (ae P P')=ae (cD e1 P) (cD e1 P'):=Kj qj rfl hb1 hB12 oP oP'
 have nS':ae (cD e1 P) (cD e1 P')≠O2:=by rw[<- eS];exact ne1 nS
 obtain⟨_,_,_,h⟩:=Wy (dy L) hB12 g sA nA' tP tP' (ne1 nP) (ne1 nP') nS' bl (Ps hb1 hb2 he hbl hA nA)
 have g':NI (e1 b1) (dy L) (TT b1) (SS b2):=⟨g.onT,g.pf,g.onS,g.addS,fun X Y hX hY nX nY=>g.vt' (dy L) hY hX nY nX⟩
 have m1:=nq (dy L) hB12 g' tP tP' sA (ne1 nP) (ne1 nP') nS' nA'
 have m2:=nq (dy L) hB12 g' tP tP' sU (ne1 nP) (ne1 nP') nS' nU
 have hf:=OQ (f:=gJ p) (b':=e1 b1) (yc L.pp) (x9 L.pp b1).symm hB12 hB12 (g.onT _ tP) (g.onT _ tP') (cc e2 wi A)
 rw[DF L.pp,DF L.pp,hA.gJ] at hf
 rw[hf,Ku] at m2
 have n0:=GX L m1
 have h3:=O4 L n0
 rw[G5 hB12 (g.onS _ sA),hbl,<- ni cS (nG he) hb2 hB12 hA.on,Ub,hbl,<- eS] at h
 obtain⟨c,hc⟩:∃ c,c=(dy L).χ (Lt (cD e1 P) (cD e1 P') (cc e2 wi A)):=⟨_,rfl⟩
 obtain⟨d,hd⟩:∃ d,d=(dy L).χ (Lt (cD e1 P) (cD e1 P') (cc e2 wi (aq A u))):=⟨_,rfl⟩
 rw[<- hc] at m1 m2 h3 h
 rw[<- hd] at m2 h
 have k:d=az c u:=by
  have h4:d*(az c u*az c p)=az c u*(d*az c p):=by rw[<- mul_assoc,mul_comm d,mul_assoc]
  rw[h3,m2,mul_one,mul_one] at h4
  exact h4
 have n1:c≠0:=by
  rintro rfl
  rw[zero_mul] at m1
  exact one_ne m1.symm
 rw[k,mul_comm,mul_comm ((dy L).χ (ml _ (cD e1 (ae P P')) bl).1)] at h
 exact (mul_left (yz n1 u) h).symm
theorem JX {P:Fp × Fp} (oP:aV b1 P) (nP:P≠O2) {A:F2 × F2} (hA:GQ p u r b2 A) (nA:A≠O2):xV L bl P A*xV L bl (aX P) A=1:=by
 have g:=CX L hb1 hb2 hns he
 have hB12:=qd hb1
 have h:=Wx (dy L) hB12 g (A:=cc e2 wi A) (P:=cD e1 P) ⟨A,hA.on,rfl⟩ (ta cS FM nA) ⟨P,oP,rfl⟩ (by rw[<- kX];exact ta qj one_ne nP) bl (Ps hb1 hb2 he hbl hA nA)
 rw[<- Kk qj] at h
 exact h
omit hb1 hb2 hns he hbl in
noncomputable def ev (L:qa N p u r) (bl:List Bool) (P:Fp × Fp) (Q:F2 × F2):aE:=if P=O2 then 1 else xV L bl P Q
theorem Vw {P:Fp × Fp} (oP:aV b1 P) {A B:F2 × F2} (hA:GQ p u r b2 A) (hB:GQ p u r b2 B):ev L bl P (ae A B)=ev L bl P A*ev L bl P B:=by
 unfold ev
 split
 ·rw[mul_one]
 ·rename_i h;exact abJ L hb1 hb2 hns he hbl oP h hA hB
omit hb1 hb2 hns he hbl in
theorem B3 (Q:F2 × F2):ev L bl O2 Q=1:=by unfold ev;rw[if_pos rfl]
omit hb1 hb2 hns he hbl in
theorem zo (P:Fp × Fp):ev L bl P O2=1:=by
 unfold ev
 split
 ·rfl
 ·exact abH L P
theorem Vv {P P':Fp × Fp} (oP:aV b1 P) (oP':aV b1 P') {A:F2 × F2} (hA:GQ p u r b2 A) (hu:0<u):ev L bl (ae P P') A=ev L bl P A*ev L bl P' A:=by
 by_cases nA:A=O2
 ·rw[nA,zo L,zo L,zo L,mul_one]
 by_cases nP:P=O2
 ·rw[nP,ct,B3,one_mul]
 by_cases nP':P'=O2
 ·rw[nP',dD,B3,mul_one]
 by_cases nS:ae P P'=O2
 ·have e:P'=aX P:=by
   have h:=cancel hb1 oP oP'
   rw[nS,dD] at h
   exact h.symm
  rw[nS,B3]
  unfold ev
  rw[if_neg nP,if_neg nP',e]
  exact (JX L hb1 hb2 hns he hbl oP nP hA nA).symm
 ·unfold ev
  rw[if_neg nS,if_neg nP,if_neg nP']
  exact abI L hb1 hb2 hns he hbl oP oP' nP nP' nS hA nA hu
include L in
theorem abM {P:Fp × Fp} (oP:aV b1 P) (nP:P≠O2) {A:F2 × F2} (hA:GQ p u r b2 A) (nA:A≠O2):(ml (cc e2 wi A) (cD e1 P) bl).1≠0:=GX L (JX L hb1 hb2 hns he hbl oP nP hA nA)
theorem Yp {P:Fp × Fp} (oP:aV b1 P) {A:F2 × F2} (hA:GQ p u r b2 A):az (ev L bl P A) r=1:=by
 by_cases nA:A=O2
 ·rw[nA,zo L,fY]
 unfold ev
 split
 ·exact fY r
 ·rename_i nP;exact L.ord _ (abM L hb1 hb2 hns he hbl oP nP hA nA)
theorem JY {P:Fp × Fp} (oP:aV b1 P) {A:F2 × F2} (hA:GQ p u r b2 A) (hu:0<u):∀ n,ev L bl (aq P n) A=az (ev L bl P A) n
 | 0=>B3 L A
 | n+1=>by
  show ev L bl (ae (aq P n) P) A=az (ev L bl P A) n*ev L bl P A
  rw[Vv L hb1 hb2 hns he hbl (a7 hb1 oP n) oP hA hu,JY oP hA hu n]
end
end Cr
namespace Cr
open Rg
theorem agp {F:Type} [Rg F] (x y z l:F):(x*(z*z)*(x*(z*z))+x*(z*z)*(x*(z*z))+x*(z*z)*(x*(z*z)))*(x*(z*z))-(y*(z*(z*z))*(y*(z*(z*z)))+y*(z*(z*z))*(y*(z*(z*z))))-(y*(z*(z*z))*z+y*(z*(z*z))*z)*(z*z)*(l*x-y)=(-(z*z*z*z*z*z*x))*(l*(y+y)-(x*x+x*x+x*x)) :=
 aL [x,y,z,l] ((fun (x y z l:PE)=>((x*(z*z)*(x*(z*z))+x*(z*z)*(x*(z*z))+x*(z*z)*(x*(z*z)))*(x*(z*z))-(y*(z*(z*z))*(y*(z*(z*z)))+y*(z*(z*z))*(y*(z*(z*z))))-(y*(z*(z*z))*z+y*(z*(z*z))*z)*(z*z)*(l*x-y))) (.v 0) (.v 1) (.v 2) (.v 3)) ((fun (x y z l:PE)=>((-(z*z*z*z*z*z*x))*(l*(y+y)-(x*x+x*x+x*x)))) (.v 0) (.v 1) (.v 2) (.v 3)) (by kernel_rfl)
theorem agq {F:Type} [Rg F] (x y z l:F):(x*(z*z)*(x*(z*z))+x*(z*z)*(x*(z*z))+x*(z*z)*(x*(z*z)))*(z*z)-(y*(z*(z*z))*z+y*(z*(z*z))*z)*(z*z)*l=(-(z*z*z*z*z*z))*(l*(y+y)-(x*x+x*x+x*x)) :=
 aL [x,y,z,l] ((fun (x y z l:PE)=>((x*(z*z)*(x*(z*z))+x*(z*z)*(x*(z*z))+x*(z*z)*(x*(z*z)))*(z*z)-(y*(z*(z*z))*z+y*(z*(z*z))*z)*(z*z)*l)) (.v 0) (.v 1) (.v 2) (.v 3)) ((fun (x y z l:PE)=>((-(z*z*z*z*z*z))*(l*(y+y)-(x*x+x*x+x*x)))) (.v 0) (.v 1) (.v 2) (.v 3)) (by kernel_rfl)
theorem aeE {F:Type} [Rg F] (x y z u v l:F):v*(z*z*z)-y*(z*(z*z))-z*(u*(z*z)-x*(z*z))*l=(-(z*z*z))*(l*(u-x)-(v-y)) :=
 aL [x,y,z,u,v,l] ((fun (x y z u v l:PE)=>(v*(z*z*z)-y*(z*(z*z))-z*(u*(z*z)-x*(z*z))*l)) (.v 0) (.v 1) (.v 2) (.v 3) (.v 4) (.v 5)) ((fun (x y z u v l:PE)=>((-(z*z*z))*(l*(u-x)-(v-y)))) (.v 0) (.v 1) (.v 2) (.v 3) (.v 4) (.v 5)) (by kernel_rfl)
theorem aeD {F:Type} [Rg F] (d l u v:F):d*l*u-d*v=d*(l*u-v) :=
 aL [d,l,u,v] ((fun (d l u v:PE)=>(d*l*u-d*v)) (.v 0) (.v 1) (.v 2) (.v 3)) ((fun (d l u v:PE)=>(d*(l*u-v))) (.v 0) (.v 1) (.v 2) (.v 3)) (by kernel_rfl)
theorem aeF {F:Type} [Rg F] (x u z:F):u*(z*z)-x*(z*z)=(u-x)*(z*z) :=
 aL [x,u,z] ((fun (x u z:PE)=>(u*(z*z)-x*(z*z))) (.v 0) (.v 1) (.v 2)) ((fun (x u z:PE)=>((u-x)*(z*z))) (.v 0) (.v 1) (.v 2)) (by kernel_rfl)
theorem abi {F:Type} [Rg F] (x y s:F):s*s-(x*(y*y)+x*(y*y)+(x*(y*y)+x*(y*y))+(x*(y*y)+x*(y*y)+(x*(y*y)+x*(y*y))))=s*s-(x*(y*y)+x*(y*y)+(x*(y*y)+x*(y*y)))-(x*(y*y)+x*(y*y)+(x*(y*y)+x*(y*y))) :=
 aL [x,y,s] ((fun (x y s:PE)=>(s*s-(x*(y*y)+x*(y*y)+(x*(y*y)+x*(y*y))+(x*(y*y)+x*(y*y)+(x*(y*y)+x*(y*y)))))) (.v 0) (.v 1) (.v 2)) ((fun (x y s:PE)=>(s*s-(x*(y*y)+x*(y*y)+(x*(y*y)+x*(y*y)))-(x*(y*y)+x*(y*y)+(x*(y*y)+x*(y*y))))) (.v 0) (.v 1) (.v 2)) (by kernel_rfl)
theorem ago {F:Type} [Rg F] (y s f x:F):s*(f-x)-(y*y*(y*y)+y*y*(y*y)+(y*y*(y*y)+y*y*(y*y))+(y*y*(y*y)+y*y*(y*y)+(y*y*(y*y)+y*y*(y*y))))=s*(f-x)-(y*y+y*y)*(y*y+y*y)-(y*y+y*y)*(y*y+y*y) :=
 aL [y,s,f,x] ((fun (y s f x:PE)=>(s*(f-x)-(y*y*(y*y)+y*y*(y*y)+(y*y*(y*y)+y*y*(y*y))+(y*y*(y*y)+y*y*(y*y)+(y*y*(y*y)+y*y*(y*y)))))) (.v 0) (.v 1) (.v 2) (.v 3)) ((fun (y s f x:PE)=>(s*(f-x)-(y*y+y*y)*(y*y+y*y)-(y*y+y*y)*(y*y+y*y))) (.v 0) (.v 1) (.v 2) (.v 3)) (by kernel_rfl)
theorem afx {F:Type} [Rg F] (q x z:F):q*(z*z)-x*(1*1)=q*(z*z)-x :=
 aL [q,x,z] ((fun (q x z:PE)=>(q*(z*z)-x*(1*1))) (.v 0) (.v 1) (.v 2)) ((fun (q x z:PE)=>(q*(z*z)-x)) (.v 0) (.v 1) (.v 2)) (by kernel_rfl)
theorem afw {F:Type} [Rg F] (q y z:F):q*(z*z)*z-y*(1*1)*1=q*(z*z*z)-y :=
 aL [q,y,z] ((fun (q y z:PE)=>(q*(z*z)*z-y*(1*1)*1)) (.v 0) (.v 1) (.v 2)) ((fun (q y z:PE)=>(q*(z*z*z)-y)) (.v 0) (.v 1) (.v 2)) (by kernel_rfl)
theorem aak {F:Type} [Rg F] (h w x:F):h*h-w*w*w-x*(1*1)*(w*w)-x*(1*1)*(w*w)=h*h-w*w*w-(x*(w*w)+x*(w*w)) :=
 aL [h,w,x] ((fun (h w x:PE)=>(h*h-w*w*w-x*(1*1)*(w*w)-x*(1*1)*(w*w))) (.v 0) (.v 1) (.v 2)) ((fun (h w x:PE)=>(h*h-w*w*w-(x*(w*w)+x*(w*w)))) (.v 0) (.v 1) (.v 2)) (by kernel_rfl)
theorem afy {F:Type} [Rg F] (h w x y t:F):h*(x*(1*1)*(w*w)-t)-y*(1*1)*1*(w*w*w)=h*(x*(w*w)-t)-y*(w*w*w) :=
 aL [h,w,x,y,t] ((fun (h w x y t:PE)=>(h*(x*(1*1)*(w*w)-t)-y*(1*1)*1*(w*w*w))) (.v 0) (.v 1) (.v 2) (.v 3) (.v 4)) ((fun (h w x y t:PE)=>(h*(x*(w*w)-t)-y*(w*w*w))) (.v 0) (.v 1) (.v 2) (.v 3) (.v 4)) (by kernel_rfl)
theorem afz {F:Type} [Rg F] (z w:F):z*1*w=z*w :=
 aL [z,w] ((fun (z w:PE)=>(z*1*w)) (.v 0) (.v 1)) ((fun (z w:PE)=>(z*w)) (.v 0) (.v 1)) (by kernel_rfl)
theorem adr {F:Type} [Rg F] (D w i y l px py x:F):D*(w*(w*w))*(py-(y*(i*i*i)+l*i*(px-x*(i*i))))=D*py*(w*w*w)-D*y*(w*i*(w*i)*(w*i))-D*l*(w*i)*(w*w)*px+D*l*x*(w*i*(w*i)*(w*i)) :=
 aL [D,w,i,y,l,px,py,x] ((fun (D w i y l px py x:PE)=>(D*(w*(w*w))*(py-(y*(i*i*i)+l*i*(px-x*(i*i)))))) (.v 0) (.v 1) (.v 2) (.v 3) (.v 4) (.v 5) (.v 6) (.v 7)) ((fun (D w i y l px py x:PE)=>(D*py*(w*w*w)-D*y*(w*i*(w*i)*(w*i))-D*l*(w*i)*(w*w)*px+D*l*x*(w*i*(w*i)*(w*i)))) (.v 0) (.v 1) (.v 2) (.v 3) (.v 4) (.v 5) (.v 6) (.v 7)) (by kernel_rfl)
theorem ads {F:Type} [Rg F] (D w y l px py x:F):D*(l*x-y)+w*(w*(-(D*l*px)+w*(D*py)))=D*py*(w*w*w)-D*y*(1*1*1)-D*l*1*(w*w)*px+D*l*x*(1*1*1) :=
 aL [D,w,y,l,px,py,x] ((fun (D w y l px py x:PE)=>(D*(l*x-y)+w*(w*(-(D*l*px)+w*(D*py))))) (.v 0) (.v 1) (.v 2) (.v 3) (.v 4) (.v 5) (.v 6)) ((fun (D w y l px py x:PE)=>(D*py*(w*w*w)-D*y*(1*1*1)-D*l*1*(w*w)*px+D*l*x*(1*1*1))) (.v 0) (.v 1) (.v 2) (.v 3) (.v 4) (.v 5) (.v 6)) (by kernel_rfl)
theorem Sm {F:Type} [Rg F] (a b c d:F):a*b*(c*d)=a*c*(b*d) :=
 aL [a,b,c,d] ((fun (a b c d:PE)=>(a*b*(c*d))) (.v 0) (.v 1) (.v 2) (.v 3)) ((fun (a b c d:PE)=>(a*c*(b*d))) (.v 0) (.v 1) (.v 2) (.v 3)) (by kernel_rfl)
theorem afA {F:Type} [Rg F] (f a b:F):f*a*b=f*(a*b) :=
 aL [f,a,b] ((fun (f a b:PE)=>(f*a*b)) (.v 0) (.v 1) (.v 2)) ((fun (f a b:PE)=>(f*(a*b))) (.v 0) (.v 1) (.v 2)) (by kernel_rfl)
end Cr
namespace Go.Proofs.YtbeeaekepmnfhaaGreatDoor.pairing
open Go Go.Eng Go.RowKit Cr Go.Proofs.YtbeeaekepmnfhaaGreatDoor Go.Proofs.YtbeeaekepmnfhaaGreatDoor.fp2 Go.Proofs.YtbeeaekepmnfhaaGreatDoor.tower
theorem Un (x:F2) (k:Fp):sk x k=x*e0 k:=by
 rw[F2.mul_def]
 refine F2.ext ?_ ?_
 ·show x.1*k=x.1*k-x.2*0
  rw[Rg.mul_zero,ql]
 ·show x.2*k=x.1*0+x.2*k
  rw[Rg.mul_zero,Rg.zero_add]
theorem ZP (D l x y:F2) (P:Fp × Fp):dN (D*(l*x-y)) (-(sk (D*l) P.1)) (sk D P.2)=e2 D*(ww*(ww*ww))*lv (cc e2 wi (x,y)) (e2 l*wi) (cD e1 P):=by
 rw[Pe,Un,Un,cS.mul,cS.sub,cS.mul,cS.neg,cS.mul,cS.mul,cS.mul]
 show e2 D*(e2 l*e2 x-e2 y)+ww*(ww*(-(e2 D*e2 l*e1 P.1)+ww*(e2 D*e1 P.2)))=e2 D*(ww*(ww*ww))*(e1 P.2-(e2 y*(wi*wi*wi)+e2 l*wi*(e1 P.1-e2 x*(wi*wi))))
 rw[adr,z9]
 exact ads _ _ _ _ _ _ _
section
variable {b:F2} (hb:b≠0)
include hb
theorem abl {T:F2 × F2 × F2} {t:F2 × F2} (h:du b T t) (hz:T.2.2≠0) (P:Fp × Fp):du b (l7 T P).1 (ae t t):=by
 have e:(l7 T P).1=iF T:=by
  unfold iF
  rw[if_neg hz]
  unfold DK Ks
  refine Prod.ext ?_ (Prod.ext ?_ rfl)
  ·exact abi T.1 T.2.1 _
  ·refine Eq.trans ?_ (ago T.2.1 _ _ _)
   show _*(_-(_-_))-_=_
   rw[abi T.1 T.2.1]
 rw[e];exact zU hb h
theorem aal {T:F2 × F2 × F2} {t q:F2 × F2} (h:du b T t) (hz:T.2.2≠0) (oq:cY b q) (hw:q.1*(T.2.2*T.2.2)-T.1≠0) (P:Fp × Fp):du b (sD T q P).1 (ae t q):=by
 have k:du b ((q.1,q.2,(1:F2)):Jc F2) q:=.inr ⟨Fd.one_ne,by show q.1=q.1*(1*1);rw[Rg.mul_one,Rg.mul_one],by show q.2=q.2*(1*(1*1));rw[Rg.mul_one,Rg.mul_one,Rg.mul_one],oq⟩
 have e:(sD T q P).1=fC T (q.1,q.2,1):=by
  unfold fC
  rw[if_neg hz,if_neg (show ¬ (1:F2)=0 from Fd.one_ne)]
  show _=(if q.1*(T.2.2*T.2.2)-T.1*(1*1)=0 then _ else DL (q.1*(T.2.2*T.2.2)-T.1*(1*1)) (q.2*(T.2.2*T.2.2)*T.2.2-T.2.1*(1*1)*1) (T.1*(1*1)) (T.2.1*(1*1)*1) T.2.2 1)
  rw[afx,afw,if_neg hw]
  unfold DL GU
  refine Prod.ext (aak _ _ _).symm (Prod.ext ?_ (afz _ _).symm)
  rw[aak,afy];rfl
 rw[e];exact pV hb h k
omit hb in
theorem adq {T:F2 × F2 × F2} {t:F2 × F2} (h:du b T t) (hz:T.2.2≠0) {l:F2} (hl:gX t t l) (P:Fp × Fp) :
  dN (l7 T P).2.1 (l7 T P).2.2.1 (l7 T P).2.2.2=e2 ((T.2.1*T.2.2+T.2.1*T.2.2)*(T.2.2*T.2.2))*(ww*(ww*ww))*lv (cc e2 wi t) (e2 l*wi) (cD e1 P):=by
 obtain⟨_,e1',e2',_⟩:=h.resolve_left (fun e=>hz e.1)
 obtain⟨X,Y,Z⟩:=T
 obtain⟨x,y⟩:=t
 simp only at e1' e2' ⊢
 subst e1' e2'
 have h1:=mG _ (agp x y Z l) hl.2
 have h2:=mG _ (agq x y Z l) hl.2
 rw[<- ZP,<- h1,<- h2];rfl
omit hb in
theorem acI {T:F2 × F2 × F2} {t q:F2 × F2} (h:du b T t) (hz:T.2.2≠0) {l:F2} (hl:gX t q l) (P:Fp × Fp) :
  dN (sD T q P).2.1 (sD T q P).2.2.1 (sD T q P).2.2.2=e2 (T.2.2*(q.1*(T.2.2*T.2.2)-T.1))*(ww*(ww*ww))*lv (cc e2 wi t) (e2 l*wi) (cD e1 P):=by
 obtain⟨_,e1',e2',_⟩:=h.resolve_left (fun e=>hz e.1)
 obtain⟨X,Y,Z⟩:=T
 obtain⟨x,y⟩:=t
 obtain⟨u,v⟩:=q
 simp only at e1' e2' ⊢
 subst e1' e2'
 have h2:=mG _ (aeE x y Z u v l) hl.1
 have h3:lv (cc e2 wi (x,y)) (e2 l*wi) (cD e1 P)=lv (cc e2 wi (u,v)) (e2 l*wi) (cD e1 P):=vg (yY cS hl) _
 rw[h3,<- ZP,<- aeD,<- h2];rfl
end
noncomputable def CK (b:Bool) (s:aE × Pr):aE × Pr:=(s.1*s.1*(qK b 1 s.2).1,(qK b 1 s.2).2)
noncomputable def sg (k:Pr) (l:List Bool):aE × Pr:=l.foldl (fun s b=>CK b s) (1,k)
section
variable {N p u r:Nat} (L:qa N p u r) {b1:Fp} {b2:F2} (hb1:b1≠0) (hb2:b2≠0) (hns:∀ y:F2,y*y=b2->False) (he:b2=e0 b1*xi)
theorem GW {c:F2} (hc:c≠0) (x:aE):(dy L).χ (e2 c*(ww*(ww*ww))*x)=(dy L).χ x:=by rw[(dy L).mul,Wt L hc,Rg.one_mul]
include hb1 hb2 he
theorem aaQ {P:Fp × Fp} {Q:F2 × F2} (oQ:cY b2 Q) (l:List Bool):∀ m,0<m->(∀ k,0<k->k<=lr l m->aq Q k≠O2)->∀ (f:aE) (T:F2 × F2 × F2) (g:aE),du b2 T (aq Q m)->(dy L).χ f=(dy L).χ g ->
  (dy L).χ (l.foldl (fun s b=>CK b s) (f,(P,(Q,T)))).1=(dy L).χ (l.foldl (kC (cc e2 wi Q) (cD e1 P)) (g,cc e2 wi (aq Q m))).1:=by
 have hB12:=qd hb1
 have oQ':aV b2 Q:=.inr oQ
 have on':=qL cS (nG he) (A:=Q) oQ
 -- the tangent
 have EB:∀ (m:Nat),0<m->aq Q m≠O2->aq Q (m+m)≠O2->∀ (f:aE) (T:F2 × F2 × F2) (g:aE),du b2 T (aq Q m)->(dy L).χ f=(dy L).χ g ->
   du b2 (l7 T P).1 (aq Q (m+m))/\(dy L).χ (f*f*dN (l7 T P).2.1 (l7 T P).2.2.1 (l7 T P).2.2.2)=(dy L).χ (g*g*Lt (cc e2 wi (aq Q m)) (cc e2 wi (aq Q m)) (cD e1 P)):=by
  intro m hm n1 n2 f T g hT hf
  have hz:T.2.2≠0:=by
   rcases hT with ⟨_,e⟩|⟨h,_⟩
   ·exact absurd e n1
   ·exact h
  have ot:cY b2 (aq Q m):=(a7 hb2 oQ' m).resolve_left n1
  have hd:aq Q (m+m)=ae (aq Q m) (aq Q m):=cn hb2 oQ' m m
  have hr:=abl hb2 hT hz P
  rw[<- hd] at hr
  refine⟨hr,?_⟩
  have hnn:¬ aq Q m=aX (aq Q m):=by
   intro e
   refine n2 ?_
   have h0:=bE (aq Q m)
   rw[<- e] at h0
   rw[hd];exact h0
  obtain⟨l,hl⟩:=(fQ ot ot).resolve_left hnn
  have hz2:(l7 T P).1.2.2≠0:=by
   rcases hr with ⟨_,e⟩|⟨h,_⟩
   ·exact absurd e n2
   ·exact h
  have hD:(T.2.1*T.2.2+T.2.1*T.2.2)*(T.2.2*T.2.2)≠0:=Fd.dG hz2 (Fd.dG hz hz)
  have oA:=qL cS (nG he) ot
  rw[adq hT hz hl P,gM hB12 oA oA (yY cS hl),(dy L).mul (f*f),GW L hD,(dy L).mul (g*g),(dy L).mul f f,(dy L).mul g g,hf]
 have add:∀ (m:Nat),0<m->aq Q m≠O2->aq Q (m+1)≠O2->aq Q m≠Q->∀ (f:aE) (T:F2 × F2 × F2) (g:aE),du b2 T (aq Q m)->(dy L).χ f=(dy L).χ g ->
   du b2 (sD T Q P).1 (aq Q (m+1))/\(dy L).χ (f*dN (sD T Q P).2.1 (sD T Q P).2.2.1 (sD T Q P).2.2.2)=(dy L).χ (g*Lt (cc e2 wi (aq Q m)) (cc e2 wi Q) (cD e1 P)):=by
  intro m hm n1 n2 n3 f T g hT hf
  have hz:T.2.2≠0:=by
   rcases hT with ⟨_,e⟩|⟨h,_⟩
   ·exact absurd e n1
   ·exact h
  have ot:cY b2 (aq Q m):=(a7 hb2 oQ' m).resolve_left n1
  have n4:Q≠aX (aq Q m):=by
   intro e
   refine n2 ?_
   have h0:=bE (aq Q m)
   rw[<- e] at h0
   exact h0
  have hx:Q.1≠(aq Q m).1:=BE ot oQ (fun e=>n3 e.symm) n4
  have hw:Q.1*(T.2.2*T.2.2)-T.1≠0:=by
   obtain⟨_,e,_⟩:=hT.resolve_left (fun e=>hz e.1)
   rw[e,aeF]
   exact Fd.dG (Fd.mL hx) (Fd.dG hz hz)
  refine⟨aal hb2 hT hz oQ hw P,?_⟩
  obtain⟨l,hl⟩:=(fQ ot oQ).resolve_left n4
  have hD:T.2.2*(Q.1*(T.2.2*T.2.2)-T.1)≠0:=Fd.dG hz hw
  rw[acI hT hz hl P,gM hB12 (qL cS (nG he) ot) on' (yY cS hl),(dy L).mul f,GW L hD,(dy L).mul g,hf]
 induction l with
 | nil=>intro m hm hk f T g hT hf;exact hf
 | cons y l ih =>
  intro m hm hk f T g hT hf
  have hle:=JA l (tt m y)
  have hk:∀ k,0<k->k<=lr l (tt m y)->aq Q k≠O2:=hk
  have ea:=p7 cS (nG he) hb2 hB12 (a7 hb2 oQ' m) (a7 hb2 oQ' m)
  rw[<- cn hb2 oQ'] at ea
  cases y
  ·have hle:m+m<=lr l (tt m false):=hle
   obtain⟨h1,h2⟩:=EB m hm (hk m hm (by omega)) (hk (m+m) (by omega) (by omega)) f T g hT hf
   have i:=ih (m+m) (by omega) hk _ _ _ h1 h2
   have e1:CK false (f,(P,(Q,T)))=(f*f*dN (l7 T P).2.1 (l7 T P).2.2.1 (l7 T P).2.2.2,(P,(Q,(l7 T P).1))):=by
    show (f*f*(1*dN (two T P).2.1 (two T P).2.2.1 (two T P).2.2.2),(P,(Q,(two T P).1)))=_
    rw[Rg.one_mul,two,ay]
   have e2:kC (cc Cr.e2 wi Q) (cD Cr.e1 P) (g,cc Cr.e2 wi (aq Q m)) false=(g*g*Lt (cc Cr.e2 wi (aq Q m)) (cc Cr.e2 wi (aq Q m)) (cD Cr.e1 P),cc Cr.e2 wi (aq Q (m+m))):=by
    rw[ea];rfl
   rw[List.foldl_cons,List.foldl_cons,e1,e2]
   exact i
  ·have hle:m+m+1<=lr l (tt m true):=hle
   obtain⟨h1,h2⟩:=EB m hm (hk m hm (by omega)) (hk (m+m) (by omega) (by omega)) f T g hT hf
   have n3:aq Q (m+m)≠Q:=fun e=>by
    obtain⟨j,hj⟩:∃ j,m+m=j+1:=⟨m+m-1,by omega⟩
    have h0:=hk j (by omega) (by omega)
    have oj:=a7 hb2 oQ' j
    rw[hj] at e
    have e:ae (aq Q j) Q=Q:=e
    have c:=zi hb2 oj oQ'
    rw[e,bE] at c
    exact h0 c.symm
   obtain⟨h3,h4⟩:=add (m+m) (by omega) (hk (m+m) (by omega) (by omega)) (hk (m+m+1) (by omega) hle) n3 _ _ _ h1 h2
   have i:=ih (m+m+1) (by omega) hk _ _ _ h3 h4
   have eb:=p7 cS (nG he) hb2 hB12 (a7 hb2 oQ' (m+m)) oQ'
   have eb:cc Cr.e2 wi (aq Q (m+m+1))=ae (cc Cr.e2 wi (aq Q (m+m))) (cc Cr.e2 wi Q):=eb
   have e1:CK true (f,(P,(Q,T)))=(f*f*dN (l7 T P).2.1 (l7 T P).2.2.1 (l7 T P).2.2.2*dN (sD (l7 T P).1 Q P).2.1 (sD (l7 T P).1 Q P).2.2.1 (sD (l7 T P).1 Q P).2.2.2,(P,(Q,(sD (l7 T P).1 Q P).1))):=by
    show (f*f*(1*dN (two T P).2.1 (two T P).2.2.1 (two T P).2.2.2*dN (jB (two T P).1 Q P).2.1 (jB (two T P).1 Q P).2.2.1 (jB (two T P).1 Q P).2.2.2),(P,(Q,(jB (two T P).1 Q P).1)))=_
    rw[Rg.one_mul,two,ay,jB,ay,<- Rg.mul_assoc]
   have e2:kC (cc Cr.e2 wi Q) (cD Cr.e1 P) (g,cc Cr.e2 wi (aq Q m)) true=(g*g*Lt (cc Cr.e2 wi (aq Q m)) (cc Cr.e2 wi (aq Q m)) (cD Cr.e1 P)*Lt (cc Cr.e2 wi (aq Q (m+m))) (cc Cr.e2 wi Q) (cD Cr.e1 P),cc Cr.e2 wi (aq Q (m+m+1))):=by
    rw[eb,ea];rfl
   rw[List.foldl_cons,List.foldl_cons,e1,e2]
   exact i
end
end Go.Proofs.YtbeeaekepmnfhaaGreatDoor.pairing
namespace Go.Proofs.YtbeeaekepmnfhaaGreatDoor.pairing
open Go Go.Eng Go.RowKit Cr fp2 tower
noncomputable def gA:List aE->aE
 | []=>1
 | x::l=>x*gA l
theorem wG (x:aE):∀ l,gA (l++[x])=gA l*x
 | []=>by show x*1=1*x;rw[Rg.mul_one,Rg.one_mul]
 | y::l=>by show y*gA (l++[x])=y*gA l*x;rw[wG x l,Rg.mul_assoc]
theorem HB {α:Type} (X A:α->aE):∀ l:List α,gA (l.map X)*gA (l.map X)*gA (l.map A)=gA (l.map fun k=>X k*X k*A k)
 | []=>by show (1:aE)*1*1=1;rw[Rg.one_mul,Rg.one_mul]
 | k::l=>by
  show X k*gA (l.map X)*(X k*gA (l.map X))*(A k*gA (l.map A))=X k*X k*A k*gA (l.map fun k=>X k*X k*A k)
  rw[<- HB X A l,Sm (X k),Sm (X k*X k)]
theorem Xi (b:Bool) (f:aE) (k:Pr):qK b f k=(f*(qK b 1 k).1,(qK b 1 k).2):=by
 cases b
 ·refine Prod.ext ?_ rfl
  show f*_=f*(1*_)
  rw[Rg.one_mul]
 ·refine Prod.ext ?_ rfl
  show f*_*_=f*(1*_*_)
  rw[Rg.one_mul,afA]
theorem K2 {α:Type} (A B:List α) (x y d:α):(A++x::B).getD A.length d=x/\(A++x::B).set A.length y=A++y::B:=by
 constructor
 ·simp[List.getD_eq_getElem?_getD]
 ·simp
theorem OY (b:Bool) (f:aE) (l:List Pr):∀ i,i<=l.length->lA b (f,l) i=(f*gA ((l.take i).map fun k=>(qK b 1 k).1),(l.take i).map (fun k=>(qK b 1 k).2)++l.drop i)
 | 0,_=>by
  show (f,l)=(f*1,l)
  rw[Rg.mul_one]
 | i+1,hi=>by
  show ((qK b (lA b (f,l) i).1 ((lA b (f,l) i).2.getD i (zeroOf ns))).1,(lA b (f,l) i).2.set i (qK b (lA b (f,l) i).1 ((lA b (f,l) i).2.getD i (zeroOf ns))).2)=_
  rw[OY b f l i (by omega)]
  have hi:i<l.length:=hi
  have hd:l.drop i=l[i]::l.drop (i+1):=List.drop_eq_getElem_cons hi
  have ht:l.take (i+1)=l.take i++[l[i]]:=List.take_succ_eq_append_getElem hi
  have hl:((l.take i).map (fun k=>(qK b 1 k).2)).length=i:=by rw[List.length_map,List.length_take];omega
  obtain⟨A,hA⟩:∃ A,A=(l.take i).map (fun k=>(qK b 1 k).2):=⟨_,rfl⟩
  rw[<- hA] at hl ⊢
  have hg:∀ d:Pr,(A++l[i]::l.drop (i+1)).getD i d=l[i]:=fun d=>by
   have:=(K2 A (l.drop (i+1)) l[i] l[i] d).1
   rwa [hl] at this
  have hs:∀ y:Pr,(A++l[i]::l.drop (i+1)).set i y=A++y::l.drop (i+1):=fun y=>by
   have:=(K2 A (l.drop (i+1)) l[i] y y).2
   rwa [hl] at this
  simp only
  rw[hd,hg,hs,Xi,ht,List.map_append,List.map_append,<- hA,List.map_cons,List.map_cons,List.map_nil,List.map_nil,wG,Rg.mul_assoc,List.append_assoc];rfl
def bG (j:Nat):List Bool:=(List.range j).map fun (j:Nat)=>iG (62-(j:Int))
theorem K3 (k:Pr) (j:Nat):sg k (bG (j+1))=CK (iG (62-(j:Int))) (sg k (bG j)):=by
 unfold sg bG
 rw[List.range_succ,List.map_append,List.foldl_append];rfl
theorem Px (l:List Pr):∀ j,qZ l j=(gA (l.map fun k=>(sg k (bG j)).1),l.map fun k=>(sg k (bG j)).2)
 | 0=>by
  have h1:∀ l:List Pr,gA (l.map fun k=>(sg k (bG 0)).1)=1:=by
   intro l
   induction l with
   | nil=>rfl
   | cons k l ih=>show 1*gA _=1;rw[Rg.one_mul];exact ih
  have h2:(l.map fun k=>(sg k (bG 0)).2)=l:=List.map_id l
  rw[h1,h2];rfl
 | j+1=>by
  show lA (iG (62-(j:Int))) ((qZ l j).1*(qZ l j).1,(qZ l j).2) l.length=_
  rw[Px l j]
  obtain⟨M,hM⟩:∃ M,M=(l.map fun k=>(sg k (bG j)).2):=⟨_,rfl⟩
  have hl:l.length=M.length:=by rw[hM,List.length_map]
  rw[<- hM,hl,OY _ _ _ _ (Nat.le_refl _),List.take_length,List.drop_length,List.append_nil,hM,List.map_map,List.map_map,HB]
  refine Prod.ext ?_ ?_
  ·refine congrArg gA (List.map_congr_left fun k _=>?_)
   rw[K3];rfl
  ·refine List.map_congr_left fun k _=>?_
   rw[K3];rfl
theorem QY:r6 (1:aE)=1:=aE.ext rfl gu
theorem ZO (ps:List (Fp × Fp)) (qs:List (F2 × F2)):Pc ps qs=dx (gA ((gB ps qs ps.length).map fun k=>(sg k (bG 63)).1)):=by
 rw[Pc]
 cases h:gB ps qs ps.length with
 | nil=>show (1:aE)=dx 1;rw[dx,ay,QY]
 | cons k l =>
  show dx (qZ (k::l) 63).1=_
  rw[Px]
section
variable {N p u r:Nat} (L:qa N p u r) {b1:Fp} {b2:F2} (hb1:b1≠0) (hb2:b2≠0) (hns:∀ y:F2,y*y=b2->False) (he:b2=e0 b1*xi)
noncomputable def Gk (L:qa N p u r) (bl:List Bool) (ps:List (Fp × Fp)) (qs:List (F2 × F2)) (k:Nat):aE:=it (fun i x=>x*ev L bl (ps.getD i ((0:Fp),(0:Fp))) (qs.getD i (((0:Fp),(0:Fp)),(0:Fp),(0:Fp)))) 1 k
variable (hu:0<u) (hbl:lr (bG 63) 1=u)
include hb1 hb2 hns he hu hbl
omit hns hu in
theorem Um {P:Fp × Fp} {Q:F2 × F2} (nP:P≠O2) (nQ:Q≠O2) (hQ:GQ p u r b2 Q):(dy L).χ (sg (P,(Q,(Q.1,Q.2,(1:F2)))) (bG 63)).1=ev L (bG 63) P Q:=by
 have oQ:cY b2 Q:=hQ.on.resolve_left nQ
 have k:du b2 ((Q.1,Q.2,(1:F2)):Jc F2) (aq Q 1):=by
  rw[gv]
  exact .inr ⟨Fd.one_ne,by show Q.1=Q.1*(1*1);rw[Rg.mul_one,Rg.mul_one],by show Q.2=Q.2*(1*(1*1));rw[Rg.mul_one,Rg.mul_one,Rg.mul_one],oQ⟩
 have h:=aaQ L hb1 hb2 he (P:=P) oQ (bG 63) 1 Nat.one_pos (fun j h0 h1=>(hQ.small.resolve_left nQ) j h0 (by rw[hbl] at h1;exact h1)) 1 (Q.1,Q.2,(1:F2)) 1 k rfl
 rw[gv] at h
 unfold ev
 rw[if_neg nP]
 exact h
omit hns in
omit hu in
theorem JZ {ps:List (Fp × Fp)} {qs:List (F2 × F2)}:∀ k,(∀ i,i<k->aV b1 (ps.getD i ((0:Fp),(0:Fp))))->(∀ i,i<k->GQ p u r b2 (qs.getD i (((0:Fp),(0:Fp)),(0:Fp),(0:Fp)))) ->
  (dy L).χ (gA ((gB ps qs k).map fun k=>(sg k (bG 63)).1))=Gk L (bG 63) ps qs k
 | 0,_,_=>(dy L).one
 | k+1,h1,h2=>by
  have ih:=JZ (ps:=ps) (qs:=qs) k (fun i hi=>h1 i (by omega)) (fun i hi=>h2 i (by omega))
  have hP:=h1 k (by omega)
  have hQ:=h2 k (by omega)
  show (dy L).χ (gA ((xh (ps.getD k ((0:Fp),(0:Fp))) (qs.getD k (((0:Fp),(0:Fp)),(0:Fp),(0:Fp))) (gB ps qs k)).map fun k=>(sg k (bG 63)).1))=Gk L (bG 63) ps qs k*ev L (bG 63) (ps.getD k ((0:Fp),(0:Fp))) (qs.getD k (((0:Fp),(0:Fp)),(0:Fp),(0:Fp)))
  obtain⟨P,eP⟩:∃ P,P=ps.getD k ((0:Fp),(0:Fp)):=⟨_,rfl⟩
  obtain⟨Q,eQ⟩:∃ Q,Q=qs.getD k (((0:Fp),(0:Fp)),(0:Fp),(0:Fp)):=⟨_,rfl⟩
  rw[<- eP] at hP ⊢
  rw[<- eQ] at hQ ⊢
  unfold xh
  by_cases nP:P=O2
  ·rw[(lh (e:=bo) P ((0:Fp),(0:Fp))).2 nP,nP,B3,Rg.mul_one];exact ih
  by_cases nQ:Q=O2
  ·rw[(lh (e:=ba) Q (((0:Fp),(0:Fp)),(0:Fp),(0:Fp))).2 nQ,nQ,zo L,Rg.mul_one]
   split
   ·rename_i h;cases h
   ·exact ih
  ·have c1:gm bo P ((0:Fp),(0:Fp))=false:=Bool.eq_false_iff.2 fun h=>nP ((lh (e:=bo) _ _).1 h)
   have c2:gm ba Q (((0:Fp),(0:Fp)),(0:Fp),(0:Fp))=false:=Bool.eq_false_iff.2 fun h=>nQ ((lh (e:=ba) _ _).1 h)
   rw[c1,c2]
   show (dy L).χ (gA ((gB ps qs k++[(P,(Q,(Q.1,Q.2,(1:F2))))]).map fun k=>(sg k (bG 63)).1))=_
   rw[List.map_append,List.map_cons,List.map_nil,wG,(dy L).mul,ih,Um L hb1 hb2 he hbl nP nQ hQ]
omit hu in
theorem Tx {ps:List (Fp × Fp)} {qs:List (F2 × F2)}:∀ k,(∀ i,i<k->aV b1 (ps.getD i ((0:Fp),(0:Fp))))->(∀ i,i<k->GQ p u r b2 (qs.getD i (((0:Fp),(0:Fp)),(0:Fp),(0:Fp))))->az (Gk L (bG 63) ps qs k) r=1
 | 0,_,_=>fY r
 | k+1,h1,h2=>by
  show az (Gk L (bG 63) ps qs k*ev L (bG 63) _ _) r=1
  rw[jQ,Tx k (fun i hi=>h1 i (by omega)) (fun i hi=>h2 i (by omega)),Yp L hb1 hb2 hns he hbl (h1 k (by omega)) (h2 k (by omega)),Rg.one_mul]
omit hu in
theorem Oj {n:Nat} (hr:0<r) (h6:p^6=n+1) {v:Nat} (hN:N=lJ p n v u) (hv:v=15132376222941642753) (hu2:u=15132376222941642752) {ps:List (Fp × Fp)} {qs:List (F2 × F2)} (h1:∀ i,i<ps.length->aV b1 (ps.getD i ((0:Fp),(0:Fp)))) (h2:∀ i,i<ps.length->GQ p u r b2 (qs.getD i (((0:Fp),(0:Fp)),(0:Fp),(0:Fp)))) :
  r9 (qR ps qs)=dx (Gk L (bG 63) ps qs ps.length):=by
 have k:=JZ L hb1 hb2 he hbl ps.length h1 h2
 have kr:=Tx L hb1 hb2 hns he hbl ps.length h1 h2
 rw[qR,ay,ZO]
 obtain⟨X,hX⟩:∃ X,X=gA ((gB ps qs ps.length).map fun k=>(sg k (bG 63)).1):=⟨_,rfl⟩
 rw[<- hX] at k ⊢
 have nX:X≠0:=by
  intro e
  rw[<- k,e] at kr
  have h0:az (az (0:aE) N) r=1:=kr
  rw[CH L.pos,CH hr] at h0
  exact Fd.one_ne h0.symm
 have nC:dx X≠0:=by rw[qp L.pp];exact yz nX _
 rw[VA L.pp h6 hv hu2 nC,<- hN,<- k,qp L.pp,qp L.pp]
 show az (az X (p^6)) N=az (az X N) (p^6)
 rw[<- bz,<- bz,Nat.mul_comm]
end
end Go.Proofs.YtbeeaekepmnfhaaGreatDoor.pairing
namespace Go.Proofs.YtbeeaekepmnfhaaGreatDoor.pairing
open Go Go.Eng Go.RowKit Cr fp2 tower
def rtN:Nat:=3850754370037169011952147076051364057158807420970682438676050522613628423219637725072182697113062777891589506424760
theorem aat {r:V2} (hr:q2 r=fm) (x:gS):fZ (w3 r x)=zx (fZ x):=by
 simp only[w3,lM,fZ,q6,km,CI,hr];rfl
def QC (a:V2) (k:Nat):V2:=(Cm a.1 k,Cm a.2 k)
theorem Ue (a:V2) (k:Nat):q2 (QC a k)=sk (q2 a) (zm (k:Int)):=by
 show (zm ((Cm a.1 k:Nat):Int),zm ((Cm a.2 k:Nat):Int))=_
 rw[KC,KC];rfl
abbrev V3:=V2 × V2 × V2
noncomputable def q3 (t:V3):F2 × F2 × F2:=(q2 t.1,q2 t.2.1,q2 t.2.2)
def E9 (t:V3) (px py:Nat):V3 × V3 :=
 cT (aS t.1 t.1) fun xx=>cT (aS t.2.1 t.2.1) fun yy=>cT (aS t.2.2 t.2.2) fun zz=>cT (fk (fk xx xx) xx) fun sl =>
 cT (aS yy yy) fun d0=>cT (fk d0 d0) fun d1=>cT (fk d1 d1) fun d2=>cT (fk d2 d2) fun e8 =>
 cT (aS t.1 yy) fun f0=>cT (fk f0 f0) fun f1=>cT (fk f1 f1) fun f4 =>
 cT (fF (aS sl sl) (fk f4 f4)) fun x=>cT (fF f4 x) fun fx=>cT (fF (aS sl fx) e8) fun y=>cT (aS t.2.1 t.2.2) fun z1=>cT (fk z1 z1) fun z =>
 cT (fF (aS sl t.1) (fk yy yy)) fun a=>cT (aS sl zz) fun b1=>cT (Iy (QC b1 px)) fun b=>cT (aS z zz) fun c1=>cT (QC c1 py) fun c =>
 ((x,y,z),(a,b,c))
theorem acV (t:V3) (px py:Nat):(q3 (E9 t px py).1,q3 (E9 t px py).2)=l7 (q3 t) (zm (px:Int),zm (py:Int)):=by
 simp only[E9,lM,q3,km,qG,mJ,HI,Ue];rfl
def QB (t:V3) (q:V2 × V2) (px py:Nat):V3 × V3 :=
 cT (aS t.2.2 t.2.2) fun zz=>cT (fF (aS q.1 zz) t.1) fun wide=>cT (aS zz t.2.2) fun z3=>cT (fF (aS q.2 z3) t.2.1) fun high =>
 cT (aS wide wide) fun square=>cT (aS square wide) fun cube=>cT (aS t.1 square) fun part =>
 cT (fF (fF (aS high high) cube) (fk part part)) fun x=>cT (fF part x) fun fx=>cT (fF (aS high fx) (aS t.2.1 cube)) fun y=>cT (aS t.2.2 wide) fun z =>
 cT (fF (aS high q.1) (aS z q.2)) fun a=>cT (Iy (QC high px)) fun b=>cT (QC z py) fun c =>
 ((x,y,z),(a,b,c))
theorem acT (t:V3) (q:V2 × V2) (px py:Nat):(q3 (QB t q px py).1,q3 (QB t q px py).2)=sD (q3 t) (q2 q.1,q2 q.2) (zm (px:Int),zm (py:Int)):=by
 simp only[QB,lM,q3,km,qG,mJ,HI,Ue];rfl
def UJ (l:V3):gS:=((l.1,l.2.1,(0,0)),((0,0),l.2.2,(0,0)))
theorem Uh (l:V3):fZ (UJ l)=dN (q2 l.1) (q2 l.2.1) (q2 l.2.2):=rfl
def TA {α:Type} (a:gS × V3) (k:gS->V3->α):α:=gp a.1 fun f=>gI a.2 fun t=>k f t
theorem YX {α:Type} (a:gS × V3) (k:gS->V3->α):TA a k=k a.1 a.2:=by rw[TA,pD,lN]
def Lz (q:V2 × V2) (px py:Nat) (s:gS × V3):Bool->gS × V3
 | false=>gp (z7 s.1) fun f=>gI (E9 s.2 px py).1 fun t=>gI (E9 s.2 px py).2 fun l=>gp (lb f (UJ l)) fun g=>(g,t)
 | true=>gp (z7 s.1) fun f=>gI (E9 s.2 px py).1 fun t=>gI (E9 s.2 px py).2 fun l=>gp (lb f (UJ l)) fun g =>
  gI (QB t q px py).1 fun t2=>gI (QB t q px py).2 fun l2=>gp (lb g (UJ l2)) fun g2=>(g2,t2)
def UK (q:V2 × V2) (px py:Nat):List Bool->gS->V3->gS
 | [],f,_=>f
 | b::l,f,t=>TA (Lz q px py (f,t) b) fun f t=>UK q px py l f t
theorem acU (q:V2 × V2) (px py:Nat) (f:gS) (t:V3) (b:Bool):CK b (fZ f,((zm (px:Int),zm (py:Int)),((q2 q.1,q2 q.2),q3 t)))=(fZ (Lz q px py (f,t) b).1,((zm (px:Int),zm (py:Int)),((q2 q.1,q2 q.2),q3 (Lz q px py (f,t) b).2))):=by
 have h1:=acV t px py
 have h1a:=congrArg Prod.fst h1
 have h1b:=congrArg Prod.snd h1
 simp only at h1a h1b
 cases b
 ·show (fZ f*fZ f*(1*dN (two (q3 t) (zm (px:Int),zm (py:Int))).2.1 (two (q3 t) (zm (px:Int),zm (py:Int))).2.2.1 (two (q3 t) (zm (px:Int),zm (py:Int))).2.2.2),(_,(_,(two (q3 t) (zm (px:Int),zm (py:Int))).1)))=_
  rw[Rg.one_mul,two,ay,<- h1a,<- h1b]
  simp only[Lz,pD,lN,zT,yB,Uh];rfl
 ·have h2:=acT (E9 t px py).1 q px py
  rw[h1a] at h2
  have h2a:=congrArg Prod.fst h2
  have h2b:=congrArg Prod.snd h2
  simp only at h2a h2b
  show (fZ f*fZ f*(1*dN (two (q3 t) (zm (px:Int),zm (py:Int))).2.1 (two (q3 t) (zm (px:Int),zm (py:Int))).2.2.1 (two (q3 t) (zm (px:Int),zm (py:Int))).2.2.2*dN (jB (two (q3 t) (zm (px:Int),zm (py:Int))).1 (q2 q.1,q2 q.2) (zm (px:Int),zm (py:Int))).2.1 (jB (two (q3 t) (zm (px:Int),zm (py:Int))).1 (q2 q.1,q2 q.2) (zm (px:Int),zm (py:Int))).2.2.1 (jB (two (q3 t) (zm (px:Int),zm (py:Int))).1 (q2 q.1,q2 q.2) (zm (px:Int),zm (py:Int))).2.2.2),(_,(_,(jB (two (q3 t) (zm (px:Int),zm (py:Int))).1 (q2 q.1,q2 q.2) (zm (px:Int),zm (py:Int))).1)))=_
  rw[Rg.one_mul,two,ay,jB,ay,<- h2a,<- h2b,<- h1b,<- Rg.mul_assoc]
  simp only[Lz,pD,lN,zT,yB,Uh];rfl
theorem Ui (q:V2 × V2) (px py:Nat):∀ (l:List Bool) (f:gS) (t:V3),(l.foldl (fun s b=>CK b s) (fZ f,((zm (px:Int),zm (py:Int)),((q2 q.1,q2 q.2),q3 t)))).1=fZ (UK q px py l f t)
 | [],f,t=>rfl
 | b::l,f,t=>by
  show (l.foldl (fun s b=>CK b s) (CK b (fZ f,_))).1=fZ (TA (Lz q px py (f,t) b) fun f t=>UK q px py l f t)
  rw[acU,YX,Ui q px py l]
def Nt (r:V2) (x:gS):gS :=
 gp (w3 r x) fun x1=>gp (w3 r x1) fun x2=>gp (lb x2 x) fun g =>
 gp (tW g 64 15132376222941642753) fun a1=>gp (tW a1 64 15132376222941642753) fun a =>
 gp (tW a 64 15132376222941642752) fun b1=>gp (w3 r a) fun b2=>gp (FK b1) fun b3=>gp (lb b3 b2) fun b =>
 gp (tW b 64 15132376222941642752) fun c1=>gp (tW c1 64 15132376222941642752) fun c2=>gp (w3 r b) fun c3=>gp (w3 r c3) fun c4=>gp (lb c2 c4) fun c5=>gp (FK b) fun c6=>gp (lb c5 c6) fun c =>
 gp (z7 g) fun g2=>gp (lb c g2) fun d=>lb d g
theorem aaw {r:V2} (hr:q2 r=fm) {p v u:Nat} (hp:p=bM) (hv:v=15132376222941642753) (hu:u=15132376222941642752) (x:gS):fZ (Nt r x)=az (fZ x) ((p*p+1)*(v*v*(u*p^6+p)*(u*u+p*p+p^6)+2+1)):=by
 have hV:v<2^64:=by rw[hv];exact Odt (by kernel_rfl)
 have hU:u<2^64:=by rw[hu];exact Odt (by kernel_rfl)
 have hc:∀ x:aE,r6 x=az x (p^6):=fun x=>(D6 hp x).symm
 unfold Nt
 rw[<- hv,<- hu]
 simp only[pD,zT,yB,aas,aat hr,HG _ 64 v hV,HG _ 64 u hU,Gx hp,hc]
 obtain⟨X,hX⟩:∃ X,X=fZ x:=⟨_,rfl⟩
 rw[<- hX]
 have e1:az (az X p) p*X=az X (p*p+1):=by rw[<- bz];rfl
 rw[e1,bz X (p*p+1)]
 obtain⟨g,hg⟩:∃ g,g=az X (p*p+1):=⟨_,rfl⟩
 rw[<- hg,dZ g _ 1,dZ g _ 2,bz g _ (u*u+p*p+p^6),bz g (v*v),bz g v v,yw]
 show _=_*(1*g*g)*g
 rw[Rg.one_mul]
 obtain⟨a,ha⟩:∃ a,a=az (az g v) v:=⟨_,rfl⟩
 rw[<- ha,dZ a,bz a]
 obtain⟨b,hb⟩:∃ b,b=az (az a u) (p^6)*az a p:=⟨_,rfl⟩
 rw[<- hb,dZ b,dZ b,bz b u u,bz b p p]
end Go.Proofs.YtbeeaekepmnfhaaGreatDoor.pairing
namespace Go.Proofs.YtbeeaekepmnfhaaGreatDoor.pairing
noncomputable section
open Go Go.Eng Go.RowKit Cr fp2 tower
abbrev b1:Fp:=g1.b4
abbrev b2:F2:=g2.b4
theorem vP:b2=e0 b1*xi:=by
 rw[F2.mul_def]
 refine F2.ext ?_ ?_
 ·show (zm 4:Fp)=zm 4*1-0*1
  rw[Rg.mul_one,Rg.mul_one,ql]
 ·show (zm 4:Fp)=zm 4*1+0*1
  rw[Rg.mul_one,Rg.mul_one,Rg.add_zero]
theorem Fm (y:F2) (h:y*y=b2):False:=by
 obtain⟨i,hi⟩:∃ i:F2,(1+1)*i=1:=⟨_,Fd.mul_inv _ Fd.two_ne⟩
 have h4:e0 b1=(1+1)*(1+1):=by
  have h2:((1+1:Fp)*(1+1))=zm 4:=Zm.ext (by decide)
  have h3:e0 ((1+1:Fp)*(1+1))=(1+1)*(1+1):=by rw[Fo.mul,Fo.add,Fo.one]
  rw[<- h3,h2];rfl
 refine NB (s:=y*i) ?_
 have e:y*i*(y*i)=y*y*(i*i):=Sm _ _ _ _
 have e2:(1+1:F2)*(1+1)*xi*(i*i)=(1+1)*i*((1+1)*i)*xi:=by ac_rfl
 rw[e,h,vP,h4,e2,hi,Rg.one_mul,Rg.one_mul]
def pp:Nat:=cr bM
def uu:Nat:=cr 15132376222941642752
def vu:Nat:=cr 15132376222941642753
def nn:Nat:=cr (bM^6-1)
def NN:Nat:=cr (lJ pp nn vu uu)
abbrev rN:Nat:=g1.rN
theorem iH:pp=bM:=ay _
theorem rk:uu=15132376222941642752:=ay _
theorem FL:vu=15132376222941642753:=ay _
theorem Ft:pp^6=nn+1:=by
 rw[iH,nn,ay];exact Odt (by kernel_rfl)
theorem za:NN=lJ pp nn vu uu:=ay _
theorem XD {x:aE} (hx:x≠0) (h2:x.2=0):az x NN=1:=by
 rw[za];exact acr iH Ft hx h2
theorem UY:∃ t,NN=nn*(2*t):=by
 obtain⟨M,hM⟩:∃ M,M=vu*vu*(uu*pp^6+pp)*(uu*uu+pp*pp+pp^6)+2+1:=⟨_,rfl⟩
 have h:∃ k,pp*pp+1=2*k:=by
  rw[iH];exact⟨(bM*bM+1)/2,Odt (by kernel_rfl)⟩
 obtain⟨k,hk⟩:=h
 refine⟨k*M,?_⟩
 rw[za,lJ,<- hM,hk,Nat.mul_assoc,Nat.mul_assoc]
theorem XA {x:aE} (hx:x≠0) (h1:x.1=0):az x NN=1:=by
 obtain⟨t,ht⟩:=UY
 have h3:az x nn*x=-x:=by
  have h:=D6 iH x
  rw[Ft] at h
  have h4:az x nn*x=(x.1,-x.2):=h
  rw[h4,aE.neg_def,h1]
  exact aE.ext gu.symm rfl
 have h5:az x nn=-1:=by
  have h6:az x nn*(x*Fd.inv x)=-(x*Fd.inv x):=by rw[<- Rg.mul_assoc,h3,Rg.neg_mul]
  rwa [Fd.mul_inv _ hx,Rg.mul_one] at h6
 rw[ht,bz,h5,bz]
 have h7:az (-1:aE) 2=1:=by
  show 1 * -1 * -1=(1:aE)
  rw[Rg.one_mul,Rg.neg_mul,Rg.one_mul,Rg.neg_neg]
 rw[h7,fY]
theorem XB {x:aE} (hx:x≠0):az (az x NN) rN=1:=by
 obtain⟨m,hm⟩:=Vz
 have e:rN=rrN:=rfl
 have e2:lJ pp nn vu uu=lJ bM (bM^6-1) 15132376222941642753 15132376222941642752:=by
  rw[iH,rk,FL,nn,ay]
 rw[za,e2,e]
 exact ab1 hm hx
theorem adu:∃ s,uu+pp=rN*s:=by
 rw[rk,iH]
 exact⟨(15132376222941642752+bM)/rN,Odt (by kernel_rfl)⟩
theorem XC:0<NN:=by
 have h:NN≠0:=by
  rw[za,show lJ pp nn vu uu=lJ bM (bM^6-1) 15132376222941642753 15132376222941642752 by rw[iH,rk,FL,nn,ay]]
  exact Odt (by kernel_rfl)
 omega
theorem mf:qa NN pp uu rN:=⟨iH,fun _ h h2=>XD h h2,fun _ h h1=>XA h h1,fun _ h=>XB h,adu,XC⟩
theorem abm:0<uu:=by rw[rk];exact Odt (by kernel_rfl)
theorem uH:lr (bG 63) 1=uu:=by rw[rk];exact Odt (by kernel_rfl)
theorem aaC:0<rN:=Odt (by kernel_rfl)
def vq:V2:=qO (rtN,rtN)
theorem HQ:q2 vq=fm:=by
 obtain⟨m,hm⟩:∃ m,m=bM/12:=⟨_,rfl⟩
 have h1:bM/6=2*m+1:=by rw[hm];exact Odt (by kernel_rfl)
 have h2:m=2*(2*(bM/48))+2+1:=by rw[hm];exact Odt (by kernel_rfl)
 have h3:(zm (rtN:Int):Fp)=az (1+1:Fp) m:=by
  rw[<- th]
  refine Zm.ext ?_
  rw[w9,<- vi bM 2 (Odt (by kernel_rfl)) 384 m (by rw[hm];exact Odt (by kernel_rfl)),hm]
  exact Odt (by kernel_rfl)
 rw[HP rfl,UT h1 h2,<- h3,vq,CI];rfl
theorem OJ:gJ pp wi*e2 fm=wi:=by
 have hq:pp=6*(bM/6)+1:=iH.trans (Odt (by kernel_rfl))
 have h1:gJ pp ww=e2 fm*ww:=by
  rw[HP rfl];exact Ud hq
 have h2:=congrArg (gJ pp) z9
 have hf:=yc iH
 rw[hf.mul,hf.one,h1] at h2
 have h3:e2 fm*ww*gJ pp wi*wi=wi:=by rw[h2,Rg.one_mul]
 have h4:e2 fm*ww*gJ pp wi*wi=gJ pp wi*e2 fm*(ww*wi):=by ac_rfl
 rw[h4,z9,Rg.mul_one] at h3
 exact h3
theorem OI (x:F2):gJ pp (e2 x)=e2 (x.1,-x.2):=by
 show az (e2 x) pp=_
 rw[mP,wH iH]
theorem V0 {x y x' y':F2} (hx:((x.1,-x.2):F2)=x'*(fm*fm)) (hy:((y.1,-y.2):F2)=-(y'*(fm*fm*fm))):cD (gJ pp) (cc e2 wi (x,y))=aX (cc e2 wi (x',y')):=by
 have hf:=yc iH
 refine Prod.ext ?_ ?_
 ·show gJ pp (e2 x*(wi*wi))=e2 x'*(wi*wi)
  rw[hf.mul,hf.mul,OI,hx,cS.mul,cS.mul]
  have e:e2 x'*(e2 fm*e2 fm)*(gJ pp wi*gJ pp wi)=e2 x'*(gJ pp wi*e2 fm*(gJ pp wi*e2 fm)):=by ac_rfl
  rw[e,OJ]
 ·show gJ pp (e2 y*(wi*wi*wi))=-(e2 y'*(wi*wi*wi))
  rw[hf.mul,hf.mul,hf.mul,OI,hy,cS.neg,cS.mul,cS.mul,cS.mul,Rg.neg_mul]
  have e:e2 y'*(e2 fm*e2 fm*e2 fm)*(gJ pp wi*gJ pp wi*gJ pp wi)=e2 y'*(gJ pp wi*e2 fm*(gJ pp wi*e2 fm)*(gJ pp wi*e2 fm)):=by ac_rfl
  rw[e,OJ]
def qx:V2:=(qxA,qxB)
def qy:V2:=(qyA,qyB)
def chq (T:V3):Bool :=
 gI T fun T=>cT (aS T.2.2 T.2.2) fun zz=>cT (aS zz T.2.2) fun zzz=>cT (aS vq vq) fun r2=>cT (aS r2 vq) fun r3 =>
 cJ.isz (fF (aS (qO qx) zz) (aS T.1 r2))&&cJ.isz (fk (aS (qO qy) zzz) (aS T.2.1 r3))
theorem XY:chq (cJ.gK (qx,qy,(1,0)) 64 15132376222941642752)=true:=by kernel_rfl
theorem XX:cJ.isz (cJ.gK (qx,qy,(1,0)) 64 15132376222941642752).2.2=false:=by kernel_rfl
theorem Y7:du b2 (cJ.φ3 (qx,qy,(1,0))) g2.gG:=by
 have h:=sL g2.me
 unfold df at h
 rw[if_neg g2.v7,g2.lz] at h
 rw[g2.lz]
 exact h
theorem Y6:cD (gJ pp) (cc e2 wi g2.gG)=aX (cc e2 wi (aq g2.gG uu)):=by
 have h2:=Ev.wg g2.cg Y7 64 15132376222941642752 (Odt (by kernel_rfl))
 have h3:=XY
 have h4:=XX
 rw[rk]
 obtain⟨T,hT⟩:∃ T:V3,T=cJ.gK (qx,qy,((1:Nat),(0:Nat))) 64 15132376222941642752:=⟨_,rfl⟩
 obtain⟨G,hG⟩:∃ G,G=aq g2.gG 15132376222941642752:=⟨_,rfl⟩
 rw[<- hT] at h3 h4
 have h2:du b2 (cJ.φ3 (cJ.gK (qx,qy,((1:Nat),(0:Nat))) 64 15132376222941642752)) (aq g2.gG 15132376222941642752):=h2
 rw[<- hT,<- hG] at h2
 rw[<- hG]
 have nz:q2 T.2.2≠0:=fun e=>by
  have:=(cJ.isz_φ T.2.2).2 e
  rw[h4] at this;cases this
 obtain⟨_,e1,e2',_⟩:=h2.resolve_left (fun e=>nz e.1)
 have e1:q2 T.1=G.1*(q2 T.2.2*q2 T.2.2):=e1
 have e2':q2 T.2.1=G.2*(q2 T.2.2*(q2 T.2.2*q2 T.2.2)):=e2'
 unfold chq at h3
 simp only[lN,lM] at h3
 rw[Bool.and_eq_true] at h3
 have h5:q2 (fF (aS (qO qx) (aS T.2.2 T.2.2)) (aS T.1 (aS vq vq)))=0:=(cJ.isz_φ _).1 h3.1
 have h6:q2 (fk (aS (qO qy) (aS (aS T.2.2 T.2.2) T.2.2)) (aS T.2.1 (aS (aS vq vq) vq)))=0:=(cJ.isz_φ _).1 h3.2
 simp only[mJ,km,CI,qG,HQ] at h5 h6
 have k5:=Rg.bq h5
 have k6:=(Rg.neg_eq h6).symm
 rw[e1] at k5
 rw[e2'] at k6
 obtain⟨Z,hZ⟩:∃ Z,Z=q2 T.2.2:=⟨_,rfl⟩
 rw[<- hZ] at k5 k6 nz
 rw[g2.lz]
 refine V0 (x:=g2.gx) (y:=g2.gy) (x':=G.1) (y':=G.2) ?_ ?_
 ·refine Fd.mul_left (Fd.dG nz nz) ?_
  rw[Rg.mul_comm]
  refine Eq.trans k5 ?_
  ac_rfl
 ·refine Fd.mul_left (Fd.dG (Fd.dG nz nz) nz) ?_
  have k7:((g2.gy.1,-g2.gy.2):F2)*(Z*Z*Z)=-(G.2*(Z*(Z*Z))*(fm*fm*fm)):=by
   rw[k6,Rg.neg_neg];rfl
  rw[Rg.mul_comm,k7,Rg.mul_neg]
  congr 1
  ac_rfl
theorem zy (n:Nat):GQ pp uu rN b2 (aq g2.gG n):=by
 have hB:=qd g1.cg
 have eb:=nG vP
 have oG:aV b2 g2.gG:=g2.me
 have oT:=rM cS eb oG
 have oU:aV b2 (aq g2.gG uu):=a7 g2.cg oG uu
 have hs:g2.Sub (aq g2.gG n):=g2.wY g2.lG n
 refine⟨hs.1,?_,hs.2,?_⟩
 ·have h1:cc e2 wi (aq g2.gG n)=aq (cc e2 wi g2.gG) n:=ni cS eb g2.cg hB oG n
  rw[h1,RP (f:=gJ pp) (b':=e1 b1) (yc iH) (x9 iH b1).symm hB hB oT,Y6,Hb hB (rM cS eb oU),<- ni cS eb g2.cg hB oU,bu g2.cg oG,bu g2.cg oG,Nat.mul_comm]
 ·by_cases hQ:aq g2.gG n=O2
  ·exact .inl hQ
  ·refine .inr fun k h0 h1 hk=>hQ ?_
   have hv:(zm (k:Int):Fr).v=(k:Int)%(rN:Int):=rfl
   have hk':k<rN:=by
    rw[rk] at h1
    exact Nat.lt_of_le_of_lt h1 (Odt (by kernel_rfl))
   have hx:(zm (k:Int):Fr)≠0:=fun e=>by
    have h2:=congrArg Zm.v e
    rw[hv] at h2
    have h2:(k:Int)%(rN:Int)=0:=h2
    rw[Int.emod_eq_of_lt (by omega) (Int.ofNat_lt.2 hk')] at h2
    omega
   have h3:=g2.qB hs hv
   rw[hk] at h3
   have h4:=g2.pJ hs (zm (k:Int):Fr) (Fd.inv (zm (k:Int)))
   rw[Fd.mul_inv _ hx,g2.mul_one hs,h3,g2.eh (.inl rfl),fV] at h4
   exact h4
theorem XN:bG 63=[true,false,true,false,false,true,false,false,false,false,false,false,false,false,true,false,false,false,false,false,false,false,false,false,false,false,false,false,false,false,false,false,false,false,false,false,false,false,false,false,false,false,false,false,false,false,true,false,false,false,false,false,false,false,false,false,false,false,false,false,false,false,false]:=Odt (by kernel_rfl)
def nN:aE:=ev mf (bG 63) g1.gG g2.gG
def ZT:gS:=UK (qx,qy) TD TE [true,false,true,false,false,true,false,false,false,false,false,false,false,false,true,false,false,false,false,false,false,false,false,false,false,false,false,false,false,false,false,false,false,false,false,false,false,false,false,false,false,false,false,false,false,false,true,false,false,false,false,false,false,false,false,false,false,false,false,false,false,false,false] Iz (qx,qy,(1,0))
theorem ZU:cJ.isz (gp ZT fun x=>Nt vq x).2.1=false:=by kernel_rfl
theorem Ml:GQ pp uu rN b2 g2.gG:=by
 have h:=zy 1
 rwa [gv] at h
theorem V5:nN=az (fZ ZT) NN:=by
 have h:=Um mf g1.cg g2.cg vP uH g1.v7 g2.v7 Ml
 rw[nN,<- h,g1.lz,g2.lz,XN]
 refine congrArg (fun x=>az x NN) ?_
 exact Ui (qx,qy) TD TE _ Iz (qx,qy,((1:Nat),(0:Nat)))
theorem Y9:nN≠1:=by
 intro h
 rw[V5] at h
 have hz:=ZU
 rw[pD] at hz
 obtain⟨X,hX⟩:∃ X,X=ZT:=⟨_,rfl⟩
 rw[<- hX] at h hz
 have k:=aaw HQ iH FL rk X
 obtain⟨Y,hY⟩:∃ Y,Y=Nt vq X:=⟨_,rfl⟩
 rw[<- hY] at k hz
 rw[za,lJ,Nat.mul_assoc,Nat.mul_comm,bz,<- k] at h
 have h1:az (fZ Y) (pp^6)=fZ Y:=by
  rw[Ft]
  show az (fZ Y) nn*fZ Y=_
  rw[h,Rg.one_mul]
 rw[D6 iH] at h1
 have h2 : -(fZ Y).2=(fZ Y).2:=congrArg Prod.snd h1
 have h3:(fZ Y).2=0:=qe h2.symm
 have h4:q2 Y.2.1=0:=congrArg Prod.fst h3
 have h5:=(cJ.isz_φ Y.2.1).2 h4
 rw[hz] at h5;cases h5
end
end Go.Proofs.YtbeeaekepmnfhaaGreatDoor.pairing
namespace Go.Proofs.YtbeeaekepmnfhaaGreatDoor.h2c
noncomputable section
open Go Go.Eng Go.RowKit Cr fp2 Rg Fd
abbrev kZ:=(List.take 8 [(210:Int),(1:Int),(0:Int),(0:Int),(0:Int),(1:Int),(0:Int),(0:Int)])
theorem ZA:inv2 tower.fm=ir:=by
 refine Zz ?_
 have h:eqv (aS qz pairing.vq) (1,0)=true:=by kernel_rfl
 have h1:=Yo h
 rw[km,aau,pairing.HQ] at h1
 exact h1
theorem VZ:aB Tryz.prog 158 [] [.val f2] aM (fun _=>True) (fun _=>(tower.fm,())):=tower.Ke
def aaY:Nat × Eng.Spec:=(158,ar [] [.val f2] (fun _=>True) (fun _=>(tower.fm,())))
theorem Q7:enters Tryz.prog 159 Tryz.f159:=ek
theorem VF:aB Tryz.prog 159 [ba,.ptr f2,.ptr f2] [.val ba] aM (fun _=>True) (fun (q,s,c,_)=>(((dw q.1*s,dw q.2*c):F2 × F2),())):=by
 refine ax (sp:=aF [fp2.H9,fp2.cK]) (ai (ak fp2.u4) (ai (ak fp2.cL) aR)) mixed Q7 (by decide) (by decide) ?_
 rintro w M0 ⟨q,s,c,⟨⟩⟩
 revert q s c
 intro (q:F2 × F2) (s:F2) (c:F2) _ _
 refine ao (X:=(True/\0<[s].length/\True/\True/\0<[c].length/\True/\(((q.fst.fst,-q.fst.snd)*s,(q.snd.fst,-q.snd.snd)*c),())=((dw q.fst*s,dw q.snd*c),()))) (by kernel_rfl) ?_
 exact⟨trivial,Nat.zero_lt_one,trivial,trivial,Nat.zero_lt_one,trivial,rfl⟩
def aa2:Nat × Eng.Spec:=(159,ar [ba,.ptr f2,.ptr f2] [.val ba] (fun _=>True) (fun (q,s,c,_)=>(((dw q.1*s,dw q.2*c):F2 × F2),())))
def ky (p:F2 × F2):F2 × F2:=cr (Tu p)
theorem K5:Bs kZ:=by
 intro x hx;simp at hx;omega
theorem NX {p:F2 × F2} (h:g2.mE p):g2.v8 (List.take 5 [g2.eY (g2.eY p (List.take 8 [210,1,0,0,0,1,0,0])) (List.take 8 [210,1,0,0,0,1,0,0]),g2.eY p (List.take 8 [210,1,0,0,0,1,0,0]),g2.iE p,g2.iE (tU (g2.dR (g2.eY p (List.take 8 [210,1,0,0,0,1,0,0])) p)),tU (tU (g2.dR p p))])=ky p:=by
 have hk:Bs [210,1,0,0,0,1,0,0]:=by intro x hx;simp at hx;omega
 have e:List.take 8 [210,1,0,0,0,1,0,0]=([210,1,0,0,0,1,0,0]:List Int):=rfl
 have en:(num [210,1,0,0,0,1,0,0]).toNat=uN:=Odt (by kernel_rfl)
 have oA:aV tb (aq p uN):=a7 cd h _
 have oB:aV tb (aq (aq p uN) uN):=a7 cd oA _
 have oC:=cP (b:=tb) h
 have oD:aV tb (aX (tU (ae (aq p uN) p))):=cP (uF.on _ (dP cd oA h))
 have oE:aV tb (tU (tU (ae p p))):=uF.on _ (uF.on _ (dP cd h h))
 rw[e,g2.zA h hk,en,g2.zA oA hk,en,g2.va,g2.va,g2.pE oA h,g2.pE h h]
 show g2.v8 [_,_,_,_,_]=_
 rw[g2.V8,ky,ay];· rfl
 intro q hq
 simp only[List.mem_cons,List.not_mem_nil,or_false] at hq
 rcases hq with h|h|h|h|h
 ·rw[h];exact oB
 ·rw[h];exact oA
 ·rw[h];exact oC
 ·rw[h];exact oD
 ·rw[h];exact oE
theorem N7:enters Tryz.prog 109 Tryz.f109:=ek
theorem RE:aB Tryz.prog 109 [ba] [.val ba] aM (fun (p,_)=>g2.mE p) (fun (p,_)=>(ky p,())):=by
 refine ax (sp:=aF [aaY,fp2.mS,fp2.bJ,fp2.cK,g2.zX,g2.CN,g2.oy,aa2,g2.ac6]) (ai (ak VZ) (ai (ak fp2.ke) (ai (ak fp2.b9) (ai (ak fp2.cL) (ai (ak g2.A0) (ai (ak g2.Ca) (ai (ak g2.se) (ai (ak VF) (ai (ak g2.Y0) aR))))))))) mixed N7 (by decide) (by decide) ?_
 rintro w M0 ⟨p,⟨⟩⟩
 revert p
 intro (p:F2 × F2) _ hp
 have hp:g2.mE p:=hp
 refine ao (X:=(True/\True/\True/\True/\0+8<=8/\g2.bX (p,List.take 8 [210,1,0,0,0,1,0,0],())/\0+8<=8/\g2.bX (g2.eY p kZ,List.take 8 [210,1,0,0,0,1,0,0],())/\True/\True/\True/\True/\True/\True/\True/\0+5<=5/\g2.mI (List.take 5 [g2.eY (g2.eY p kZ) kZ,g2.eY p kZ,g2.iE p,g2.iE (dw (g2.dR (g2.eY p kZ) p).fst*(inv2 (tower.aU,-tower.aU)*inv2 (tower.aU,-tower.aU)),dw (g2.dR (g2.eY p kZ) p).snd*(inv2 (tower.aU,-tower.aU)*inv2 (tower.aU,-tower.aU)*inv2 (tower.aU,-tower.aU))),(dw (dw (g2.dR p p).fst*(inv2 (tower.aU,-tower.aU)*inv2 (tower.aU,-tower.aU)))*(inv2 (tower.aU,-tower.aU)*inv2 (tower.aU,-tower.aU)),dw (dw (g2.dR p p).snd*(inv2 (tower.aU,-tower.aU)*inv2 (tower.aU,-tower.aU)*inv2 (tower.aU,-tower.aU)))*(inv2 (tower.aU,-tower.aU)*inv2 (tower.aU,-tower.aU)*inv2 (tower.aU,-tower.aU)))],())/\(g2.v8 (List.take 5 [g2.eY (g2.eY p kZ) kZ,g2.eY p kZ,g2.iE p,g2.iE (dw (g2.dR (g2.eY p kZ) p).fst*(inv2 (tower.aU,-tower.aU)*inv2 (tower.aU,-tower.aU)),dw (g2.dR (g2.eY p kZ) p).snd*(inv2 (tower.aU,-tower.aU)*inv2 (tower.aU,-tower.aU)*inv2 (tower.aU,-tower.aU))),(dw (dw (g2.dR p p).fst*(inv2 (tower.aU,-tower.aU)*inv2 (tower.aU,-tower.aU)))*(inv2 (tower.aU,-tower.aU)*inv2 (tower.aU,-tower.aU)),dw (dw (g2.dR p p).snd*(inv2 (tower.aU,-tower.aU)*inv2 (tower.aU,-tower.aU)*inv2 (tower.aU,-tower.aU)))*(inv2 (tower.aU,-tower.aU)*inv2 (tower.aU,-tower.aU)*inv2 (tower.aU,-tower.aU)))]),())=(ky p,()))) (by kernel_rfl) ?_
 have e:inv2 (tower.aU,-tower.aU)=ir:=ZA
 rw[e]
 refine⟨trivial,trivial,trivial,trivial,Nat.le_refl _,⟨K5,by decide⟩,Nat.le_refl _,⟨K5,by decide⟩,trivial,trivial,trivial,trivial,trivial,trivial,trivial,Nat.le_refl _,by show 5<_;decide,?_⟩
 exact congrArg (fun x=>(x,())) (NX hp)
def K9:Nat × Eng.Spec:=(109,ar [ba] [.val ba] (fun (p,_)=>g2.mE p) (fun (p,_)=>(ky p,())))
theorem XZ {p:F2 × F2} (h:aV tb p):ky p=aq p hN:=by rw[ky,ay,abA h]
theorem Vb {p:F2 × F2} (h:aV tb p):g2.Sub (ky p):=by
 rw[XZ h];exact⟨a7 cd h _,h_r h⟩
end
end Go.Proofs.YtbeeaekepmnfhaaGreatDoor.h2c
namespace Go.Proofs.YtbeeaekepmnfhaaGreatDoor.h2c
noncomputable section
open Go Go.Eng Go.RowKit Cr fp2 sha xmd
theorem YQ:aB Tryz.prog 107 [ij,ij,.int .i64] [.val (.sl fp2.f2),.val (.int .i64)] db tK (fun (m,t,n,_)=>((lQ m t n).1,(lQ m t n).2,())):=Mf.Y3
def Uw:Nat × Eng.Spec:=(107,mc db [ij,ij,.int .i64] [.val (.sl fp2.f2),.val (.int .i64)] tK (fun (m,t,n,_)=>((lQ m t n).1,(lQ m t n).2,())))
def u0 (m t:List Int):F2:=cr (Co (lu m t 256) 0)
def u1 (m t:List Int):F2:=cr (Co (lu m t 256) 1)
theorem acF (m t:List Int):lQ m t 2=([u0 m t,u1 m t],0):=by
 rw[lQ,u0,u1,ay,ay,<- Sh];rfl
def An (m t:List Int):F2 × F2:=cr (ky (ae (fq (u0 m t)) (fq (u1 m t))))
theorem Wc (m t:List Int):g2.Sub (An m t):=by
 rw[An,ay];exact Vb (dP cd (pG _) (pG _))
def TF (us:List F2) (k:Nat):F2 × F2:=it (fun i s=>g2.dR s (fq (us.getD i ((0:Fp),(0:Fp))))) (((0:Fp),(0:Fp)),(0:Fp),(0:Fp)) k
def Km (us:List F2) (g:Int × (F2 × F2)):St:=aY Tryz.f64.ntmps 104 [(4,.is (.one (.ptr 0 0))),(7,.is (.one (.ptr 72 0))),(16,.is (.one (.ro fp2.f2 us))),(17,sI .i64 us.length),(18,sI .i64 g.1)] [(72,cellsOf ba g.2),(0,cellsOf ba ((((0:Fp),(0:Fp)),(0:Fp),(0:Fp)):F2 × F2))]
theorem acb (a b:F2):TF [a,b] 2=ae (fq a) (fq b):=by
 show g2.dR (g2.dR O2 (fq a)) (fq b)=_
 have oO:aV tb (O2:F2 × F2):=.inl rfl
 rw[g2.pE oO (pG a),ct,g2.pE (pG a) (pG b)]
theorem Re:enters Tryz.prog 64 Tryz.f64:=ek
abbrev MK:HL [ij,ij]->Prop:=fun (m,t,_)=>List.length m<=1048576/\List.length t<=1048576
theorem VI:aB Tryz.prog 64 [ij,ij] [.val ba] db MK (fun (m,t,_)=>(An m t,())):=by
 have hsp:aN Tryz.prog (aF [Uw,Uv,g2.oy,K9]):=ai (B5 YQ) (ai (ak YO) (ai (ak g2.se) (ai (ak RE) aR)))
 refine bh (sp:=aF [Uw,Uv,g2.oy,K9]) Re (by decide) (by decide) (by kernel_rfl) ?_
 rintro w M0 ⟨m,t,⟨⟩⟩
 revert m t
 intro (m:List Int) (t:List Int) hw hp
 have hm:m.length<=1048576:=hp.1
 have ht:t.length<=1048576:=hp.2
 show Tr _ _ _ _ _ _ _
 refine eB hsp mixed 4 (fun σ=>KW fp2.f2 5 σ) (fun us=>Km us (0,(((0:Fp),(0:Fp)),(0:Fp),(0:Fp)))) (fun us=>us=[u0 m t,u1 m t]) ?_ ?_
 ·refine ao (X:=((∀ (g:Nat) (s:Sigma au),db g=some s->Decidable.rec (fun h=>(fun x=>if g=(1:Nat) then some ⟨Kd.arr (64:Nat) uK,dQ⟩ else none) h) (fun h=>(fun x=>some ⟨Kd.arr (8:Nat) uK,cw⟩) h) (instDecidableEqNat g (0:Nat))=some s)/\tK (m,t,(2:Int),())/\(Km ((lQ m t (2:Int)).fst,(lQ m t (2:Int)).snd,()).fst ((0:Int),((0:Fp),(0:Fp)),(0:Fp),(0:Fp))).ah ((lQ m t (2:Int)).fst=[u0 m t,u1 m t]))) (by kernel_rfl) ?_
  rw[acF]
  exact⟨fun _ _ h=>h,⟨hm,ht⟩,aA rfl⟩
 rintro us hus
 revert us
 intro (us:List F2) (hus:us=[u0 m t,u1 m t])
 have hl:us.length=2:=by rw[hus];rfl
 refine bO hsp mixed dA (fun σ=>(bU (.int .i64) 18 σ,ga ba 72 σ)) (Km us) (fun g=>∃ k:Nat,k<=2/\g.1=(k:Int)/\g.2=TF us k) (fun g=>2-g.1.toNat)
  (fun σ=>(bU (.int .i64) 18 σ,ga ba 72 σ)) (Km us) (fun g=>g.2=ae (fq (u0 m t)) (fq (u1 m t))) (0,(((0:Fp),(0:Fp)),(0:Fp),(0:Fp))) (c:=aI (aJ Tryz.f64) 4) (by kernel_rfl) (by kernel_rfl) (aC (by kernel_rfl) (by kernel_rfl) ?_) ?_ ?_
 ·exact⟨0,Nat.zero_le _,rfl,rfl⟩
 ·rintro⟨i,s⟩ hj
  revert i s
  intro (i:Int) (s:F2 × F2) ⟨k,hk,ei,es⟩
  have ei:i=(k:Int):=ei
  have ks:s=TF us k:=es
  subst ei
  refine ao (X:=((decide ((k:Int)<(us.length:Int))=true->((0:Int)<=(k:Int)/\(k:Int)<(us.length:Int))/\(k:Int).toNat<us.length/\True/\True/\(Km us (IntKind.i64.wrap ((k:Int)+(1:Int)),g2.dR s (fq (us.getD (k:Int).toNat ((0:Fp),(0:Fp)))))).ah ((∃ cE,cE<=(2:Nat)/\IntKind.i64.wrap ((k:Int)+(1:Int))=(cE:Int)/\g2.dR s (fq (us.getD (k:Int).toNat ((0:Fp),(0:Fp))))=TF us cE)/\(2:Nat)-(IntKind.i64.wrap ((k:Int)+(1:Int))).toNat<(2:Nat)-(k:Int).toNat))/\(decide ((k:Int)<(us.length:Int))=false->(Km us ((k:Int),s)).ah (s=ae (fq (u0 m t)) (fq (u1 m t)))))) (by kernel_rfl) ?_
  rw[hl]
  refine⟨fun h=>?_,fun h=>aA ?_⟩
  ·have hlt:k<2:=by have:=Odt h;omega
   rw[aQ (by omega)]
   refine⟨⟨by omega,by omega⟩,hlt,trivial,trivial,aA ⟨⟨k+1,hlt,rfl,?_⟩,?_⟩⟩
   ·rw[ks,Int.toNat_natCast];rfl
   ·rw[Int.toNat_natCast,Int.toNat_natCast];omega
  ·have h2:k=2:=by have:=Odf h;omega
   rw[ks,h2,hus,acb]
 rintro⟨i,s⟩ hj
 revert i s
 intro (i:Int) (s:F2 × F2) (hj:s=ae (fq (u0 m t)) (fq (u1 m t)))
 refine bf hsp mixed _ _ ?_
 refine ao (X:=(g2.mE s/\(ky s,())=(An m t,()))) (by kernel_rfl) ?_
 rw[hj]
 refine⟨dP cd (pG _) (pG _),?_⟩
 rw[An,ay]
def aa4:Nat × Eng.Spec:=(64,mc db [ij,ij] [.val ba] MK (fun (m,t,_)=>(An m t,())))
end
end Go.Proofs.YtbeeaekepmnfhaaGreatDoor.h2c
namespace Go.Proofs.YtbeeaekepmnfhaaGreatDoor.pairing
noncomputable section
open Go Go.Eng Go.RowKit Cr fp2 tower
theorem ab9:az nN rN=1:=Yp mf g1.cg g2.cg Fm vP uH g1.me Ml
theorem V7 (m:Nat):az nN m=az nN (m%rN):=by
 conv=>lhs;rw[<- Nat.div_add_mod m rN]
 rw[dZ,bz,ab9,fY,Rg.one_mul]
theorem abK (b:Nat):ev mf (bG 63) g1.gG (aq g2.gG b)=az nN b:=by
 induction b with
 | zero=>exact zo mf _
 | succ b ih =>
  show ev mf (bG 63) g1.gG (ae (aq g2.gG b) g2.gG)=az nN b*nN
  rw[Vw mf g1.cg g2.cg Fm vP uH g1.me (zy b) Ml,ih];rfl
theorem abL (a b:Nat):ev mf (bG 63) (aq g1.gG a) (aq g2.gG b)=az nN (a*b):=by
 rw[JY mf g1.cg g2.cg Fm vP uH g1.me (zy b) abm,abK,<- bz,Nat.mul_comm]
def pe (x:Fr):aE:=cr (dx (az nN x.v.toNat))
theorem Cv (x:Fr):pe x=az (az nN x.v.toNat) (pp^6):=by rw[pe,ay,qp iH]
theorem Fv {x:Fr} {m:Nat} (hx:x.v=(m:Int)%(rN:Int)):pe x=az (az nN m) (pp^6):=by
 rw[Cv,V7 m,hx,<- Int.natCast_emod,Int.toNat_natCast]
theorem KO:pe 0=1:=by
 rw[Cv,ma]
 show az (1:aE) _=1
 exact fY _
theorem aah (x y:Fr):pe (x+y)=pe x*pe y:=by
 obtain⟨m,hm,_⟩:=g1.qW x
 obtain⟨n,hn,_⟩:=g1.qW y
 rw[Fv (x:=x+y) (m:=m+n) (by rw[ze,hm,hn,Int.natCast_add];rfl),Cv,Cv,hm,hn,Int.toNat_natCast,Int.toNat_natCast,dZ,jQ]
theorem aai (x y:Fr):pe (x*y)=az (pe x) y.v.toNat:=by
 obtain⟨m,hm,_⟩:=g1.qW x
 obtain⟨n,hn,_⟩:=g1.qW y
 rw[Fv (x:=x*y) (m:=m*n) (by rw[n9,hm,hn,Int.natCast_mul];rfl),Cv,hm,hn,Int.toNat_natCast,Int.toNat_natCast,bz,<- bz (az nN m),<- bz (az nN m),Nat.mul_comm]
theorem PA (x:Fr):pe x=1↔x=0:=by
 constructor
 ·intro h
  by_cases hx:x=0
  ·exact hx
  ·exfalso
   have h1:=aai x (Fd.inv x)
   rw[Fd.mul_inv _ hx,h,fY,Fv (x:=1) (m:=1) (by rw[tH];rfl),yw,D6 iH] at h1
   have h2:=congrArg Prod.fst h1
   have h2:nN.1=(1:aE).1:=h2
   have h3 : -nN.2=(1:aE).2:=congrArg Prod.snd h1
   have h4:nN.2=(1:aE).2:=by
    rw[<- Rg.neg_neg nN.2,h3]
    exact gu (F:=F6)
   exact Y9 (aE.ext h2 h4)
 ·rintro rfl;exact KO
def Gc (xs ys:List Fr) (k:Nat):Fr:=it (fun i s=>s+xs.getD i 0*ys.getD i 0) 0 k
def vh (xs:List Fr):List (Fp × Fp):=xs.map fun x=>g1.a6 g1.gG x
def xg (ys:List Fr):List (F2 × F2):=ys.map fun y=>g2.a6 g2.gG y
theorem Pl {xs:List Fr} {i:Nat} (h:i<xs.length):(vh xs).getD i ((0:Fp),(0:Fp))=aq g1.gG (xs.getD i 0).v.toNat:=by
 rw[<- g1.eh g1.me]
 simp[vh,List.getD_eq_getElem?_getD,h]
theorem Pm {ys:List Fr} {i:Nat} (h:i<ys.length):(xg ys).getD i (((0:Fp),(0:Fp)),(0:Fp),(0:Fp))=aq g2.gG (ys.getD i 0).v.toNat:=by
 rw[<- g2.eh g2.me]
 simp[xg,List.getD_eq_getElem?_getD,h]
theorem J1 (xs ys:List Fr):∀ k,k<=xs.length->k<=ys.length->az (Gk mf (bG 63) (vh xs) (xg ys) k) (pp^6)=pe (Gc xs ys k)
 | 0,_,_=>(fY _).trans KO.symm
 | k+1,h1,h2=>by
  show az (Gk mf (bG 63) (vh xs) (xg ys) k*ev mf (bG 63) ((vh xs).getD k ((0:Fp),(0:Fp))) ((xg ys).getD k (((0:Fp),(0:Fp)),(0:Fp),(0:Fp)))) (pp^6)=pe (Gc xs ys k+xs.getD k 0*ys.getD k 0)
  rw[jQ,J1 xs ys k (by omega) (by omega),Pl (by omega),Pm (by omega),abL,aah]
  congr 1
  obtain⟨m,hm,_⟩:=g1.qW (xs.getD k 0)
  obtain⟨n,hn,_⟩:=g1.qW (ys.getD k 0)
  rw[Fv (x:=xs.getD k 0*ys.getD k 0) (m:=m*n) (by rw[n9,hm,hn,Int.natCast_mul];rfl),hm,hn,Int.toNat_natCast,Int.toNat_natCast]
theorem Pz {xs ys:List Fr} (h:xs.length=ys.length):r9 (qR (vh xs) (xg ys))=pe (Gc xs ys xs.length):=by
 have hl:(vh xs).length=xs.length:=List.length_map _
 rw[Oj mf g1.cg g2.cg Fm vP uH aaC Ft za FL rk (ps:=vh xs) (qs:=xg ys),hl,qp iH,J1 xs ys _ (Nat.le_refl _) (Nat.le_of_eq h)]
 ·intro i hi
  rw[hl] at hi
  rw[Pl hi];exact a7 g1.cg g1.me _
 ·intro i hi
  rw[hl] at hi
  rw[Pm (by omega)];exact zy _
end
end Go.Proofs.YtbeeaekepmnfhaaGreatDoor.pairing
namespace Go.Proofs.YtbeeaekepmnfhaaGreatDoor.pairing
open Go Go.Eng Go.RowKit Cr fp2 tower
theorem abG (x y:aE):gm bC x y=decide (x=y):=by
 by_cases h:x=y
 ·rw[(lh (e:=bC) x y).2 h,decide_eq_true h]
 ·rw[decide_eq_false h];exact Bool.eq_false_iff.2 fun e=>h ((lh (e:=bC) x y).1 e)
theorem acH (x:Fr):gm bC (pe x) (1:aE)=decide (x=0):=by
 rw[abG]
 by_cases h:x=0
 ·rw[decide_eq_true h,decide_eq_true ((PA x).2 h)]
 ·rw[decide_eq_false h,decide_eq_false fun e=>h ((PA x).1 e)]
theorem QV {xs ys:List Fr} (h:xs.length=ys.length):ui (vh xs) (xg ys)=decide (Gc xs ys xs.length=0):=by
 have h1:(vh xs).length=(xg ys).length:=by rw[vh,xg,List.length_map,List.length_map,h]
 rw[ui,decide_eq_true h1]
 show gm bC (r9 (qR (vh xs) (xg ys))) (1:aE)=_
 rw[Pz h,acH]
end Go.Proofs.YtbeeaekepmnfhaaGreatDoor.pairing
namespace Go.Proofs.YtbeeaekepmnfhaaGreatDoor.bG
noncomputable section
open Go Go.Eng Go.RowKit Cr fp2 sha
abbrev bo:Kd:=.pair .fp .fp
abbrev ba:Kd:=.pair fp2.f2 fp2.f2
abbrev ij:Kd:=.sl (.int .u8)
def aer:List Int:=[66,76,83,95,83,73,71,95,66,76,83,49,50,51,56,49,71,50,95,88,77,68,58,83,72,65,45,50,53,54,95,83,83,87,85,95,82,79,95,78,85,76,95]
def dv (msg:List Int):F2 × F2:=cr (h2c.An msg aer)
theorem zg (msg:List Int):g2.Sub (dv msg):=by rw[dv,ay];exact h2c.Wc _ _
def hlg (msg:List Int):Fr:=Classical.choose (g2.Tv (zg msg))
theorem NP (msg:List Int):dv msg=g2.a6 g2.gG (hlg msg):=Classical.choose_spec (g2.Tv (zg msg))
theorem aaS (msg:List Int) (k:Fr):g2.a6 (dv msg) k=g2.a6 g2.gG (hlg msg*k):=by rw[NP,g2.pJ g2.lG]
theorem qq:enters Tryz.prog 29 Tryz.f29:=ek
abbrev MN:HL [ij]->Prop:=fun (m,_)=>List.length m<=1048576
theorem m5:aB Tryz.prog 29 [ij] [.val ba] db MN (fun (m,_)=>(dv m,())):=by
 refine ax (sp:=aF [h2c.aa4]) (ai (B5 h2c.VI) aR) mixed qq (by decide) (by decide) ?_
 rintro w M0 ⟨m,⟨⟩⟩
 revert m
 intro (m:List Int) _ hm
 refine ao (X:=((∀ (g:Nat) (s:Sigma au),db g=some s->Decidable.rec (fun h=>(fun x=>if g=1 then some ⟨Kd.arr 64 uK,dQ⟩ else none) h) (fun h=>(fun x=>some ⟨Kd.arr 8 uK,cw⟩) h) (instDecidableEqNat g 0)=some s)/\0+(nat_lit 42+1)<=43/\h2c.MK (m,List.take (nat_lit 42+1) [66,76,83,95,83,73,71,95,66,76,83,49,50,51,56,49,71,50,95,88,77,68,58,83,72,65,45,50,53,54,95,83,83,87,85,95,82,79,95,78,85,76,95],())/\(h2c.An m (List.take (nat_lit 42+1) [66,76,83,95,83,73,71,95,66,76,83,49,50,51,56,49,71,50,95,88,77,68,58,83,72,65,45,50,53,54,95,83,83,87,85,95,82,79,95,78,85,76,95]),())=(dv m,()))) (by kernel_rfl) ?_
 refine⟨fun _ _ h=>h,by decide,⟨hm,by decide⟩,?_⟩
 rw[dv,ay];rfl
def jk:Nat × Eng.Spec:=(29,mc db [ij] [.val ba] MN (fun (m,_)=>(dv m,())))
def ya (k:Fp × Fp) (p s:F2 × F2):Bool:=cr (pairing.ui [k,g1.iE g1.gG] [p,s])
theorem Rb:enters Tryz.prog 56 Tryz.f56:=ek
theorem VG:aB Tryz.prog 56 [bo,ba,ba] [.val .bool] aM (fun _=>True) (fun (k,p,s,_)=>(ya k p s,())):=by
 refine ax (sp:=aF [g1.FC,g1.CN,pairing.Xb]) (ai (ak g1.Gw) (ai (ak g1.Ca) (ai (ak pairing.RD) aR))) mixed Rb (by decide) (by decide) ?_
 rintro w M0 ⟨k,p,s,⟨⟩⟩
 revert k p s
 intro (k:Fp × Fp) (p:F2 × F2) (s:F2 × F2) _ _
 refine ao (X:=(True/\True/\0+2<=2/\0+2<=2/\pairing.Hw (List.take 2 [k,g1.iE g1.gG],List.take 2 [p,s],())/\(pairing.ui (List.take 2 [k,g1.iE g1.gG]) (List.take 2 [p,s]),())=(ya k p s,()))) (by kernel_rfl) ?_
 refine⟨trivial,trivial,Nat.le_refl _,Nat.le_refl _,?_,?_⟩
 ·show pairing.NY _<=_
  rw[pairing.NY,ay];exact (by decide:2<=1048576)
 ·rw[ya,ay];rfl
def aa3:Nat × Eng.Spec:=(56,ar [bo,ba,ba] [.val .bool] (fun _=>True) (fun (k,p,s,_)=>(ya k p s,())))
theorem V1 (x c y:Fr):ya (g1.a6 g1.gG x) (g2.a6 g2.gG c) (g2.a6 g2.gG y)=decide (x*c=y):=by
 have m1:pairing.vh [x,-1]=[g1.a6 g1.gG x,g1.iE g1.gG]:=by
  show [_,g1.a6 g1.gG (-1)]=_
  rw[g1.mul_neg g1.lG,g1.mul_one g1.lG,g1.va]
 have m2:pairing.xg [c,y]=[g2.a6 g2.gG c,g2.a6 g2.gG y]:=rfl
 rw[ya,ay,<- m1,<- m2,pairing.QV (xs:=[x,-1]) (ys:=[c,y]) rfl]
 have e:pairing.Gc [x,-1] [c,y] [x,-1].length=x*c-y:=by
  show (0+x*c + -1*y:Fr)=_
  rw[Rg.zero_add,Rg.neg_mul,Rg.one_mul,Rg.sub_def]
 rw[e]
 by_cases h:x*c=y
 ·rw[decide_eq_true h,h,Rg.sub_self,decide_eq_true rfl]
 ·rw[decide_eq_false h,decide_eq_false fun e=>h (Rg.bq e)]
end
end Go.Proofs.YtbeeaekepmnfhaaGreatDoor.bG
