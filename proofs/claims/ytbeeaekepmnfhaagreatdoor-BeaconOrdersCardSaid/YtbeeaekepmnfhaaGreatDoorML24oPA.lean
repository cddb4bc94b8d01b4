set_option maxRecDepth 100000
theorem Odt{p:Prop}[Decidable p](h:decide p=true):p:=of_decide_eq_true h
theorem Odf{p:Prop}[Decidable p](h:decide p=false):Not p:=of_decide_eq_false h
namespace Cr
def dF (a:Int):Prop:=0<=a/\a<18446744073709551616
def Ws (xs:List Int):Prop:=∀ x∈xs,dF x
def val:List Int->Int
 | []=>0
 | x::xs=>x+18446744073709551616*val xs
def aK:Nat->Int->List Int
 | 0,_=>[]
 | n+1,N=>N%18446744073709551616::aK n (N/18446744073709551616)
def pw:Nat->Int
 | 0=>1
 | n+1=>18446744073709551616*pw n
theorem sK (n:Nat):0<pw n:=by
 induction n with
 | zero=>decide
 | succ n ih=>simp only[pw];omega
theorem n6 (n:Nat) (N:Int):(aK n N).length=n:=by
 induction n generalizing N with
 | zero=>rfl
 | succ n ih=>simp[aK,ih]
theorem iB (n:Nat) (N:Int):Ws (aK n N):=by
 induction n generalizing N with
 | zero=>intro x h;cases h
 | succ n ih =>
  intro x h
  simp only[aK,List.mem_cons] at h
  rcases h with rfl|h
  ·exact⟨by omega,by omega⟩
  ·exact ih _ x h
theorem dM {xs:List Int} (h:Ws xs):0<=val xs:=by
 induction xs with
 | nil=>decide
 | cons x xs ih =>
  have h1:=h x (by simp)
  have h2:=ih (fun y hy=>h y (by simp[hy]))
  simp only[val];have:=h1.1;omega
theorem vH {xs:List Int} (h:Ws xs):val xs<pw xs.length:=by
 induction xs with
 | nil=>decide
 | cons x xs ih =>
  have h1:=h x (by simp)
  have h2:=ih (fun y hy=>h y (by simp[hy]))
  simp only[val,pw,List.length_cons];have:=h1.2;omega
theorem p9 (n:Nat) (N:Int):val (aK n N)=N%pw n:=by
 induction n generalizing N with
 | zero=>simp[aK,val,pw,Int.emod_one]
 | succ n ih =>
  simp only[aK,val,pw,ih]
  have hp:=sK n
  rw[<- Int.emod_add_mul_ediv N 18446744073709551616]
  generalize hq:N/18446744073709551616=q
  generalize hr:N%18446744073709551616=r
  have hr0:0<=r/\r<18446744073709551616:=by omega
  have e1:(r+18446744073709551616*q)%18446744073709551616=r:=by omega
  have e2:(r+18446744073709551616*q)/18446744073709551616=q:=by omega
  rw[e1,e2]
  have e3:q=q%pw n+pw n*(q/pw n):=(Int.emod_add_mul_ediv q (pw n)).symm
  have hb:=Int.emod_nonneg q (by omega:pw n≠0)
  have hb2:=Int.emod_lt_of_pos q hp
  generalize hs:q%pw n=s at *
  generalize q/pw n=t at *
  subst e3
  rw[show r+18446744073709551616*(s+pw n*t)=(r+18446744073709551616*s)+18446744073709551616*pw n*t from by rw[Int.mul_add,Int.mul_assoc];omega]
  rw[Int.add_mul_emod_self_left]
  exact (Int.emod_eq_of_lt (by omega) (by omega)).symm
theorem pF {xs:List Int} (h:Ws xs):aK xs.length (val xs)=xs:=by
 induction xs with
 | nil=>rfl
 | cons x xs ih =>
  have h1:=h x (by simp)
  have h2:=ih (fun y hy=>h y (by simp[hy]))
  simp only[val,aK,List.length_cons]
  obtain⟨a,b⟩:=h1
  rw[show (x+18446744073709551616*val xs)%18446744073709551616=x from by omega,show (x+18446744073709551616*val xs)/18446744073709551616=val xs from by omega,h2]
theorem val_inj {xs ys:List Int} (hx:Ws xs) (hy:Ws ys) (hl:xs.length=ys.length) (h:val xs=val ys):xs=ys:=by
 rw[<- pF hx,<- pF hy,hl,h]
def kU:List Int->List Int->Int->List Int × Int
 | a::us,b::vs,k=>((a-b-k)%18446744073709551616::(kU us vs (if a<b+k then 1 else 0)).1,(kU us vs (if a<b+k then 1 else 0)).2)
 | _,_,k=>([],k)
def gY:List Int->List Int->Int->List Int × Int
 | a::us,b::vs,k=>((a+b+k)%18446744073709551616::(gY us vs ((a+b+k)/18446744073709551616)).1,(gY us vs ((a+b+k)/18446744073709551616)).2)
 | _,_,k=>([],k)
theorem Qs:∀ (us vs:List Int) (k:Int),us.length=vs.length->Ws us->Ws vs->(k=0\/k=1) ->
  (kU us vs k).1.length=us.length/\Ws (kU us vs k).1/\((kU us vs k).2=0\/(kU us vs k).2=1)/\val (kU us vs k).1=val us-val vs-k+pw us.length*(kU us vs k).2:=by
 intro us
 induction us with
 | nil =>
  intro vs k h _ _ hk
  cases vs with
  | nil=>refine⟨rfl,fun x h=>(nomatch h),hk,?_⟩;simp[kU,val,pw];omega
  | cons b vs=>simp at h
 | cons a us ih =>
  intro vs k h ha hb hk
  cases vs with
  | nil=>simp at h
  | cons b vs =>
   obtain⟨a0,a1⟩:=ha a (by simp)
   obtain⟨b0,b1⟩:=hb b (by simp)
   obtain⟨g1,g2,g3,g4⟩:=ih vs (if a<b+k then 1 else 0) (by simpa using h) (fun y hy=>ha y (by simp[hy])) (fun y hy=>hb y (by simp[hy])) (by split<;>simp)
   refine⟨by simp[kU,g1],?_,g3,?_⟩
   ·intro x hx
    simp only[kU,List.mem_cons] at hx
    rcases hx with rfl|hx
    ·exact⟨by omega,by omega⟩
    ·exact g2 x hx
   ·simp only[kU,val,List.length_cons,pw,g4]
    generalize (kU us vs (if a<b+k then 1 else 0)).2=c at *
    rw[Int.mul_assoc]
    generalize pw us.length*c=pc at *
    split<;>omega
theorem NK:∀ (us vs:List Int) (k:Int),us.length=vs.length->Ws us->Ws vs->(k=0\/k=1) ->
  (gY us vs k).1.length=us.length/\Ws (gY us vs k).1/\((gY us vs k).2=0\/(gY us vs k).2=1)/\val (gY us vs k).1=val us+val vs+k-pw us.length*(gY us vs k).2:=by
 intro us
 induction us with
 | nil =>
  intro vs k h _ _ hk
  cases vs with
  | nil=>refine⟨rfl,fun x h=>(nomatch h),hk,?_⟩;simp[gY,val,pw]
  | cons b vs=>simp at h
 | cons a us ih =>
  intro vs k h ha hb hk
  cases vs with
  | nil=>simp at h
  | cons b vs =>
   obtain⟨a0,a1⟩:=ha a (by simp)
   obtain⟨b0,b1⟩:=hb b (by simp)
   obtain⟨g1,g2,g3,g4⟩:=ih vs ((a+b+k)/18446744073709551616) (by simpa using h) (fun y hy=>ha y (by simp[hy])) (fun y hy=>hb y (by simp[hy])) (by omega)
   refine⟨by simp[gY,g1],?_,g3,?_⟩
   ·intro x hx
    simp only[gY,List.mem_cons] at hx
    rcases hx with rfl|hx
    ·exact⟨by omega,by omega⟩
    ·exact g2 x hx
   ·simp only[gY,val,List.length_cons,pw,g4]
    generalize (gY us vs ((a+b+k)/18446744073709551616)).2=c at *
    rw[Int.mul_assoc]
    generalize pw us.length*c=pc at *
    omega
theorem Lf {us vs:List Int} (hl:us.length=vs.length) (ha:Ws us) (hb:Ws vs):(kU us vs 0).1=aK us.length (val us-val vs)/\(kU us vs 0).2=if val us<val vs then 1 else 0:=by
 obtain⟨h1,h2,h3,h4⟩:=Qs us vs 0 hl ha hb (.inl rfl)
 have hp:=sK us.length
 have p1:=dM h2
 have p2:=vH h2
 rw[h1] at p2
 have q1:=dM ha
 have q2:=vH ha
 have r1:=dM hb
 have r2:=vH hb
 rw[<- hl] at r2
 constructor
 ·refine val_inj h2 (iB _ _) (by rw[h1,n6]) ?_
  rw[p9,h4]
  rcases h3 with h3|h3
  ·rw[h3] at h4 ⊢
   rw[Int.emod_eq_of_lt (by omega) (by omega)];omega
  ·rw[h3] at h4 ⊢
   rw[show val us-val vs-0+pw us.length*1=val us-val vs+pw us.length from by omega]
   rw[<- Int.add_emod_right,Int.emod_eq_of_lt (by omega) (by omega)]
 ·rcases h3 with h3|h3
  ·rw[h3] at h4 ⊢;rw[if_neg (by omega)]
  ·rw[h3] at h4 ⊢;rw[if_pos (by omega)]
theorem Jk {us vs:List Int} (hl:us.length=vs.length) (ha:Ws us) (hb:Ws vs):(gY us vs 0).1=aK us.length (val us+val vs):=by
 obtain⟨h1,h2,h3,h4⟩:=NK us vs 0 hl ha hb (.inl rfl)
 have hp:=sK us.length
 have p1:=dM h2
 have p2:=vH h2
 rw[h1] at p2
 refine val_inj h2 (iB _ _) (by rw[h1,n6]) ?_
 rw[p9,h4]
 rcases h3 with h3|h3
 ·rw[h3] at h4 ⊢
  rw[Int.emod_eq_of_lt (by omega) (by omega)];omega
 ·rw[h3] at h4 ⊢
  rw[show val us+val vs+0-pw us.length*1=val us+val vs-pw us.length from by omega]
  rw[<- Int.sub_emod_right,Int.emod_eq_of_lt (by omega) (by omega)]
end Cr
namespace Cr
class Md (M:Int) where
 n:Nat
 rinv:Int
 gt:1<M
 big:2*M<=pw n
 inv:(pw n*rinv)%M=1
structure Zm (M:Int) where
 v:Int
 nn:0<=v
 lt:v<M
theorem Zm.ext {M:Int} {a b:Zm M} (h:a.v=b.v):a=b:=by
 cases a;cases b;simp at h;subst h;rfl
instance {M : Int} : DecidableEq (Zm M) := fun a b =>
 if h:a.v=b.v then isTrue (Zm.ext h) else isFalse (fun e=>h (by rw[e]))
section
variable {M:Int} [Md M]
theorem QI:0<M:=by have:=Md.gt (M:=M);omega
def zm (a:Int):Zm M:=⟨a%M,Int.emod_nonneg _ (by have:=QI (M:=M);omega),Int.emod_lt_of_pos _ QI⟩
instance : Add (Zm M) := ⟨fun a b => zm (a.v + b.v)⟩
instance : Mul (Zm M) := ⟨fun a b => zm (a.v * b.v)⟩
instance : Neg (Zm M) := ⟨fun a => zm (-a.v)⟩
instance : Sub (Zm M) := ⟨fun a b => zm (a.v - b.v)⟩
instance : Zero (Zm M) := ⟨zm 0⟩
instance : One (Zm M) := ⟨zm 1⟩
theorem w8 (a:Int):(zm a:Zm M).v=a%M:=rfl
theorem ze (a b:Zm M):(a+b).v=(a.v+b.v)%M:=rfl
theorem n9 (a b:Zm M):(a*b).v=(a.v*b.v)%M:=rfl
theorem Cn (a:Zm M):(-a).v=(-a.v)%M:=rfl
theorem Nh (a b:Zm M):(a-b).v=(a.v-b.v)%M:=rfl
theorem ma:(0:Zm M).v=0:=by show (0:Int)%M=0;simp
theorem tH:(1:Zm M).v=1:=by show (1:Int)%M=1;exact Int.emod_eq_of_lt (by omega) Md.gt
omit [Md M] in
theorem Np (a:Zm M):a.v%M=a.v:=Int.emod_eq_of_lt a.nn a.lt
theorem gR (a:Zm M):zm a.v=a:=Zm.ext (Np a)
theorem o7 (a b:Int):(zm a+zm b:Zm M)=zm (a+b):=Zm.ext (by simp[ze,w8])
theorem mN (a b:Int):(zm a*zm b:Zm M)=zm (a*b):=Zm.ext (by simp[n9,w8,<- Int.mul_emod])
theorem y8 (a b:Int):(zm a-zm b:Zm M)=zm (a-b):=Zm.ext (by simp[Nh,w8])
theorem y7 (a:Int):(-zm a:Zm M)=zm (-a):=Zm.ext (by
 rw[Cn,w8,w8]
 have h:=Int.emod_def a M
 rw[show -(a%M)=-a+M*(a/M) by omega,Int.add_mul_emod_self_left])
theorem UW {a b:Int} (h:a%M=b%M):(zm a:Zm M)=zm b:=Zm.ext h
theorem LK:(zm 0:Zm M)=0:=rfl
def R2:Zm M:=zm (pw (Md.n M))
def Td:Zm M:=zm (Md.rinv M)
theorem NG:(R2:Zm M)*Td=1:=by
 unfold R2 Td
 rw[mN]
 exact Zm.ext (by rw[w8,tH];exact Md.inv)
def enc (x:Zm M):List Int:=aK (Md.n M) (x*R2).v
def dec (xs:List Int):Zm M:=zm (val xs)*Td
def Canon (M:Int) [Md M] (xs:List Int):Prop:=xs.length=Md.n M/\Ws xs/\val xs<M
theorem n8 (a b c:Zm M):a*b*c=a*(b*c):=Zm.ext (by
 simp only[n9]
 rw[Int.mul_emod,Int.emod_emod,<- Int.mul_emod,Int.mul_emod a.v,Int.emod_emod,<- Int.mul_emod,Int.mul_assoc])
theorem tD (a b:Zm M):a*b=b*a:=Zm.ext (by simp only[n9,Int.mul_comm])
theorem wh (a:Zm M):a*1=a:=Zm.ext (by rw[n9,tH,Int.mul_one,Np])
theorem UX:M<pw (Md.n M):=by have:=Md.big (M:=M);have:=QI (M:=M);omega
theorem nI (x:Zm M):(enc x).length=Md.n M:=n6 _ _
theorem ef (x:Zm M):Ws (enc x):=iB _ _
theorem z8 (x:Zm M):val (enc x)=(x*R2).v:=by
 unfold enc
 rw[p9,Int.emod_eq_of_lt (x*R2).nn (by have:=(x*R2).lt;have:=UX (M:=M);omega)]
theorem b7 (x:Zm M):Canon M (enc x):=⟨nI x,ef x,by rw[z8];exact (x*R2).lt⟩
theorem dt (x:Zm M):dec (enc x)=x:=by
 unfold dec
 rw[z8,gR,n8,NG,wh]
theorem uR (xs:List Int):dec xs*R2=(zm (val xs):Zm M):=by
 unfold dec
 rw[n8,tD Td,NG,wh]
theorem JO {xs:List Int} (h:Canon M xs):enc (dec xs:Zm M)=xs:=by
 obtain⟨h1,h2,h3⟩:=h
 unfold enc
 rw[uR,w8,Int.emod_eq_of_lt (dM h2) h3,<- h1]
 exact pF h2
theorem JP {x y:Zm M} (h:enc x=enc y):x=y:=by rw[<- dt x,<- dt y,h]
theorem B2 {x:Zm M} {N:Int} (h:x*R2=zm N):enc x=aK (Md.n M) (N%M):=by
 unfold enc;rw[h,w8]
theorem FV (a b c:Zm M):(a+b)*c=a*c+b*c:=by
 rw[<- gR a,<- gR b,<- gR c];simp only[o7,mN,Int.add_mul]
theorem SR (a b c:Zm M):(a-b)*c=a*c-b*c:=by
 rw[<- gR a,<- gR b,<- gR c];simp only[y8,mN,Int.sub_mul]
theorem Vg {xs ys:List Int}:enc (dec xs+dec ys:Zm M)=aK (Md.n M) ((val xs+val ys)%M) :=
 B2 (by rw[FV,uR,uR,o7])
theorem JQ {xs ys:List Int}:enc (dec xs-dec ys:Zm M)=aK (Md.n M) ((val xs-val ys)%M) :=
 B2 (by rw[SR,uR,uR,y8])
theorem Vh {xs ys:List Int}:enc (dec xs*dec ys:Zm M)=aK (Md.n M) (val xs*val ys*Md.rinv M%M) :=
 B2 (by
  rw[n8,uR,tD (dec xs)]
  show zm (val ys)*(zm (val xs)*zm (Md.rinv M))=_
  rw[mN,mN,<- Int.mul_assoc,Int.mul_comm (val ys)])
theorem G1 (n:Nat):aK n 0=List.replicate n 0:=by
 induction n with
 | zero=>rfl
 | succ n ih=>simp[aK,ih,List.replicate_succ]
theorem Gf:enc (0:Zm M)=List.replicate (Md.n M) 0:=by
 unfold enc
 rw[show (0:Zm M)*R2=0 from Zm.ext (by rw[n9,ma];simp),ma,G1]
theorem Yf {N:Int}:enc (zm N:Zm M)=aK (Md.n M) (N*pw (Md.n M)%M) :=
 B2 (by unfold R2;rw[mN])
end
end Cr
namespace Cr
def Mp:Int:=4002409555221667393417789825735904156556882819939007885332058136124031650490837864442687629129015664037894272559787
def Mr:Int:=52435875175126190479447740508185965837690552500527637822603658699938581184513
instance : Md Mp where
 n:=6
 rinv:=3231460744492646417066832100176244795738767926513225105051837195607029917124509527734802654356338138714468589979680
 gt:=by decide
 big:=by decide
 inv:=by decide
instance : Md Mr where
 n:=4
 rinv:=12549076656233958353659347336803947287922716146853412054870763148006372261952
 gt:=by decide
 big:=by decide
 inv:=by decide
abbrev Fp:=Zm Mp
abbrev Fr:=Zm Mr
abbrev aj (a:Int):Fp:=zm a
abbrev Fc (a:Int):Fr:=zm a
end Cr
