import Derived.Orders
import Derived.Below
import Derived.Test.YteldhmehjkhanaaGreatDoorML26qPA
set_option maxRecDepth 100000
namespace Go.Eng
open Go Go.RowKit Cr
inductive Kd where
 | int (k:IntKind)
 | bool
 | str
 | fp
 | fr
 | pair (a b:Kd)
 | arr (n:Nat) (e:Kd)
 | sl (e:Kd)
 | ptr (e:Kd)
 | fn (f:Nat)
 | cap (c e:Kd)
 | pq
 | mp
abbrev Car:Kd->Type
 | .int _=>Int
 | .bool=>Bool
 | .str=>ByteArray
 | .fp=>Fp
 | .fr=>Fr
 | .pair a b=>Car a × Car b
 | .arr _ e=>List (Car e)
 | .sl e=>List (Car e)
 | .ptr e=>Car e
 | .fn _=>Unit
 | .cap c e=>Car c × Car e
 | .pq=>Bool
 | .mp=>Unit
def width:Kd->Nat
 | .fp=>6
 | .fr=>4
 | .pair a b=>width a+width b
 | .arr n e=>n*width e
 | _=>1
def Kd.eq?:(a b:Kd)->Option (PLift (a=b))
 | .int k,.int k'=>if h:k=k' then some ⟨h▸rfl⟩ else none
 | .bool,.bool=>some ⟨rfl⟩
 | .str,.str=>some ⟨rfl⟩
 | .fp,.fp=>some ⟨rfl⟩
 | .fr,.fr=>some ⟨rfl⟩
 | .pair a b,.pair a' b'=>match a.eq? a',b.eq? b' with
  | some ⟨h⟩,some ⟨h'⟩=>some ⟨h▸h'▸rfl⟩
  | _,_=>none
 | .arr n e,.arr n' e'=>if h:n=n' then match e.eq? e' with
  | some ⟨h'⟩=>some ⟨h▸h'▸rfl⟩
  | none=>none
  else none
 | .sl e,.sl e'=>match e.eq? e' with
  | some ⟨h⟩=>some ⟨h▸rfl⟩
  | none=>none
 | .ptr e,.ptr e'=>match e.eq? e' with
  | some ⟨h⟩=>some ⟨h▸rfl⟩
  | none=>none
 | .fn f,.fn f'=>if h:f=f' then some ⟨h▸rfl⟩ else none
 | .cap a b,.cap a' b'=>match a.eq? a',b.eq? b' with
  | some ⟨h⟩,some ⟨h'⟩=>some ⟨h▸h'▸rfl⟩
  | _,_=>none
 | .pq,.pq=>some ⟨rfl⟩
 | .mp,.mp=>some ⟨rfl⟩
 | _,_=>none
def zeroOf:(e:Kd)->Car e
 | .int _=>(0:Int)
 | .bool=>false
 | .str=>ByteArray.empty
 | .fp=>(0:Fp)
 | .fr=>(0:Fr)
 | .pair a b=>(zeroOf a,zeroOf b)
 | .arr n e=>List.replicate n (zeroOf e)
 | .sl _=>[]
 | .ptr e=>zeroOf e
 | .fn _=>()
 | .cap c e=>(zeroOf c,zeroOf e)
 | .pq=>false
 | .mp=>()
abbrev Mem:=Nat->Option (List Value)
def Mem.le (M M':Mem):Prop:=∀ b l,M b=some l->M' b=some l
def RdL {α:Type} (R:α->List Value->Prop):List α->List Value->Prop
 | [],vs=>vs=[]
 | x::xs,vs=>∃ v1 v2,vs=v1++v2/\R x v1/\RdL R xs v2
def RowAt {α:Type} (R:α->List Value->Prop) (c:Nat) (M:Mem) (b o:Nat) (xs:List α):Prop :=
 ∃ l,(l≠[]->M b=some l)/\o+xs.length*c<=l.length/\RdL R xs ((l.drop o).take (xs.length*c))
def Rd (M:Mem):(e:Kd)->Car e->List Value->Prop
 | .int k,x,vs=>vs=[Value.int k x]
 | .bool,x,vs=>vs=[Value.bool x]
 | .str,x,vs=>vs=[Value.string x]
 | .fp,x,vs=>vs=(enc (M:=Mp) x).map (Value.int .u64)
 | .fr,x,vs=>vs=(enc (M:=Mr) x).map (Value.int .u64)
 | .pair a b,x,vs=>∃ v1 v2,vs=v1++v2/\Rd M a x.1 v1/\Rd M b x.2 v2
 | .arr n e,xs,vs=>xs.length=n/\RdL (Rd M e) xs vs
 | .sl e,xs,vs=>(xs=[]/\∃ a cap,vs=[Value.slice a 0 cap]/\(a=none->cap=0)) \/
  ∃ b o cap,vs=[Value.slice (some ⟨b,o,none⟩) xs.length cap]/\xs.length<=cap/\RowAt (Rd M e) (width e) M b o xs
 | .ptr e,x,vs=>∃ b o,vs=[Value.pointer (some ⟨b,o,none⟩)]/\RowAt (Rd M e) (width e) M b o [x]
 | .fn f,_,vs=>vs=[Value.func (.func f) ⟨[]⟩ ⟨[]⟩]
 | .cap c e,x,vs=>∃ g caps b o,vs=[Value.func g ⟨[]⟩ ⟨caps++[Value.pointer (some ⟨b,o,none⟩)]⟩]/\Rd M c x.1 [Value.func g ⟨[]⟩ ⟨caps⟩]/\RowAt (Rd M e) (width e) M b o [x.2]
 | .pq,x,vs=>∃ p,vs=[Value.pointer p]/\p.isSome=x
 | .mp,_,vs=>∃ b,vs=[Value.map (some b)]/\M b=some []
theorem RdL_mono {α:Type} {R R':α->List Value->Prop} (h:∀ x vs,R x vs->R' x vs):∀ {xs:List α} {vs:List Value},RdL R xs vs->RdL R' xs vs:=by
 intro xs
 induction xs with
 | nil=>intro vs hr;exact hr
 | cons x xs ih=>intro vs ⟨v1,v2,e,h1,h2⟩;exact⟨v1,v2,e,h _ _ h1,ih h2⟩
theorem Rd_mono {M M':Mem} (hM:Mem.le M M'):∀ {e:Kd} {x:Car e} {vs:List Value},Rd M e x vs->Rd M' e x vs:=by
 intro e
 induction e with
 | int k=>intro x vs h;exact h
 | bool=>intro x vs h;exact h
 | str=>intro x vs h;exact h
 | fp=>intro x vs h;exact h
 | fr=>intro x vs h;exact h
 | pair a b iha ihb=>intro x vs ⟨v1,v2,e,h1,h2⟩;exact⟨v1,v2,e,iha h1,ihb h2⟩
 | arr n e ih=>intro x vs ⟨h1,h2⟩;exact⟨h1,RdL_mono (fun _ _=>ih) h2⟩
 | sl e ih =>
  intro x vs h
  rcases h with h|⟨b,o,cap,h1,h2,l,h3,h4,h5⟩
  ·exact .inl h
  ·exact .inr ⟨b,o,cap,h1,h2,l,fun hn=>hM _ _ (h3 hn),h4,RdL_mono (fun _ _=>ih) h5⟩
 | ptr e ih=>intro x vs ⟨b,o,h1,l,h3,h4,h5⟩;exact⟨b,o,h1,l,fun hn=>hM _ _ (h3 hn),h4,RdL_mono (fun _ _=>ih) h5⟩
 | fn f=>intro x vs h;exact h
 | cap c e ihc ihe=>intro x vs ⟨g,caps,b,o,h1,h2,l,h3,h4,h5⟩;exact⟨g,caps,b,o,h1,ihc h2,l,fun hn=>hM _ _ (h3 hn),h4,RdL_mono (fun _ _=>ihe) h5⟩
 | pq=>intro x vs h;exact h
 | mp=>intro x vs ⟨b,h1,h2⟩;exact⟨b,h1,hM _ _ h2⟩
theorem RdL_len {α:Type} {R:α->List Value->Prop} {c:Nat} (h:∀ x vs,R x vs->vs.length=c):∀ {xs:List α} {vs:List Value},RdL R xs vs->vs.length=xs.length*c:=by
 intro xs
 induction xs with
 | nil=>intro vs hr;have e:vs=[]:=hr;subst e;simp
 | cons x xs ih=>intro vs ⟨v1,v2,e,h1,h2⟩;subst e;simp[h _ _ h1,ih h2,Nat.succ_mul];omega
theorem Rd_len {M:Mem}:∀ {e:Kd} {x:Car e} {vs:List Value},Rd M e x vs->vs.length=width e:=by
 intro e
 induction e with
 | int k=>intro x vs h;have e:vs=_:=h;subst e;rfl
 | bool=>intro x vs h;have e:vs=_:=h;subst e;rfl
 | str=>intro x vs h;have e:vs=_:=h;subst e;rfl
 | fp=>intro x vs h;have e:vs=_:=h;subst e;rw[List.length_map];exact enc_length (M:=Mp) x
 | fr=>intro x vs h;have e:vs=_:=h;subst e;rw[List.length_map];exact enc_length (M:=Mr) x
 | pair a b iha ihb=>intro x vs ⟨v1,v2,e,h1,h2⟩;subst e;simp[iha h1,ihb h2,width]
 | arr n e ih=>intro x vs ⟨h1,h2⟩;rw[RdL_len (fun _ _=>ih) h2,h1];rfl
 | sl e ih =>
  intro x vs h
  rcases h with ⟨_,a,cap,e,_⟩|⟨b,o,cap,h1,_⟩
  ·subst e;rfl
  ·subst h1;rfl
 | ptr e ih=>intro x vs ⟨b,o,h1,_⟩;subst h1;rfl
 | fn f=>intro x vs h;have e:vs=_:=h;subst e;rfl
 | cap c e ihc ihe=>intro x vs ⟨g,caps,b,o,h1,_⟩;subst h1;rfl
 | pq=>intro x vs ⟨p,h1,_⟩;subst h1;rfl
 | mp=>intro x vs ⟨b,h1,_⟩;subst h1;rfl
theorem RdL_all {α:Type} {R:α->List Value->Prop} {p:Value->Prop} (h:∀ x vs,R x vs->∀ v∈vs,p v):∀ {xs:List α} {vs:List Value},RdL R xs vs->∀ v∈vs,p v:=by
 intro xs
 induction xs with
 | nil=>intro vs hr;have e:vs=[]:=hr;subst e;intro v hv;cases hv
 | cons x xs ih =>
  intro vs ⟨v1,v2,e,h1,h2⟩ v hv;subst e
  rcases List.mem_append.1 hv with g|g
  ·exact h _ _ h1 v g
  ·exact ih h2 v g
theorem Rd_one {M:Mem}:∀ {e:Kd} {x:Car e} {vs:List Value},Rd M e x vs->∀ v∈vs,v.oneCell'=true:=by
 intro e
 induction e with
 | int k=>intro x vs h;have e:vs=_:=h;subst e;intro v hv;simp at hv;subst hv;rfl
 | bool=>intro x vs h;have e:vs=_:=h;subst e;intro v hv;simp at hv;subst hv;rfl
 | str=>intro x vs h;have e:vs=_:=h;subst e;intro v hv;simp at hv;subst hv;rfl
 | fp=>intro x vs h;have e:vs=_:=h;subst e;intro v hv;obtain⟨y,_,rfl⟩:=List.mem_map.1 hv;rfl
 | fr=>intro x vs h;have e:vs=_:=h;subst e;intro v hv;obtain⟨y,_,rfl⟩:=List.mem_map.1 hv;rfl
 | pair a b iha ihb =>
  intro x vs ⟨v1,v2,e,h1,h2⟩ v hv;subst e
  rcases List.mem_append.1 hv with g|g
  ·exact iha h1 v g
  ·exact ihb h2 v g
 | arr n e ih=>intro x vs ⟨h1,h2⟩;exact RdL_all (fun _ _=>ih) h2
 | sl e ih =>
  intro x vs h
  rcases h with ⟨_,a,cap,e,_⟩|⟨b,o,cap,h1,_⟩
  ·subst e;intro v hv;simp at hv;subst hv;rfl
  ·subst h1;intro v hv;simp at hv;subst hv;rfl
 | ptr e ih=>intro x vs ⟨b,o,h1,_⟩;subst h1;intro v hv;simp at hv;subst hv;rfl
 | fn f=>intro x vs h;have e:vs=_:=h;subst e;intro v hv;simp at hv;subst hv;rfl
 | cap c e ihc ihe=>intro x vs ⟨g,caps,b,o,h1,_⟩;subst h1;intro v hv;simp at hv;subst hv;rfl
 | pq=>intro x vs ⟨p,h1,_⟩;subst h1;intro v hv;simp at hv;subst hv;rfl
 | mp=>intro x vs ⟨b,h1,_⟩;subst h1;intro v hv;simp at hv;subst hv;rfl
theorem RdL_append {α:Type} {R:α->List Value->Prop}:∀ {xs ys:List α} {vs us:List Value},RdL R xs vs->RdL R ys us->RdL R (xs++ys) (vs++us):=by
 intro xs
 induction xs with
 | nil=>intro ys vs us h h';have e:vs=[]:=h;subst e;exact h'
 | cons x xs ih=>intro ys vs us ⟨v1,v2,e,h1,h2⟩ h';subst e;exact⟨v1,v2++us,by simp,h1,ih h2 h'⟩
theorem RdL_split {α:Type} {R:α->List Value->Prop} {c:Nat} (h:∀ x vs,R x vs->vs.length=c):∀ (n:Nat) {xs:List α} {vs:List Value},RdL R xs vs ->
  RdL R (xs.take n) (vs.take (n*c))/\RdL R (xs.drop n) (vs.drop (n*c)):=by
 intro n
 induction n with
 | zero=>intro xs vs hr;rw[Nat.zero_mul];exact⟨rfl,hr⟩
 | succ n ih =>
  intro xs vs hr
  cases xs with
  | nil=>have e:vs=[]:=hr;subst e;rw[List.take_nil,List.drop_nil,List.take_nil,List.drop_nil];exact⟨rfl,rfl⟩
  | cons x xs =>
   obtain⟨v1,v2,e,h1,h2⟩:=hr
   have hl:=h _ _ h1
   subst e
   obtain⟨g1,g2⟩:=ih h2
   rw[Nat.succ_mul,Nat.add_comm (n*c),<- hl,List.take_length_add_append,List.drop_length_add_append]
   rw[<- hl] at g1 g2
   exact⟨⟨v1,_,rfl,h1,g1⟩,g2⟩
theorem RdL_get {α:Type} {R:α->List Value->Prop} {c:Nat} (h:∀ x vs,R x vs->vs.length=c) {xs:List α} {vs:List Value} (hr:RdL R xs vs) {i:Nat} (hi:i<xs.length) (d:α) :
  R (xs.getD i d) ((vs.drop (i*c)).take c):=by
 have h2:=(RdL_split h i hr).2
 rw[List.drop_eq_getElem_cons hi] at h2
 obtain⟨v1,v2,e,h1,h3⟩:=h2
 rw[e,<- h _ _ h1]
 simp[List.getElem?_eq_getElem hi]
 exact h1
theorem RdL_one {α:Type} {R:α->List Value->Prop} {x:α} {vs:List Value} (h:R x vs):RdL R [x] vs:=⟨vs,[],by simp,h,rfl⟩
theorem RdL_one_inv {α:Type} {R:α->List Value->Prop} {x:α} {vs:List Value} (h:RdL R [x] vs):R x vs:=by
 obtain⟨v1,v2,e,h1,h2⟩:=h
 have e2:v2=[]:=h2
 subst e2;subst e;simpa using h1
theorem RdL_put {α:Type} {R:α->List Value->Prop} {c:Nat} (h:∀ x vs,R x vs->vs.length=c) {xs ys:List α} {vs us:List Value} (hr:RdL R xs vs) (hu:RdL R ys us) (i:Nat) :
  RdL R (xs.take i++(ys++xs.drop (i+ys.length))) (vs.take (i*c)++(us++vs.drop (i*c+us.length))):=by
 have hl:=RdL_len h hu
 have h1:=(RdL_split h i hr).1
 have h2:=(RdL_split h (i+ys.length) hr).2
 rw[Nat.add_mul,<- hl] at h2
 exact RdL_append h1 (RdL_append hu h2)
theorem RdL_int {M:Mem} {k:IntKind}:∀ {xs:List Int} {vs:List Value},RdL (Rd M (.int k)) xs vs↔vs=xs.map (Value.int k):=by
 intro xs
 induction xs with
 | nil=>intro vs;exact Iff.rfl
 | cons x xs ih =>
  intro vs
  constructor
  ·rintro⟨v1,v2,e,h1,h2⟩
   have e1:v1=[Value.int k x]:=h1
   rw[ih] at h2
   subst e e1 h2;rfl
  ·rintro rfl
   exact⟨[Value.int k x],xs.map (Value.int k),rfl,rfl,ih.2 rfl⟩
def zeroVals:Kd->List Value
 | .int k=>[.int k 0]
 | .bool=>[.bool false]
 | .str=>[.string ByteArray.empty]
 | .fp=>List.replicate 6 (.int .u64 0)
 | .fr=>List.replicate 4 (.int .u64 0)
 | .pair a b=>zeroVals a++zeroVals b
 | .arr n e=>(List.replicate n (zeroVals e)).flatten
 | .sl _=>[.slice none 0 0]
 | .fn f=>[.func (.func f) ⟨[]⟩ ⟨[]⟩]
 | _=>[.pointer none]
def zk:Kd->Bool
 | .pair a b=>zk a&&zk b
 | .arr _ e=>zk e
 | .ptr _ | .fn _ | .cap _ _ | .mp=>false
 | _=>true
theorem Rd_zero {M:Mem}:∀ {e:Kd},zk e=true->Rd M e (zeroOf e) (zeroVals e):=by
 intro e
 induction e with
 | int k=>intro _;exact rfl
 | bool=>intro _;exact rfl
 | str=>intro _;exact rfl
 | fp=>intro _;show _=(enc (M:=Mp) (0:Fp)).map _;rw[enc_zero];rfl
 | fr=>intro _;show _=(enc (M:=Mr) (0:Fr)).map _;rw[enc_zero];rfl
 | pair a b iha ihb=>intro h;simp only[zk,Bool.and_eq_true] at h;exact⟨_,_,rfl,iha h.1,ihb h.2⟩
 | arr n e ih =>
  intro hz
  have ih:=ih hz
  clear hz
  refine⟨List.length_replicate,?_⟩
  show RdL _ (List.replicate n (zeroOf e)) (List.replicate n (zeroVals e)).flatten
  induction n with
  | zero=>exact rfl
  | succ n ihn=>exact⟨_,_,rfl,ih,ihn⟩
 | sl e ih=>intro _;exact .inl ⟨rfl,none,0,rfl,fun _=>rfl⟩
 | ptr e ih=>intro h;simp[zk] at h
 | fn f=>intro h;simp[zk] at h
 | cap c e ihc ihe=>intro h;simp[zk] at h
 | pq=>intro _;exact⟨none,rfl,rfl⟩
 | mp=>intro h;simp[zk] at h
def isZeroVal:Value->Value->Bool
 | .int k n,.int k' m=>decide (k=k')&&decide (n=0)&&decide (m=0)
 | .bool false,.bool false=>true
 | .string a,.string b=>Nat.beq a.size 0&&Nat.beq b.size 0
 | .slice none 0 0,.slice none 0 0=>true
 | _,_=>false
def isZeroVals:List Value->List Value->Bool
 | [],[]=>true
 | a::as',b::bs=>isZeroVal a b&&isZeroVals as' bs
 | _,_=>false
theorem size_zero {a:ByteArray} (h:a.size=0):a=ByteArray.empty:=by
 cases a with
 | mk d =>
  have:d.size=0:=h
  have:=Array.eq_empty_of_size_eq_zero this
  subst this;rfl
theorem isZeroVal_eq {a b:Value} (h:isZeroVal a b=true):a=b:=by
 unfold isZeroVal at h
 split at h
 ·simp at h;obtain⟨⟨rfl,rfl⟩,rfl⟩:=h;rfl
 ·rfl
 ·simp only[Bool.and_eq_true] at h;rw[size_zero (Nat.eq_of_beq_eq_true h.1),size_zero (Nat.eq_of_beq_eq_true h.2)]
 ·rfl
 ·cases h
theorem isZeroVals_eq:∀ {a b:List Value},isZeroVals a b=true->a=b:=by
 intro a
 induction a with
 | nil=>intro b h;cases b with
  | nil=>rfl
  | cons _ _=>simp[isZeroVals] at h
 | cons x a ih=>intro b h;cases b with
  | nil=>simp[isZeroVals] at h
  | cons y b=>simp[isZeroVals] at h;rw[isZeroVal_eq h.1,ih h.2]
def flatK:Kd->Bool
 | .int _ | .fp | .fr=>true
 | .pair a b=>flatK a&&flatK b
 | .arr _ e=>flatK e
 | _=>false
abbrev IV:=IntKind × Int
def iv (p:IV):Value:=.int p.1 p.2
def fl:(e:Kd)->Car e->List IV
 | .int k,x=>[(k,x)]
 | .fp,x=>(enc (M:=Mp) x).map fun a=>(.u64,a)
 | .fr,x=>(enc (M:=Mr) x).map fun a=>(.u64,a)
 | .pair a b,x=>fl a x.1++fl b x.2
 | .arr _ e,xs=>(xs.map (fl e)).flatten
 | _,_=>[]
def kl:Kd->List IntKind
 | .int k=>[k]
 | .fp=>List.replicate 6 .u64
 | .fr=>List.replicate 4 .u64
 | .pair a b=>kl a++kl b
 | .arr n e=>(List.replicate n (kl e)).flatten
 | _=>[]
theorem Rd_fl {M:Mem}:∀ {e:Kd} {x:Car e} {vs:List Value},flatK e=true->Rd M e x vs->vs=(fl e x).map iv/\(fl e x).map Prod.fst=kl e:=by
 intro e
 induction e with
 | int k'=>intro x vs _ h;exact⟨h,rfl⟩
 | fp =>
  intro x vs _ h
  have hl:=Rd_len (e:=.fp) h
  have h:vs=(enc (M:=Mp) x).map (Value.int .u64):=h
  rw[h,List.length_map] at hl
  refine⟨by rw[h];simp only[fl,List.map_map];rfl,?_⟩
  simp only[fl,List.map_map,Function.comp_def,List.map_const',hl,kl,width]
 | fr =>
  intro x vs _ h
  have hl:=Rd_len (e:=.fr) h
  have h:vs=(enc (M:=Mr) x).map (Value.int .u64):=h
  rw[h,List.length_map] at hl
  refine⟨by rw[h];simp only[fl,List.map_map];rfl,?_⟩
  simp only[fl,List.map_map,Function.comp_def,List.map_const',hl,kl,width]
 | pair a b iha ihb =>
  intro x vs hk ⟨v1,v2,e,h1,h2⟩
  simp[flatK] at hk
  rw[e,(iha hk.1 h1).1,(ihb hk.2 h2).1]
  exact⟨by simp[fl],by simp[fl,kl,(iha hk.1 h1).2,(ihb hk.2 h2).2]⟩
 | arr n e ih =>
  intro xs vs hk ⟨h1,h2⟩
  have hk:flatK e=true:=hk
  have aux:∀ (xs:List (Car e)) (vs:List Value),RdL (Rd M e) xs vs->vs=((xs.map (fl e)).flatten).map iv/\((xs.map (fl e)).flatten).map Prod.fst=(List.replicate xs.length (kl e)).flatten:=by
   intro xs
   induction xs with
   | nil=>intro vs h;exact⟨h,rfl⟩
   | cons x xs ihx =>
    intro vs ⟨v1,v2,e,g1,g2⟩
    obtain⟨k1,k2⟩:=ih hk g1
    obtain⟨k3,k4⟩:=ihx v2 g2
    refine⟨by rw[e,k1,k3];simp,?_⟩
    rw[List.map_cons,List.flatten_cons,List.map_append,k2,k4,List.length_cons,List.replicate_succ,List.flatten_cons]
  have:=aux xs vs h2
  rw[show List.length (α:=Car e) xs=n from h1] at this
  exact this
 | _=>intro x vs hk;simp[flatK] at hk
theorem fl_inj {M:Mem}:∀ {e:Kd} {x y:Car e} {vs us:List Value},flatK e=true->Rd M e x vs->Rd M e y us->fl e x=fl e y->x=y:=by
 intro e
 have inj:∀ {l m:List Int},l.map (fun a=>(IntKind.u64,a))=m.map (fun a=>(IntKind.u64,a))->l=m:=fun h=>List.map_inj_right (fun _ _ h=>(Prod.mk.inj h).2) |>.1 h
 induction e with
 | int k'=>intro x y vs us hk _ _ h;simp[fl] at h;exact h
 | fp=>intro x y vs us hk _ _ h;exact enc_inj (M:=Mp) (inj h)
 | fr=>intro x y vs us hk _ _ h;exact enc_inj (M:=Mr) (inj h)
 | pair a b iha ihb =>
  intro x y vs us hk ⟨v1,v2,e1,h1,h2⟩ ⟨u1,u2,e2,g1,g2⟩ h
  simp[flatK] at hk
  have l1:=congrArg List.length ((Rd_fl hk.1 h1).2.trans (Rd_fl hk.1 g1).2.symm)
  simp only[List.length_map] at l1
  simp only[fl] at h
  obtain⟨q1,q2⟩:=List.append_inj h l1
  exact Prod.ext (iha hk.1 h1 g1 q1) (ihb hk.2 h2 g2 q2)
 | arr n e ih =>
  intro xs ys vs us hk ⟨h1,h2⟩ ⟨g1,g2⟩ h
  have hk:flatK e=true:=hk
  have aux:∀ (xs ys:List (Car e)) (vs us:List Value),RdL (Rd M e) xs vs->RdL (Rd M e) ys us->xs.length=ys.length->(xs.map (fl e)).flatten=(ys.map (fl e)).flatten->xs=ys:=by
   intro xs
   induction xs with
   | nil=>intro ys vs us _ _ hl _;cases ys with
    | nil=>rfl
    | cons _ _=>simp at hl
   | cons x xs ihx =>
    intro ys vs us ⟨v1,v2,e1,q1,q2⟩ hy hl h
    cases ys with
    | nil=>simp at hl
    | cons y ys =>
     obtain⟨u1,u2,e2,r1,r2⟩:=hy
     have l1:=congrArg List.length ((Rd_fl hk q1).2.trans (Rd_fl hk r1).2.symm)
     simp only[List.length_map] at l1
     simp only[List.map_cons,List.flatten_cons] at h
     obtain⟨p1,p2⟩:=List.append_inj h l1
     rw[ih hk q1 r1 p1,ihx ys v2 u2 q2 r2 (by simpa using hl) p2]
  exact aux xs ys vs us h2 g2 (by rw[h1,g1]) h
 | _=>intro x y vs us hk;simp[flatK] at hk
def eqL {α:Type} (f:α->α->Bool):List α->List α->Bool
 | [],[]=>true
 | x::xs,y::ys=>f x y&&eqL f xs ys
 | _,_=>false
def eqC:(e:Kd)->Car e->Car e->Bool
 | .int _,x,y=>decide ((x:Int)=y)
 | .bool,x,y=>decide ((x:Bool)=y)
 | .str,x,y=>decide ((x:ByteArray)=y)
 | .fp,x,y=>decide ((x:Fp)=y)
 | .fr,x,y=>decide ((x:Fr)=y)
 | .pair a b,x,y=>eqC a x.1 y.1&&eqC b x.2 y.2
 | .arr _ e,xs,ys=>eqL (eqC e) xs ys
 | .sl e,xs,ys=>eqL (eqC e) xs ys
 | .ptr e,x,y=>eqC e x y
 | .fn _,_,_=>true
 | .cap c e,x,y=>eqC c x.1 y.1&&eqC e x.2 y.2
 | .pq,x,y=>decide ((x:Bool)=y)
 | .mp,_,_=>true
theorem eqL_iff {α:Type} {f:α->α->Bool} (h:∀ x y,f x y=true↔x=y):∀ (xs ys:List α),eqL f xs ys=true↔xs=ys:=by
 intro xs
 induction xs with
 | nil=>intro ys;cases ys<;>simp[eqL]
 | cons x xs ih=>intro ys;cases ys with
  | nil=>simp[eqL]
  | cons y ys=>simp[eqL,h,ih]
theorem eqC_iff:∀ {e:Kd} (x y:Car e),eqC e x y=true↔x=y:=by
 intro e
 induction e with
 | int k=>intro x y;exact decide_eq_true_iff
 | bool=>intro x y;exact decide_eq_true_iff
 | str=>intro x y;exact decide_eq_true_iff
 | fp=>intro x y;exact decide_eq_true_iff
 | fr=>intro x y;exact decide_eq_true_iff
 | pair a b iha ihb=>intro x y;simp only[eqC,Bool.and_eq_true,iha,ihb];exact⟨fun ⟨h1,h2⟩=>Prod.ext h1 h2,fun h=>by rw[h];exact⟨rfl,rfl⟩⟩
 | arr n e ih=>intro x y;exact eqL_iff ih x y
 | sl e ih=>intro x y;exact eqL_iff ih x y
 | ptr e ih=>intro x y;exact ih x y
 | fn f=>intro x y;exact⟨fun _=>rfl,fun _=>rfl⟩
 | cap c e ihc ihe=>intro x y;simp only[eqC,Bool.and_eq_true,ihc,ihe];exact⟨fun ⟨h1,h2⟩=>Prod.ext h1 h2,fun h=>by rw[h];exact⟨rfl,rfl⟩⟩
 | pq=>intro x y;exact decide_eq_true_iff
 | mp=>intro x y;exact⟨fun _=>rfl,fun _=>rfl⟩
def kdFields (f:TypeId->Option Kd):List Field->Option Kd
 | []=>none
 | [x]=>match f x.type with
  | some (.arr 6 (.int .u64))=>some .fp
  | some (.arr 4 (.int .u64))=>some .fr
  | _=>none
 | x::r=>match f x.type,kdTail f r with
  | some a,some b=>some (.pair a b)
  | _,_=>none
where
 kdTail (f:TypeId->Option Kd):List Field->Option Kd
  | []=>none
  | [x]=>f x.type
  | x::r=>match f x.type,kdTail f r with
   | some a,some b=>some (.pair a b)
   | _,_=>none
def kdOf (P:Program):Nat->TypeId->Option Kd
 | 0,_=>none
 | d+1,t=>match P.underlying t with
  | some (.int k)=>some (.int k)
  | some .bool=>some .bool
  | some .string=>some .str
  | some (.array n e)=>match kdOf P d e with
   | some κ=>some (.arr n κ)
   | none=>none
  | some (.slice e)=>match kdOf P d e with
   | some κ=>some (.sl κ)
   | none=>none
  | some (.struct fs)=>kdFields (kdOf P d) fs.toList
  | _=>none
end Go.Eng
