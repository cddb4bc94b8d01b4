import Derived.Laws.Cells
import Derived.Laws.StructEq
import Derived.KernelRfl
import Derived.Laws.MakeOwn
import Derived.Laws.IdiomStrings
import Derived.Test.YtbeeaekepmnfhaaGreatDoorML24oPB
set_option maxRecDepth 100000
namespace Go.Eng
open Go Go.RowKit Cr
inductive Cell where
 | v (x:Value)
 | T
 | F
 | ints (k:IntKind) (n:Nat) (xs:List Int)
 | row (e:Kd) (n:Nat) (xs:List (au e))
 | ptr (id off:Nat)
 | pe (id base i c:Nat)
 | sl (id base off len c:Nat)
 | ro (e:Kd) (xs:List (au e))
 | rp (e:Kd) (xs:List (au e)) (i off:Nat)
 | fv (e:Kd) (x:au e)
 | ky (f:Nat) (ids:List Nat)
 | rn (e:Kd) (xs:List (au e))
 | junk
inductive TV where
 | one (c:Cell)
 | agg (cs:List Cell)
inductive SV where
 | is (x:TV)
 | tup (l:List TV)
 | undef
 | junk
structure aH where
 m:Nat->Option Nat
 n:Nat->Nat
 M:Mem
instance : CoeFun aH (fun _ => Nat -> Option Nat) := ⟨aH.m⟩
def Cell.size:Cell->Nat
 | .ints _ n _=>n
 | .row e n _=>n*width e
 | _=>1
def jf (ρ:aH):List Nat->List Value->Prop
 | [],vs=>vs=[]
 | i::l,vs=>∃ b us,ρ i=some b/\jf ρ l us/\vs=us++[.pointer (some ⟨b,0,none⟩)]
def Cell.rel (ρ:aH):Cell->List Value->Prop
 | .v x,vs=>vs=[x]/\x.oneCell'=true
 | .T,vs=>vs=[.bool true]
 | .F,vs=>vs=[.bool false]
 | .ints k n xs,vs=>xs.length=n/\vs=xs.map (Value.int k)
 | .row e n xs,vs=>xs.length=n/\dJ (Rd ρ.M e) xs vs
 | .ptr id off,vs=>∃ b,ρ id=some b/\vs=[.pointer (some ⟨b,off,none⟩)]
 | .pe id base i c,vs=>∃ b,ρ id=some b/\vs=[.pointer (some ⟨b,base+i*c,none⟩)]
 | .sl id base off len c,vs=>(len=0/\vs=[.slice none 0 0]) \/
  ∃ b o cap,ρ id=some b/\len<=cap/\(o=base+off*c\/cap=0)/\o+cap*c<=ρ.n id/\vs=[.slice (some ⟨b,o,none⟩) len cap]
 | .ro e xs,vs=>Rd ρ.M (.sl e) xs vs
 | .rp e xs i off,vs=>∃ b o,jW (Rd ρ.M e) (width e) ρ.M b o xs/\i<xs.length/\vs=[.pointer (some ⟨b,o+(i*width e+off),none⟩)]
 | .fv e x,vs=>Rd ρ.M e x vs/\vs.length=1
 | .ky f l,vs=>∃ us,jf ρ l us/\vs=[.func (.func f) ⟨[]⟩ ⟨us⟩]
 | .rn e xs,vs=>Rd ρ.M (.sl e) xs vs/\∃ a n c,vs=[.slice (some a) n c]
 | .junk,vs=>∃ x,vs=[x]/\x.oneCell'=true
def aD (ρ:aH):List Cell->List Value->Prop
 | [],vs=>vs=[]
 | c::cs,vs=>∃ v1 v2,vs=v1++v2/\c.rel ρ v1/\aD ρ cs v2
def bR:List Cell->Nat
 | []=>0
 | c::cs=>c.size+bR cs
def TV.cells:TV->List Cell
 | .one c=>[c]
 | .agg cs=>cs
def TV.rel (ρ:aH):TV->Value->Prop
 | .one c,v=>c.rel ρ [v]
 | .agg cs,v=>∃ l,v=.agg ⟨l⟩/\aD ρ cs l
def dX (ρ:aH):List TV->List Value->Prop
 | [],vs=>vs=[]
 | t::ts,vs=>∃ x xs,vs=x::xs/\t.rel ρ x/\dX ρ ts xs
def SV.rel (ρ:aH):SV->Value->Prop
 | .is x,v=>x.rel ρ v
 | .tup l,v=>∃ vs,v=.tuple ⟨vs⟩/\dX ρ l vs
 | .undef,v=>v=Go.undef
 | .junk,_=>True
structure aH.le (ρ ρ':aH):Prop where
 id:∀ id b,ρ id=some b->ρ' id=some b/\ρ'.n id=ρ.n id
 mem:Mem.le ρ.M ρ'.M
theorem Mem.le_refl (M:Mem):Mem.le M M:=fun _ _ h=>h
theorem aH.le_refl (ρ:aH):aH.le ρ ρ:=⟨fun _ _ h=>⟨h,rfl⟩,Mem.le_refl _⟩
theorem aH.le_trans {a b c:aH} (h:aH.le a b) (k:aH.le b c):aH.le a c :=
 ⟨fun _ _ e=>⟨(k.id _ _ (h.id _ _ e).1).1,((k.id _ _ (h.id _ _ e).1).2).trans (h.id _ _ e).2⟩,fun _ _ e=>k.mem _ _ (h.mem _ _ e)⟩
theorem kF {e:Kd} {M M':Mem} (h:Mem.le M M') {b o:Nat} {xs:List (au e)} (hr:jW (Rd M e) (width e) M b o xs):jW (Rd M' e) (width e) M' b o xs:=by
 obtain⟨l,h1,h2,h3⟩:=hr
 exact⟨l,h _ _ h1,h2,dz (fun _ _=>cy h) h3⟩
theorem F8 {ρ ρ':aH} (h:aH.le ρ ρ'):∀ {l:List Nat} {vs:List Value},jf ρ l vs->jf ρ' l vs:=by
 intro l
 induction l with
 | nil=>intro vs hr;exact hr
 | cons i l ih=>intro vs ⟨b,us,h1,h2,h3⟩;exact⟨b,us,(h.id _ _ h1).1,ih h2,h3⟩
theorem Cell.jR {ρ ρ':aH} (h:aH.le ρ ρ') {c:Cell} {vs:List Value} (hr:c.rel ρ vs):c.rel ρ' vs:=by
 cases c with
 | ptr id off=>obtain⟨b,hb,e⟩:=hr;exact⟨b,(h.id _ _ hb).1,e⟩
 | pe id base i c=>obtain⟨b,hb,e⟩:=hr;exact⟨b,(h.id _ _ hb).1,e⟩
 | sl id base off len c =>
  rcases hr with hr|⟨b,o,cap,hb,h1,h2,h3,e⟩
  ·exact .inl hr
  ·exact .inr ⟨b,o,cap,(h.id _ _ hb).1,h1,h2,by rw[(h.id _ _ hb).2];exact h3,e⟩
 | row e n xs=>exact⟨hr.1,dz (fun _ _=>cy h.mem) hr.2⟩
 | ro e xs=>exact cy (e:=.sl e) h.mem hr
 | rp e xs i off=>obtain⟨b,o,h1,h2⟩:=hr;exact⟨b,o,kF h.mem h1,h2⟩
 | fv e x=>exact⟨cy h.mem hr.1,hr.2⟩
 | ky f l=>obtain⟨us,h1,h2⟩:=hr;exact⟨us,F8 h h1,h2⟩
 | rn e xs=>exact⟨cy (e:=.sl e) h.mem hr.1,hr.2⟩
 | v x=>exact hr
 | T=>exact hr
 | F=>exact hr
 | ints k n xs=>exact hr
 | junk=>exact hr
theorem fP {ρ ρ':aH} (h:aH.le ρ ρ') {cs:List Cell}:∀ {vs:List Value},aD ρ cs vs->aD ρ' cs vs:=by
 induction cs with
 | nil=>intro vs hr;exact hr
 | cons c cs ih=>intro vs hr;obtain⟨v1,v2,e,h1,h2⟩:=hr;exact⟨v1,v2,e,Cell.jR h h1,ih h2⟩
theorem TV.jR {ρ ρ':aH} (h:aH.le ρ ρ') {x:TV} {v:Value} (hr:x.rel ρ v):x.rel ρ' v:=by
 cases x with
 | one c=>exact Cell.jR h hr
 | agg cs=>obtain⟨l,e,hl⟩:=hr;exact⟨l,e,fP h hl⟩
theorem Jh {ρ ρ':aH} (h:aH.le ρ ρ') {l:List TV}:∀ {vs:List Value},dX ρ l vs->dX ρ' l vs:=by
 induction l with
 | nil=>intro vs hr;exact hr
 | cons t ts ih=>intro vs hr;obtain⟨x,xs,e,h1,h2⟩:=hr;exact⟨x,xs,e,TV.jR h h1,ih h2⟩
theorem SV.jR {ρ ρ':aH} (h:aH.le ρ ρ') {x:SV} {v:Value} (hr:x.rel ρ v):x.rel ρ' v:=by
 cases x with
 | is x=>exact TV.jR h hr
 | tup l=>obtain⟨vs,e,hl⟩:=hr;exact⟨vs,e,Jh h hl⟩
 | undef=>exact hr
 | junk=>trivial
theorem Cell.wI {ρ:aH} {c:Cell} {vs:List Value} (hr:c.rel ρ vs):vs.length=c.size:=by
 cases c with
 | ints k n xs=>obtain⟨h1,h2⟩:=hr;subst h2;simpa[Cell.size] using h1
 | row e n xs=>obtain⟨h1,h2⟩:=hr;rw[fH (fun _ _=>bD) h2,h1];rfl
 | ptr id off=>obtain⟨b,hb,e⟩:=hr;subst e;rfl
 | pe id base i c=>obtain⟨b,hb,e⟩:=hr;subst e;rfl
 | sl id base off len c=>rcases hr with ⟨_,e⟩|⟨b,o,cap,hb,_,_,_,e⟩<;>(subst e;rfl)
 | ro e xs=>exact bD (e:=.sl e) hr
 | rp e xs i off=>obtain⟨b,o,_,_,e⟩:=hr;subst e;rfl
 | fv e x=>exact hr.2
 | ky f l=>obtain⟨us,_,e⟩:=hr;subst e;rfl
 | rn e xs=>exact bD (e:=.sl e) hr.1
 | junk=>obtain⟨x,e,_⟩:=hr;subst e;rfl
 | v x=>obtain⟨e,_⟩:=hr;subst e;rfl
 | T=>have e:vs=_:=hr;subst e;rfl
 | F=>have e:vs=_:=hr;subst e;rfl
theorem fG {ρ:aH} {cs:List Cell}:∀ {vs:List Value},aD ρ cs vs->vs.length=bR cs:=by
 induction cs with
 | nil=>intro vs hr;have e:vs=[]:=hr;subst e;rfl
 | cons c cs ih=>intro vs hr;obtain⟨v1,v2,e,h1,h2⟩:=hr;subst e;simp[Cell.wI h1,ih h2,bR]
theorem Cell.KX {ρ:aH} {c:Cell} {vs:List Value} (hr:c.rel ρ vs):∀ x∈vs,x.oneCell'=true:=by
 cases c with
 | ints k n xs =>
  obtain⟨h1,h2⟩:=hr;subst h2;intro x hx
  obtain⟨y,_,rfl⟩:=List.mem_map.1 hx;rfl
 | row e n xs=>exact uA (fun _ _=>rP) hr.2
 | ptr id off=>obtain⟨b,hb,e⟩:=hr;subst e;intro x hx;simp at hx;subst hx;rfl
 | pe id base i c=>obtain⟨b,hb,e⟩:=hr;subst e;intro x hx;simp at hx;subst hx;rfl
 | sl id base off len c=>rcases hr with ⟨_,e⟩|⟨b,o,cap,hb,_,_,_,e⟩<;>(subst e;intro x hx;simp at hx;subst hx;rfl)
 | ro e xs=>exact rP (e:=.sl e) hr
 | rp e xs i off=>obtain⟨b,o,_,_,e⟩:=hr;subst e;intro x hx;simp at hx;subst hx;rfl
 | fv e x=>exact rP hr.1
 | ky f l=>obtain⟨us,_,e⟩:=hr;subst e;intro x hx;simp at hx;subst hx;rfl
 | rn e xs=>exact rP (e:=.sl e) hr.1
 | junk=>obtain⟨y,e,h⟩:=hr;subst e;intro x hx;simp at hx;subst hx;exact h
 | v y=>obtain⟨e,h⟩:=hr;subst e;intro x hx;simp at hx;subst hx;exact h
 | T=>have e:vs=_:=hr;subst e;intro x hx;simp at hx;subst hx;rfl
 | F=>have e:vs=_:=hr;subst e;intro x hx;simp at hx;subst hx;rfl
theorem xE {ρ:aH} {cs:List Cell}:∀ {vs:List Value},aD ρ cs vs->∀ x∈vs,x.oneCell'=true:=by
 induction cs with
 | nil=>intro vs hr x hx;have e:vs=[]:=hr;subst e;cases hx
 | cons c cs ih =>
  intro vs hr x hx;obtain⟨v1,v2,e,h1,h2⟩:=hr;subst e
  rcases List.mem_append.1 hx with h|h
  ·exact Cell.KX h1 x h
  ·exact ih h2 x h
theorem dc {ρ:aH} {cs ds:List Cell}:∀ {vs us:List Value},aD ρ cs vs->aD ρ ds us->aD ρ (cs++ds) (vs++us):=by
 induction cs with
 | nil=>intro vs us hr hs;have e:vs=[]:=hr;subst e;exact hs
 | cons c cs ih =>
  intro vs us hr hs;obtain⟨v1,v2,e,h1,h2⟩:=hr;subst e
  exact⟨v1,v2++us,by simp,h1,ih h2 hs⟩
theorem TV.tM {ρ:aH} {x:TV} {v:Value} (hr:x.rel ρ v):∃ l,v.cells=⟨l⟩/\aD ρ x.cells l:=by
 cases x with
 | one c =>
  have hone:=Cell.KX (c:=c) hr v (by simp)
  refine⟨[v],?_,[v],[],by simp,hr,rfl⟩
  cases v<;>simp_all [Value.cells,Value.oneCell']
 | agg cs=>obtain⟨l,e,hl⟩:=hr;subst e;exact⟨l,rfl,hl⟩
def bw (w:World) (b n:Nat) (l:List Value):Prop :=
 ∃ (rest:List Value) (el:TypeId) (fr:Nat × Nat),w.heap[b]?=some (.cells ⟨l++rest⟩ el fr)/\(l++rest).length=n/\(fr=(0,0)\/n<=fr.1)
abbrev dC:=Nat->SV
abbrev bm:=Nat->Option (List Cell)
structure bW where
 w:World
 ids:List (Nat × Nat)
 gl:Nat->Option (Sigma au):=fun _=>none
 M:Mem:=fun _=>none
def sR (w:World) (b:Nat):Nat:=match w.heap[b]? with
 | some (.cells c _ _)=>c.size
 | _=>0
def bW.own (W:bW) (b:Nat):Bool:=W.ids.any fun p=>p.2==b
def bW.G4 (W:bW) (b:Nat):Prop:=W.w.heap.size<=b\/W.own b=true
structure ny (W:bW) (w:World):Prop where
 os:w.os=W.w.os
 tape:w.tape=W.w.tape
 output:w.output=W.w.output
 size:W.w.heap.size<=w.heap.size
 block:∀ k,k<W.w.heap.size->W.own k=false->w.heap[k]?=W.w.heap[k]?
theorem ny.refl (W:bW):ny W W.w:=⟨rfl,rfl,rfl,Nat.le_refl _,fun _ _ _=>rfl⟩
theorem ny.drew {W:bW} {w:World} (h:ny W w):ny W { w with drawn:=w.drawn+1 }:=⟨h.os,h.tape,h.output,h.size,h.block⟩
theorem ny.below {W:bW} {w:World} (h:ny W w) (hn:W.ids=[]):Below W.w.heap.size W.w w :=
 ⟨h.os,h.tape,h.output,h.size,fun k hk=>h.block k hk (by simp[bW.own,hn])⟩
theorem bw.lt {w:World} {b n:Nat} {l:List Value} (h:bw w b n l):b<w.heap.size:=by
 obtain⟨rest,el,fr,h,_⟩:=h
 rcases Nat.lt_or_ge b w.heap.size with h'|h'
 ·exact h'
 ·simp[Array.getElem?_eq_none h'] at h
theorem bw.cell {w:World} {b n:Nat} {l:List Value} (h:bw w b n l) {i:Nat} {x:Value} (hi:l[i]?=some x):w.cell? ⟨b,i,none⟩=some x:=by
 obtain⟨rest,el,fr,h,_⟩:=h
 simp only[World.cell?,h]
 have hl:i<l.length:=by
  rcases Nat.lt_or_ge i l.length with h'|h'
  ·exact h'
  ·simp[List.getElem?_eq_none h'] at hi
 simp[List.getElem?_append_left hl,hi]
theorem bw.frozen {w:World} {b n:Nat} {l:List Value} (h:bw w b n l) {i:Nat} (hi:i<n):w.frozen? ⟨b,i,none⟩=false:=by
 obtain⟨rest,el,fr,h,_,hf⟩:=h
 simp only[World.frozen?,h]
 rcases hf with rfl|hf
 ·simp
 ·simp;omega
theorem bw.len {w:World} {b n:Nat} {l:List Value} (h:bw w b n l):l.length<=n:=by
 obtain⟨rest,el,fr,_,h,_⟩:=h
 simp at h;omega
end Go.Eng
namespace Go.Eng
open Go Go.RowKit Cr
def ub (n:Nat):List Int:=List.replicate n 0
structure Out where
 val:SV
 new:List (Nat × List Cell):=[]
 wr:List (Nat × List Cell):=[]
 pre:List Prop:=[]
abbrev Spec:=bW->Nat->List SV->bm->Option Out
def xt:Nat->Nat->Nat
 | 0,n=>n
 | m+1,n=>m+1+n
theorem C5 (m n:Nat):xt m n=m+n:=by cases m<;>simp[xt]
abbrev LN:=(e:Kd) × Nat × List (au e)
def iD:Cell->Option LN
 | .ints k n xs=>some ⟨.int k,n,xs⟩
 | .row e n xs=>some ⟨e,n,xs⟩
 | _=>none
def ft:(e:Kd)->Nat->List (au e)->Cell
 | .int k,n,xs=>.ints k n xs
 | e,n,xs=>.row e n xs
def cellsOf:(e:Kd)->au e->List Cell
 | .int k,x=>[.v (.int k x)]
 | .bool,x=>[.v (.bool x)]
 | .str,x=>[.v (.string x)]
 | .fp,x=>[.row .fp 1 [x]]
 | .fr,x=>[.row .fr 1 [x]]
 | .pair a b,x=>cellsOf a x.1++cellsOf b x.2
 | .arr n e,xs=>[ft e n xs]
 | .sl e,xs=>[.ro e xs]
 | .ptr e,x=>[.rp e [x] 0 0]
 | .fn f,_=>[.v (.func (.func f) ⟨[]⟩ ⟨[]⟩)]
 | .cap c e,x=>[.fv (.cap c e) x]
 | .pq,x=>[.fv .pq x]
def zeroCells:Kd->List Cell
 | .int k=>[.v (.int k 0)]
 | .bool=>[.F]
 | .str=>[.v (.string ByteArray.empty)]
 | .fp=>[.row .fp 1 [(0:Fp)]]
 | .fr=>[.row .fr 1 [(0:Fr)]]
 | .pair a b=>zeroCells a++zeroCells b
 | .arr n e=>[ft e n (List.replicate n (zeroOf e))]
 | .sl _=>[.v (.slice none 0 0)]
 | .fn f=>[.v (.func (.func f) ⟨[]⟩ ⟨[]⟩)]
 | _=>[.v (.pointer none)]
def fg:List Cell->Nat->Option (List Cell × List Cell)
 | cs,0=>some ([],cs)
 | [],_+1=>none
 | c::cs,n+1=>match iD c with
  | some ⟨e,m,xs⟩=>match Nat.blt (n+1) (m*width e) with
   | true=>match Nat.beq ((n+1)/width e*width e) (n+1) with
    | true=>some ([ft e ((n+1)/width e) (xs.take ((n+1)/width e))],ft e (m-(n+1)/width e) (xs.drop ((n+1)/width e))::cs)
    | false=>none
   | false=>match fg cs (n+1-m*width e) with
    | some (a,b)=>some (c::a,b)
    | none=>none
  | none=>match fg cs n with
   | some (a,b)=>some (c::a,b)
   | none=>none
def Bv (cs:List Cell) (off n:Nat):Option (List Cell) :=
 match fg cs off with
 | some (_,r)=>match fg r n with
  | some (m,_)=>some m
  | none=>none
 | none=>none
def sN:List Cell->Nat->Option (List Cell × LN × Nat × List Cell)
 | [],_=>none
 | c::cs,b=>match iD c with
  | some s=>match Nat.blt b (width s.1) with
   | true=>some ([],s,b,cs)
   | false=>match Nat.blt b (s.2.1*width s.1) with
    | true=>some ([],s,b,cs)
    | false=>match sN cs (b-s.2.1*width s.1) with
     | some (a,s',q,r)=>some (c::a,s',q,r)
     | none=>none
  | none=>match b with
   | 0=>none
   | b+1=>match sN cs b with
    | some (a,s',q,r)=>some (c::a,s',q,r)
    | none=>none
def Bj (cs:List Cell) (off:Nat) (new:List Cell):Option (List Cell) :=
 match fg cs off with
 | some (a,r)=>match fg r (bR new) with
  | some (_,b)=>some (a++(new++b))
  | none=>none
 | none=>none
def jq {a b:Kd} (h:a=b) (xs:List (au a)):List (au b):=h▸xs
def BV {a b:Kd} (h:a=b) (x:au a):au b:=h▸x
def qi (e:Kd):List Cell->Option (au e × List Cell)
 | []=>none
 | c::r=>match iD c with
  | some ⟨e',n,xs⟩=>match e'.eq? e with
   | some ⟨h⟩=>match n with
    | 0=>none
    | 1=>some (BV h (xs.getD 0 (zeroOf e')),r)
    | m+2=>some (BV h (xs.getD 0 (zeroOf e')),ft e' (m+1) (xs.drop 1)::r)
   | none=>none
  | none=>none
def Cb (e:Kd) (cs:List Cell):Option (au e × List Prop × List Cell):=match qi e cs with
 | some (x,r)=>some (x,[],r)
 | none=>none
def jT (k:IntKind):List Cell->Nat->Option (List Int × List Cell)
 | cs,0=>some ([],cs)
 | [],_+1=>none
 | .ints k' n xs::r,m+1=>match decide (k'=k) with
  | true=>match Nat.beq n (m+1) with
   | true=>some (xs,r)
   | false=>match Nat.blt (m+1) n with
    | true=>some (xs.take (m+1),.ints k' (n-(m+1)) (xs.drop (m+1))::r)
    | false=>match jT k r (m+1-n) with
     | some (ys,r')=>some (xs++ys,r')
     | none=>none
  | false=>none
 | .v (.int k' x)::r,m+1=>match decide (k'=k),jT k r m with
  | true,some (ys,r')=>some (x::ys,r')
  | _,_=>none
 | .row .fp 1 xs::r,m+1=>match decide (k=.u64)&&Nat.beq (m+1) 6 with
  | true=>some (enc (M:=Mp) (xs.getD 0 0),r)
  | false=>none
 | .row .fr 1 xs::r,m+1=>match decide (k=.u64)&&Nat.beq (m+1) 4 with
  | true=>some (enc (M:=Mr) (xs.getD 0 0),r)
  | false=>none
 | _::_,_+1=>none
def Dc:(e:Kd)->Nat->List Cell->Option (List (au e) × List Cell)
 | .int k,n,cs=>jT k cs n
 | _,_,_=>none
def M4 (e:Kd) (n:Nat):List Cell->Option (List (au e) × List Cell)
 | []=>none
 | c::r=>match iD c with
  | some ⟨e',n',xs⟩=>match e'.eq? e with
   | some ⟨h⟩=>match Nat.beq n' n with
    | true=>some (jq h xs,r)
    | false=>match Nat.blt n n' with
     | true=>some (jq h (xs.take n),ft e' (n'-n) (xs.drop n)::r)
     | false=>none
   | none=>none
  | none=>none
def pN {α:Type} (f:List Cell->Option (α × List Prop × List Cell)):Nat->List Cell->Option (List α × List Prop × List Cell)
 | 0,cs=>some ([],[],cs)
 | n+1,cs=>match f cs with
  | some (x,p,r)=>match pN f n r with
   | some (xs,ps,r')=>some (x::xs,p++ps,r')
   | none=>none
  | none=>none
def re (e:Kd) (cs:List Cell) (base off len c:Nat):Option (List (au e) × List Prop) :=
 match sN cs base with
 | some (_,⟨e',n,xs⟩,q,_)=>match e'.eq? e,Nat.beq q 0&&Nat.beq c (width e) with
  | some ⟨h⟩,true=>some (((jq h xs).drop off).take len,[off+len<=n])
  | _,_=>none
 | none=>none
def rb {α:Type} (f:List Cell->Option (α × List Prop × List Cell)) (w:Nat) (cs:List Cell) (base off len c:Nat):Option (List α × List Prop) :=
 match Nat.beq c w,fg cs (base+off*c) with
 | true,some (_,r)=>match pN f len r with
  | some (xs,ps,_)=>some (xs,ps)
  | none=>none
 | _,_=>none
def eK (B:bm):(e:Kd)->List Cell->Option (au e × List Prop × List Cell)
 | .int k,cs=>match cs with
  | .v (.int k' x)::r=>match decide (k'=k) with
   | true=>some (x,[],r)
   | false=>none
  | cs=>Cb (.int k) cs
 | .bool,cs=>match cs with
  | .v (.bool x)::r=>some (x,[],r)
  | .T::r=>some (true,[],r)
  | .F::r=>some (false,[],r)
  | cs=>Cb .bool cs
 | .str,cs=>match cs with
  | .v (.string x)::r=>some (x,[],r)
  | cs=>Cb .str cs
 | .fp,cs=>match qi .fp cs with
  | some (x,r)=>some (x,[],r)
  | none=>match jT .u64 cs 6 with
   | some (ws,r)=>some (dec (M:=Mp) ws,[Canon Mp ws],r)
   | none=>none
 | .fr,cs=>match qi .fr cs with
  | some (x,r)=>some (x,[],r)
  | none=>match jT .u64 cs 4 with
   | some (ws,r)=>some (dec (M:=Mr) ws,[Canon Mr ws],r)
   | none=>none
 | .pair a b,cs=>match qi (.pair a b) cs with
  | some (x,r)=>some (x,[],r)
  | none=>match eK B a cs with
   | some (x,p,r)=>match eK B b r with
    | some (y,q,r')=>some ((x,y),p++q,r')
    | none=>none
   | none=>none
 | .arr n e,cs=>match qi (.arr n e) cs with
  | some (x,r)=>some (x,[],r)
  | none=>match M4 e n cs with
   | some (xs,r)=>some (xs,[],r)
   | none=>match Dc e n cs with
    | some (xs,r)=>some (xs,[],r)
    | none=>pN (eK B e) n cs
 | .sl e,cs=>match qi (.sl e) cs with
  | some (x,r)=>some (x,[],r)
  | none=>match cs with
   | .ro e' xs::r=>match e'.eq? e with
    | some ⟨h⟩=>some (jq h xs,[],r)
    | none=>none
   | .v (.slice none 0 0)::r=>some ([],[],r)
   | .sl id base off len c::r=>match B id with
    | some (d::ds)=>match re e (d::ds) base off len c with
     | some (xs,p)=>some (xs,p,r)
     | none=>match rb (eK B e) (width e) (d::ds) base off len c with
      | some (xs,p)=>some (xs,p,r)
      | none=>none
    | _=>none
   | _=>none
 | .ptr e,cs=>match cs with
  | .rp e' xs i 0::r=>match e'.eq? e with
   | some ⟨h⟩=>some (BV (a:=e') (b:=e) h (xs.getD i (zeroOf e')),[],r)
   | none=>none
  | .ptr id 0::r=>match B id with
   | some (d::ds)=>match eK B e (d::ds) with
    | some (x,p,[])=>some (x,p,r)
    | _=>none
   | _=>none
  | _=>none
 | .fn f,cs=>match cs with
  | .v (.func (.func g) ⟨[]⟩ ⟨[]⟩)::r=>match decide (g=f) with
   | true=>some ((),[],r)
   | false=>none
  | .ky g []::r=>match decide (g=f) with
   | true=>some ((),[],r)
   | false=>none
  | _=>none
 | .cap c e,cs=>match cs with
  | .fv e' x::r=>match e'.eq? (.cap c e) with
   | some ⟨h⟩=>some (BV (a:=e') (b:=.cap c e) h x,[],r)
   | none=>none
  | .ky g (i::l)::r=>match B i with
   | some (d::ds)=>match eK B e (d::ds) with
    | some (y,q,[])=>match eK B c [.ky g l] with
     | some (x,p,[])=>some ((x,y),p++q,r)
     | _=>none
    | _=>none
   | _=>none
  | _=>none
 | .pq,cs=>match cs with
  | .fv .pq x::r=>some (x,[],r)
  | .ptr _ _::r=>some (true,[],r)
  | .pe _ _ _ _::r=>some (true,[],r)
  | .rp _ _ _ _::r=>some (true,[],r)
  | .v (.pointer none)::r=>some (false,[],r)
  | _=>none
def kg:bm:=fun _=>none
def bN (P:Program) (t:TypeId):Bool :=
 match P.underlying t with
 | some (.struct _)|some (.array _ _)=>true
 | _=>false
def Hg:Value->Cell
 | .bool true=>.T
 | .bool false=>.F
 | x=>.v x
def Aa (P:Program) (t:TypeId):Option (List Cell) :=
 match P.info? t with
 | some { zero:=some z,.. }=>match A5 P 20 t with
  | some κ=>match kM z.cells.toList (gE κ)&&zk κ with
   | true=>some (zeroCells κ)
   | false=>none
  | none=>match z.cells.toList.all (·.oneCell') with
   | true=>some (z.cells.toList.map Hg)
   | false=>none
 | _=>none
def mg (agg:Bool) (cs:List Cell):Option TV :=
 match agg with
 | true=>some (.agg cs)
 | false=>match cs with
  | [c]=>match iD c with
   | some ⟨e,_,xs⟩=>match cellsOf e (xs.getD 0 (zeroOf e)) with
    | [c']=>some (.one c')
    | _=>none
   | none=>some (.one c)
  | _=>none
def av (op:BinOp) (k:IntKind) (x y:Int):Int :=
 let a:=BitVec.ofInt k.bits x
 let b:=BitVec.ofInt k.bits y
 match op with
 | .and=>k.wrap (a &&& b).toNat
 | .or=>k.wrap (a ||| b).toNat
 | .xor=>k.wrap (a ^^^ b).toNat
 | _=>k.wrap (a &&& ~~~b).toNat
def GJ (op:BinOp) (k:IntKind) (a b:Int):Option (Value × List Prop) :=
 match op with
 | .add=>some (.int k (k.wrap (a+b)),[])
 | .sub=>some (.int k (k.wrap (a-b)),[])
 | .mul=>some (.int k (k.wrap (a*b)),[])
 | .quo=>some (.int k (k.wrap (a.tdiv b)),[b≠0])
 | .rem=>some (.int k (a.tmod b),[b≠0])
 | .and=>some (.int k (av .and k a b),[])
 | .or=>some (.int k (av .or k a b),[])
 | .xor=>some (.int k (av .xor k a b),[])
 | .andNot=>some (.int k (av .andNot k a b),[])
 | .eql=>some (.bool (a==b),[])
 | .neq=>some (.bool (a != b),[])
 | .lss=>some (.bool (decide (a<b)),[])
 | .leq=>some (.bool (decide (a<=b)),[])
 | .gtr=>some (.bool (decide (a>b)),[])
 | .geq=>some (.bool (decide (a>=b)),[])
 | _=>none
def H2 (op:BinOp) (k:IntKind) (a b:Int):Option Value :=
 match op with
 | .shl=>some (.int k (k.wrap (a*2^(min b.toNat k.bits))))
 | .shr=>some (.int k (a.fdiv (2^(min b.toNat k.bits))))
 | _=>none
def pz (P:Program) (sh:TypeId->Bool):Nat->Nat->List Field->Bool
 | o,n,[]=>Nat.beq o n
 | o, n, f :: fs => f.name != "_" && sh f.type && Nat.beq f.offset o && pz P sh (o + P.cellsOf f.type) n fs
def kL (P:Program):Nat->TypeId->Bool
 | 0,_=>false
 | d+1,t=>match P.underlying t with
  | some (.int _)=>Nat.beq (P.cellsOf t) 1
  | some (.array n e)=>match Nat.beq (P.cellsOf t) (n*P.cellsOf e) with
   | true=>kL P d e
   | false=>false
  | some (.struct fs)=>pz P (kL P d) 0 (P.cellsOf t) fs.toList && !P.stoodInHeld t
  | _=>false
def Ky (i:Int) (n:Nat):Bool:=match i with
 | .ofNat m=>Nat.blt m n
 | _=>false
def ret (x:SV):Option Out:=some { val:=x }
def fL (x:Value):Option Out:=some { val:=.is (.one (.v x)) }
def pr (P:Program) (t:TypeId) (f:Nat):Option Field :=
 match P.underlying t with
 | some (.struct fs)=>fs[f]?
 | _=>none
def nK (place:Nat->Option (Nat × Nat)):List Cell->List (Nat × SV)->Option (List Cell)
 | cs,[]=>some cs
 | cs,(i,.is x)::r=>match place i with
  | some (off,sz)=>match Nat.beq (bR x.cells) sz with
   | true=>match Bj cs off x.cells with
    | some cs'=>nK place cs' r
    | none=>none
   | false=>none
  | none=>none
 | _,_=>none
def si (P:Program) (t:TypeId):Nat->Option (Nat × Nat) :=
 match P.underlying t with
 | some (.struct fs)=>fun i=>match fs[i]? with
  | some f=>some (f.offset,P.cellsOf f.type)
  | none=>none
 | some (.array _ e)=>fun i=>some (i*P.cellsOf e,P.cellsOf e)
 | _=>fun _=>none
def ua:List SV->Option Out
 | [x]=>ret x
 | _=>none
def Nz:List SV->Option Out
 | [.is (.one .T),x,_]=>ret x
 | [.is (.one .F),_,y]=>ret y
 | [.is (.one (.v (.bool c))),.is (.one (.v (.bool x))),.is (.one (.v (.bool y)))]=>fL (.bool (bif c then x else y))
 | _=>none
def IB (P:Program) (id:Nat) (t:TypeId):Option Out :=
 match Aa P t with
 | some cs=>some { val:=.is (.one (.ptr id 0)),new:=[(id,cs)] }
 | none=>none
def S8 (id:Nat):List SV->Option Out
 | [.is x]=>some { val:=.is (.one (.ptr id 0)),new:=[(id,x.cells)] }
 | _=>none
def rep {α:Type}:Nat->List α->List α
 | 0,_=>[]
 | n+1,l=>l++rep n l
def uJ (P:Program) (e:TypeId) (n:Nat) (cs:List Cell):List Cell × List Prop :=
 match A5 P 20 e with
 | some κ=>match pN (eK kg κ) n cs with
  | some (xs,ps,[])=>([ft κ n xs],ps)
  | _=>(cs,[])
 | none=>(cs,[])
def xD (P:Program) (t:TypeId) (cs:List Cell):List Cell × List Prop :=
 match P.underlying t with
 | some (.array n e)=>uJ P e n cs
 | _=>(cs,[])
def IC (P:Program) (t:TypeId) (ps:List Nat) (vs:List SV):Option Out :=
 match bN P t,Nat.beq ps.length vs.length,Aa P t with
 | true,true,some cs=>match nK (si P t) cs (ps.zip vs) with
  | some cs'=>some { val:=.is (.agg (xD P t cs').1),pre:=(xD P t cs').2 }
  | none=>none
 | _,_,_=>none
def ux (P:Program) (id:Nat) (t:TypeId) (len:Nat) (ps:List Nat) (vs:List SV):Option Out :=
 match P.underlying t,Nat.beq ps.length vs.length with
 | some (.slice e),true=>match Aa P e,Nat.blt (len*P.cellsOf e) 16777217&&Nat.blt 0 (P.cellsOf e)&&Nat.beq (bR ((Aa P e).getD [])) (P.cellsOf e) with
  | some cs,true=>match nK (fun i=>some (i*P.cellsOf e,P.cellsOf e)) (rep len cs) (ps.zip vs) with
   | some cs'=>match (uJ P e len cs').1 with
    | []=>none
    | d::ds=>some { val:=.is (.one (.sl id 0 0 len (P.cellsOf e))),new:=[(id,d::ds)],pre:=(uJ P e len cs').2 }
   | none=>none
  | _,_=>none
 | _,_=>none
def vR (e:Kd) (n:Nat) (xs:List (au e)) (j q sz:Nat) (ag:Bool):Option (TV × List Prop) :=
 match Nat.ble (q+sz) (width e) with
 | true=>match Bv (cellsOf e (xs.getD j (zeroOf e))) q sz with
  | some m=>match mg ag m with
   | some x=>some (x,[j<n])
   | none=>none
  | none=>none
 | false=>match Nat.beq q 0&&ag&&Nat.beq (sz/width e*width e) sz with
  | true=>some (.agg [ft e (sz/width e) ((xs.drop j).take (sz/width e))],[j+sz/width e<=n])
  | false=>none
def xK (e:Kd) (n:Nat) (xs:List (au e)) (j q:Nat) (new:List Cell):Option (List (au e) × List Prop) :=
 match Bj (cellsOf e (xs.getD j (zeroOf e))) q new with
 | some cs=>match eK kg e cs with
  | some (y,ps,[])=>some (xs.set j y,(j<n)::ps)
  | _=>none
 | none=>none
def Cg (P:Program) (t:TypeId) (cs:List Cell) (base i c:Nat):Option Out :=
 match sN cs base with
 | some (_,⟨e,n,xs⟩,q,_)=>match Nat.beq c (width e) with
  | true=>match vR e n xs (xt (q/c) i) (q%c) (P.cellsOf t) (bN P t) with
   | some (x,p)=>some { val:=.is x,pre:=p }
   | none=>none
  | false=>none
 | none=>none
def rJ (b:Nat) (cs:List Cell) (base i c:Nat) (new:List Cell):Option Out :=
 match sN cs base with
 | some (a,⟨e,n,xs⟩,q,r)=>match Nat.beq c (width e) with
  | true=>match xK e n xs (xt (q/c) i) (q%c) new with
   | some (ys,p)=>some { val:=.undef,wr:=[(b,a++(ft e n ys::r))],pre:=p }
   | none=>none
  | false=>none
 | none=>none
def Na (cs:List Cell) (base:Nat):Nat:=match sN cs base with
 | some (_,s,_,_)=>width s.1
 | none=>0
def Nx (P:Program) (t:TypeId) (vs:List SV) (B:bm):Option Out :=
 match vs with
 | [.is (.one (.ptr b off))]=>match B b with
  | some (c::cs)=>match Bv (c::cs) off (P.cellsOf t) with
   | some m=>match mg (bN P t) m with
    | some x=>ret (.is x)
    | none=>none
   | none=>Cg P t (c::cs) off 0 (Na (c::cs) off)
  | _=>none
 | [.is (.one (.pe b base i c))]=>match B b with
  | some (d::ds)=>Cg P t (d::ds) base i c
  | _=>none
 | [.is (.one (.rp e xs i off))]=>match vR e xs.length xs (xt (off/width e) i) (off%width e) (P.cellsOf t) (bN P t) with
  | some (x,p)=>some { val:=.is x,pre:=p }
  | none=>none
 | _=>none
def acn (cs:List Cell) (off:Nat):Bool:=match sN cs off with
 | some (_,s,_,_)=>Nat.blt 1 s.2.1
 | none=>false
def wX (b:Nat) (cs:List Cell) (off:Nat) (new:List Cell):Option Out :=
 match Bj cs off new with
 | some cs'=>some { val:=.undef,wr:=[(b,cs')] }
 | none=>none
def Ih (b:Nat) (cs:List Cell) (off:Nat) (new:List Cell):Option Out :=
 match acn cs off with
 | true=>match rJ b cs off 0 (Na cs off) new with
  | some o=>some o
  | none=>wX b cs off new
 | false=>match wX b cs off new with
  | some o=>some o
  | none=>rJ b cs off 0 (Na cs off) new
def IH (P:Program) (t:TypeId) (vs:List SV) (B:bm):Option Out :=
 match vs with
 | [.is (.one (.ptr b off)),.is x]=>match B b,Nat.beq (bR x.cells) (P.cellsOf t) with
  | some (c::cs),true=>Ih b (c::cs) off x.cells
  | _,_=>none
 | [.is (.one (.pe b base i c)),.is x]=>match B b,Nat.beq (bR x.cells) (P.cellsOf t) with
  | some (d::ds),true=>rJ b (d::ds) base i c x.cells
  | _,_=>none
 | _=>none
def w6 (P:Program) (t:TypeId) (f:Nat) (vs:List SV):Option Out :=
 match pr P t f with
 | some fd=>match Nat.beq (P.cellsOf fd.type) 0,vs with
  | false,[.is (.one (.ptr b off))]=>ret (.is (.one (.ptr b (off+fd.offset))))
  | false,[.is (.one (.pe b base i c))]=>ret (.is (.one (.pe b (base+fd.offset) i c)))
  | false,[.is (.one (.rp e xs i off))]=>ret (.is (.one (.rp e xs i (off+fd.offset))))
  | _,_=>none
 | none=>none
def isConst:Operand->Bool
 | .const _=>true
 | _=>false
def SB:(e:Kd)->List (au e)->Nat->Nat->Nat->Nat->Nat->Option Cell
 | .arr m e',xs,i,off,c,n,j=>match Nat.beq off 0&&Nat.beq (width e') c&&Nat.ble n m with
  | true=>some (.rp e' (xs.getD i []) j 0)
  | false=>none
 | _,_,_,_,_,_,_=>none
def w7 (P:Program) (t:TypeId) (lit:Bool) (vs:List SV):Option Out :=
 match P.underlying t,vs with
 | some (.array n e),[.is (.one (.ptr b off)),.is (.one (.v (.int _ i)))] =>
  match lit with
  | true=>match Ky i n with
   | true=>ret (.is (.one (.ptr b (off+i.toNat*P.cellsOf e))))
   | false=>none
  | false=>some { val:=.is (.one (.pe b off i.toNat (P.cellsOf e))),pre:=[0<=i/\i<(n:Int)] }
 | some (.array n e),[.is (.one (.pe b base j c)),.is (.one (.v (.int _ i)))] =>
  match lit,Ky i n with
  | true,true=>ret (.is (.one (.pe b (base+i.toNat*P.cellsOf e) j c)))
  | _,_=>none
 | some (.array n e),[.is (.one (.rp e' xs j off)),.is (.one (.v (.int _ i)))] =>
  match lit with
  | true=>match Ky i n with
   | true=>ret (.is (.one (.rp e' xs j (off+i.toNat*P.cellsOf e))))
   | false=>none
  | false=>match SB e' xs j off (P.cellsOf e) n i.toNat with
   | some c=>some { val:=.is (.one c),pre:=[0<=i/\i<(n:Int)] }
   | none=>none
 | some (.slice e),[.is (.one (.sl b base off len c)),.is (.one (.v (.int _ i)))] =>
  match Nat.beq c (P.cellsOf e) with
  | true=>some { val:=.is (.one (.pe b base (xt off i.toNat) c)),pre:=[0<=i/\i<(len:Int)] }
  | false=>none
 | some (.slice e),[.is (.one (.ro e' xs)),.is (.one (.v (.int _ i)))] =>
  match Nat.beq (width e') (P.cellsOf e) with
  | true=>some { val:=.is (.one (.rp e' xs i.toNat 0)),pre:=[0<=i/\i<(xs.length:Int)] }
  | false=>none
 | _,_=>none
def dV (s:ByteArray):List Int:=s.data.toList.map fun b=>(b.toNat:Int)
def IE (P:Program) (t:TypeId) (lit:Bool) (vs:List SV):Option Out :=
 match P.underlying t,vs with
 | some (.array n e),[.is (.agg cs),.is (.one (.v (.int _ i)))]=>match lit with
  | true=>match Ky i n,Bv cs (i.toNat*P.cellsOf e) (P.cellsOf e) with
   | true,some m=>match mg (bN P e) m with
    | some x=>ret (.is x)
    | none=>none
   | _,_=>none
  | false=>match cs with
   | [c]=>match iD c with
    | some ⟨e',m,xs⟩=>match Nat.beq (width e') (P.cellsOf e)&&Nat.ble n m,mg (bN P e) (cellsOf e' (xs.getD i.toNat (zeroOf e'))) with
     | true,some x=>some { val:=.is x,pre:=[0<=i/\i<(n:Int)] }
     | _,_=>none
    | none=>none
   | _=>none
 | some .string,[.is (.one (.v (.string x))),.is (.one (.v (.int _ i)))]=>some { val:=.is (.one (.v (.int .u8 ((dV x).getD i.toNat 0)))),pre:=[0<=i/\i<(x.size:Int)] }
 | _,_=>none
def ID (P:Program) (t:TypeId) (f:Nat) (vs:List SV):Option Out :=
 match pr P t f,vs with
 | some fd,[.is (.agg cs)]=>match Bv cs fd.offset (P.cellsOf fd.type) with
  | some m=>match mg (bN P fd.type) m with
   | some x=>ret (.is x)
   | none=>none
  | none=>none
 | _,_=>none
def BC (i:Nat):List SV->Option Out
 | [.tup l]=>match l[i]? with
  | some x=>ret (.is x)
  | none=>none
 | _=>none
def DJ:BinOp->Bool
 | .shl | .shr=>true
 | _=>false
def US (P:Program) (t:TypeId) (ng:Bool) (cs ds:List Cell):Option Out :=
 match kL P 20 t,A5 P 20 t with
 | true,some κ=>match eK kg κ cs,eK kg κ ds,mQ κ&&bN P t && !P.eqGuardType P.depth t&&Nat.beq (width κ) (P.cellsOf t) with
  | some (x,ps,[]),some (y,qs,[]),true=>some { val:=.is (.one (.v (.bool (bif ng then !gm κ x y else gm κ x y)))),pre:=ps++qs }
  | _,_,_=>none
 | _,_=>none
def rZ:Cell->Option Bool
 | .T=>some true
 | .F=>some false
 | .v (.bool b)=>some b
 | _=>none
def GO:Cell->Bool
 | .ptr _ _ | .pe _ _ _ _ | .rp _ _ _ _=>true
 | _=>false
def DI:Cell->Bool
 | .v (.pointer none)=>true
 | _=>false
def S7 (P:Program) (op:BinOp) (t:TypeId) (vs:List SV):Option Out :=
 match vs with
 | [.is (.one (.v (.int k a))),.is (.one (.v (.int k' b)))] =>
  match DJ op with
  | true=>match H2 op k a b with
   | some x=>some { val:=.is (.one (.v x)),pre:=[0<=b] }
   | none=>none
  | false=>match decide (k=k'),GJ op k a b with
   | true,some (x,p)=>some { val:=.is (.one (.v x)),pre:=p }
   | _,_=>none
 | [.is (.agg cs),.is (.agg ds)]=>match op with
  | .eql=>US P t false cs ds
  | .neq=>US P t true cs ds
  | _=>none
 | [.is (.one c),.is (.one d)]=>match P.underlying t with
  | some .bool=>match rZ c,rZ d,op with
   | some a,some b,.eql=>fL (.bool (a==b))
   | some a,some b,.neq=>fL (.bool (!(a==b)))
   | _,_,_=>none
  | some (.pointer _)=>match DI d with
   | true=>match GO c,op with
    | true,.eql=>ret (.is (.one .F))
    | true,.neq=>ret (.is (.one .T))
    | false,.eql=>match c with
     | .fv .pq x=>fL (.bool (!x))
     | .v (.pointer none)=>ret (.is (.one .T))
     | _=>none
    | false,.neq=>match c with
     | .fv .pq x=>fL (.bool x)
     | .v (.pointer none)=>ret (.is (.one .F))
     | _=>none
    | _,_=>none
   | false=>none
  | _=>none
 | _=>none
def xUn (op:UnOp) (vs:List SV):Option Out :=
 match op,vs with
 | .not,[.is (.one .T)]=>ret (.is (.one .F))
 | .not,[.is (.one .F)]=>ret (.is (.one .T))
 | .not,[.is (.one (.v (.bool a)))]=>fL (.bool (!a))
 | .neg,[.is (.one (.v (.int k a)))]=>fL (.int k (k.wrap (0-a)))
 | .xor,[.is (.one (.v (.int k a)))]=>fL (.int k (av .xor k (if k.signed then -1 else k.max) a))
 | _,_=>none
def FZ (n:Nat) (lo hi mx:Option Operand) (vs:List SV):Option (Int × Int × Option Int × List Prop) :=
 match lo,hi,mx,vs with
 | none,none,none,[]=>some (0,n,none,[])
 | none,some _,none,[.is (.one (.v (.int _ h)))]=>some (0,h,none,[0<=h/\h<=(n:Int)])
 | some _,none,none,[.is (.one (.v (.int _ l)))]=>some (l,n,none,[0<=l/\l<=(n:Int)])
 | some _,some _,none,[.is (.one (.v (.int _ l))),.is (.one (.v (.int _ h)))]=>some (l,h,none,[0<=l/\l<=h/\h<=(n:Int)])
 | none,some _,some _,[.is (.one (.v (.int _ h))),.is (.one (.v (.int _ m)))]=>some (0,h,some m,[0<=h/\h<=m/\m<=(n:Int)])
 | some _,some _,some _,[.is (.one (.v (.int _ l))),.is (.one (.v (.int _ h))),.is (.one (.v (.int _ m)))]=>some (l,h,some m,[0<=l/\l<=h/\h<=m/\m<=(n:Int)])
 | _,_,_,_=>none
def IG (P:Program) (t:TypeId) (lo hi mx:Option Operand) (vs:List SV) (B:bm):Option Out :=
 match P.underlying t,vs with
 | some (.array n e),.is (.one (.ptr b off))::r =>
  match B b,FZ n lo hi mx r with
  | some (c::cs),some (l,h,_,p)=>match Nat.ble (off+n*P.cellsOf e) (bR (c::cs)) with
   | true=>some { val:=.is (.one (.sl b off l.toNat (h-l).toNat (P.cellsOf e))),pre:=p }
   | false=>none
  | _,_=>none
 | some (.slice e),.is (.one (.sl b base off len c))::r =>
  match FZ len lo hi mx r,Nat.beq c (P.cellsOf e) with
  | some (l,h,_,p),true=>some { val:=.is (.one (.sl b base (xt off l.toNat) (h-l).toNat c)),pre:=p }
  | _,_=>none
 | some (.slice e),.is (.one (.ro e' xs))::r =>
  match FZ xs.length lo hi mx r,Nat.beq (width e') (P.cellsOf e) with
  | some (l,h,_,p),true=>some { val:=.is (.one (.ro e' ((xs.drop l.toNat).take (h-l).toNat))),pre:=p }
  | _,_=>none
 | _,_=>none
def S9 (P:Program) (ts:Array TypeId) (vs:List SV):Option Out :=
 match (ts[0]?).bind P.underlying,vs with
 | some (.slice _),[.is (.one (.sl _ _ _ n _))]=>fL (.int .i64 n)
 | some (.slice _),[.is (.one (.ro _ xs))]=>fL (.int .i64 xs.length)
 | some (.slice _),[.is (.one (.v (.slice none 0 0)))]=>fL (.int .i64 0)
 | some .string,[.is (.one (.v (.string s)))]=>fL (.int .i64 s.size)
 | _,_=>none
def bytesOf (P:Program) (t:TypeId):Nat:=match P.info? t with
 | some i=>i.bytes
 | none=>0
def B1 (P:Program) (e:TypeId):Option Kd :=
 match P.info? e,A5 P 20 e with
 | some { zero:=some z,.. },some κ=>match kM z.cells.toList (gE κ)&&zk κ&&Nat.beq (width κ) (P.cellsOf e)&&Nat.blt 0 (width κ) with
  | true=>some κ
  | false=>none
 | _,_=>none
def Ny (P:Program) (id:Nat) (t:TypeId) (vs:List SV):Option Out :=
 match P.underlying t,vs with
 | some (.slice e),[.is (.one (.v (.int _ l))),.is (.one (.v (.int _ c)))]=>match B1 P e with
  | some κ=>some { val:=.is (.one (.sl id 0 0 l.toNat (width κ))),new:=[(id,[ft κ c.toNat (List.replicate c.toNat (zeroOf κ))])],pre:=[0<=l/\l<=c/\(bytesOf P e:Int)*c<=281474976710656/\c<=9223372036854775807] }
  | none=>none
 | _,_=>none
def FF (B:bm) (κ:Kd):SV->Option (Nat × List (au κ) × List Prop)
 | .is (.one (.sl id base off m c))=>match B id with
  | some (d::ds)=>match re κ (d::ds) base off m c with
   | some (xs,p)=>some (m,xs,p)
   | none=>match rb (eK kg κ) (width κ) (d::ds) base off m c with
    | some (xs,p)=>some (m,xs,p)
    | none=>none
  | _=>none
 | .is (.one (.ro e xs))=>match e.eq? κ with
  | some ⟨h⟩=>some (xs.length,jq h xs,[])
  | none=>none
 | .is (.one (.v (.slice none 0 0)))=>some (0,[],[])
 | _=>none
def Er (P:Program) (id:Nat) (ts:Array TypeId) (vs:List SV) (B:bm):Option Out :=
 match ts.toList,vs with
 | [t,t'],[.is (.one d),x]=>match Nat.beq t t',P.underlying t with
  | true,some (.slice e)=>match B1 P e with
   | some κ=>match FF B κ x,d with
    | some (m,ys,p),.sl i 0 0 len c=>match B i,Nat.beq c (width κ) with
     | some [c0],true=>match iD c0 with
      | some ⟨e',n,xs⟩=>match e'.eq? κ with
       | some ⟨h⟩=>some { val:=.is (.one (.sl id 0 0 (len+m) c)),new:=[(id,[ft κ (len+m) ((jq h xs).take len++ys)])],wr:=[(i,[])],pre:=p++[len<=n,(len+m)*bytesOf P e<=140737488355328,len+m<=4611686018427387904] }
       | none=>none
      | none=>none
     | _,_=>none
    | some (m,ys,p),.v (.slice none 0 0)=>some { val:=.is (.one (.sl id 0 0 m (width κ))),new:=[(id,[ft κ m ys])],pre:=p++[m*bytesOf P e<=140737488355328,m<=4611686018427387904] }
    | _,_=>none
   | none=>none
  | _,_=>none
 | _,_=>none
def Nw (P:Program) (ts:Array TypeId) (vs:List SV) (B:bm):Option Out :=
 match ts.toList,vs with
 | [t,_],[.is (.one (.sl i base off len c)),x]=>match P.underlying t with
  | some (.slice e)=>match B i,Nat.beq c (P.cellsOf e)&&(P.info? e).isSome with
   | some (d::ds),true=>match sN (d::ds) base with
    | some (a,⟨κ,n,xs⟩,q,r)=>match FF B κ x,Nat.beq q 0&&Nat.beq c (width κ) with
     | some (m,ys,p),true=>some { val:=.is (.one (.v (.int .i64 (Nat.min m len)))),wr:=[(i,a++(ft κ n (xs.take off++(ys.take (Nat.min m len)++xs.drop (off+Nat.min m len)))::r))],pre:=p++[off+len<=n] }
     | _,_=>none
    | none=>none
   | _,_=>none
  | _=>none
 | _,_=>none
def BA (P:Program) (id:Nat) (s d:TypeId) (vs:List SV) (B:bm):Option Out :=
 match P.underlying s,P.underlying d,vs with
 | some (.int _),some (.int k),[.is (.one (.v (.int _ a)))]=>fL (.int k (k.wrap a))
 | some .string,some (.slice e),[.is (.one (.v (.string x)))]=>match P.underlying e with
  | some (.int .u8)=>some { val:=.is (.one (.sl id 0 0 x.size 1)),new:=[(id,[.ints .u8 x.size (dV x)])] }
  | _=>none
 | some (.slice _),some (.slice e),[.is (.one (.sl i base off (len+1) c))]=>match Nat.beq s d,P.underlying e,B i with
  | true,some (.int .u8),some (k::ks)=>some { val:=.is (.one (.sl i base off (len+1) c)),wr:=[(i,k::ks)] }
  | _,_,_=>none
 | _,_,_=>none
def Ta:List SV->Option Out
 | [.is (.one c)]=>match GO c with
  | true=>ret (.is (.one c))
  | false=>none
 | _=>none
def S6 (P:Program) (t:TypeId) (vs:List SV):Option Out :=
 match P.underlying t,vs with
 | some (.array n e),[.is (.one (.sl b base off len c))]=>match Nat.blt 0 n&&Nat.beq c (P.cellsOf e) with
  | true=>some { val:=.is (.one (.pe b base off c)),pre:=[n<=len] }
  | false=>none
 | some (.array n e),[.is (.one (.ro e' xs))]=>match Nat.blt 0 n&&Nat.beq (width e') (P.cellsOf e) with
  | true=>some { val:=.is (.one (.rp e' xs 0 0)),pre:=[n<=xs.length] }
  | false=>none
 | _,_=>none
def qM (P:Program) (t:TypeId):Bool:=(P.info? t).isSome&&(P.underlying t).isSome&&(bN P t||Nat.beq (P.cellsOf t) 1)
def jg (P:Program) (t:TypeId):Bool :=
 match P.underlying t with
 | some (.array _ e)=>qM P e
 | some (.slice e)=>qM P e
 | some (.struct fs)=>fs.all fun f=>qM P f.type
 | some _=>true
 | none=>false
def afv (P:Program):Op->Bool
 | .load t _=>qM P t
 | .store t _ _=>qM P t
 | .fieldAddr t _ _ | .indexAddr t _ _ | .index t _ _ | .field t _ _ | .build t _ | .buildSlice t _ _ | .slice t _ _ _ _=>jg P t
 | _=>true
def Dm:(κ:Kd)->au κ->Option (FuncId × List SV)
 | .fn f,_=>some (f,[])
 | .cap c e,x=>match Dm c x.1 with
  | some (f,l)=>some (f,l++[.is (.one (.rp e [x.2] 0 0))])
  | none=>none
 | _,_=>none
def Dp:List Nat->List SV
 | []=>[]
 | i::l=>Dp l++[.is (.one (.ptr i 0))]
def uL:List SV->List Nat->Option (List Nat)
 | [],l=>some l
 | .is (.one (.ptr i 0))::vs,l=>uL vs (i::l)
 | _,_=>none
def y5 (fn:Fn) (first:Array Operand) (vs:List SV):Option Out :=
 match fn,first.size,uL vs [] with
 | .func f,0,some []=>fL (.func (.func f) ⟨[]⟩ ⟨[]⟩)
 | .func f,0,some l=>ret (.is (.one (.ky f l)))
 | _,_,_=>none
def UR (P:Program) (sp:FuncId->Option Spec) (w0:bW) (id:Nat) (c:Call) (vs:List SV) (B:bm):Option Out :=
 match c.callee,vs with
 | .value (.func f),_::args=>match sp f with
  | some F=>F w0 id args B
  | none=>none
 | .value _,.is (.one (.v (.func (.func f) ⟨[]⟩ ⟨[]⟩)))::args=>match sp f with
  | some F=>F w0 id args B
  | none=>none
 | .value _,.is (.one (.fv κ x))::args=>match Dm κ x with
  | some (f,l)=>match sp f with
   | some F=>F w0 id (args++l) B
   | none=>none
  | none=>none
 | .value _,.is (.one (.ky f l))::args=>match sp f with
  | some F=>F w0 id (args++Dp l) B
  | none=>none
 | .builtin .len,vs=>S9 P c.argTypes vs
 | .builtin .append,vs=>Er P id c.argTypes vs B
 | .builtin .copy,vs=>Nw P c.argTypes vs B
 | .builtin .max,[.is (.one (.v (.int k a))),.is (.one (.v (.int _ b)))]=>fL (.int k (if b>a then b else a))
 | .builtin .min,[.is (.one (.v (.int k a))),.is (.one (.v (.int _ b)))]=>fL (.int k (if b<a then b else a))
 | _,_=>none
def norm (W:bW) (s:SV):SV :=
 match s with
 | .is (.one (.v (.pointer (some ⟨g,0,none⟩))))=>match W.gl g with
  | some ⟨e,x⟩=>.is (.one (.rp e [x] 0 0))
  | none=>s
 | s=>s
def BF (P:Program) (sp:FuncId->Option Spec) (w0:bW) (id:Nat) (o:Op) (vs:List SV) (B:bm):Option Out :=
 match afv P o with
 | false=>none
 | true=>match o with
 | .move _=>ua vs
 | .assign _=>ua vs
 | .pick _ _ _=>Nz vs
 | .alloc t=>IB P id t
 | .box _ _=>S8 id vs
 | .build t ps=>IC P t (ps.toList.map (·.1)) vs
 | .buildSlice t n ps=>ux P id t n (ps.toList.map (·.1)) vs
 | .load t _=>Nx P t vs B
 | .store t _ _=>IH P t vs B
 | .nilCheck _=>Ta vs
 | .fieldAddr t _ f=>w6 P t f vs
 | .indexAddr t _ i=>w7 P t (isConst i) vs
 | .index t _ i=>IE P t (isConst i) vs
 | .field t _ f=>ID P t f vs
 | .extract _ i=>BC i vs
 | .binOp op t _ _ _=>S7 P op t vs
 | .unOp op _ _=>xUn op vs
 | .convert s d _=>BA P id s d vs B
 | .sliceToArrayPointer t _=>S6 P t vs
 | .makeSlice t _ _=>Ny P id t vs
 | .slice t _ lo hi mx=>IG P t lo hi mx vs B
 | .makeFunc fn first _=>y5 fn first vs
 | .call c=>UR P sp w0 id c vs B
 | _=>none
def yZ:SV->SV
 | .is (.one (.rn e xs))=>.is (.one (.ro e xs))
 | s=>s
def IF (P:Program) (op:BinOp) (t:TypeId) (vs:List SV):Option Out :=
 match vs with
 | [.is (.one c),.is (.one (.v (.slice none 0 0)))]=>match P.underlying t,op with
  | some (.slice _),.eql=>match c with
   | .rn _ _=>ret (.is (.one .F))
   | .v (.slice none 0 0)=>ret (.is (.one .T))
   | _=>none
  | some (.slice _),.neq=>match c with
   | .rn _ _=>ret (.is (.one .T))
   | .v (.slice none 0 0)=>ret (.is (.one .F))
   | _=>none
  | _,_=>none
 | _=>none
def RN:Option Out->Option Out
 | some { val:=.is (.one (.sl i 0 0 k _)),new:=[(j,[cell])],wr:=wr,pre:=pre } =>
  match Nat.beq i j&&wr.all (fun p=>p.2.isEmpty),iD cell with
  | true,some ⟨e,_,xs⟩=>some { val:=.is (.one (.ro e xs)),new:=[],wr:=wr,pre:=(xs.length=k)::pre }
  | _,_=>none
 | _=>none
def Xt (sp:FuncId->Option Spec) (c:Call):Bool:=match c.callee,c.argTypes.toList with
 | .builtin .append,t::_=>(sp (1000000+t)).isSome
 | _,_=>false
def xop (P:Program) (sp:FuncId->Option Spec) (w0:bW) (id:Nat) (o:Op) (vs:List SV) (B:bm):Option Out :=
 match o with
 | .move _=>ua vs
 | .assign _=>ua vs
 | .call c=>match Xt sp c with
  | true=>RN (BF P sp w0 id (.call c) (vs.map fun s=>yZ (norm w0 s)) B)
  | false=>BF P sp w0 id (.call c) (vs.map fun s=>yZ (norm w0 s)) B
 | .binOp op t x y t'=>match IF P op t vs with
  | some out=>some out
  | none=>BF P sp w0 id (.binOp op t x y t') (vs.map fun s=>yZ (norm w0 s)) B
 | o=>BF P sp w0 id o (vs.map fun s=>yZ (norm w0 s)) B
end Go.Eng
