import Derived.Laws.Cells
import Derived.Laws.StructEq
import Derived.KernelRfl
import Derived.Laws.BytesArg
import Derived.Laws.MakeOwn
import Derived.Laws.IdiomStrings
import Derived.Test.YteldhmehjkhanaaGreatDoorML26qPB
set_option maxRecDepth 100000
namespace Go.Eng
open Go Go.RowKit Cr
inductive Cell where
 | v (x:Value)
 | T
 | F
 | ints (k:IntKind) (n:Nat) (xs:List Int)
 | row (e:Kd) (n:Nat) (xs:List (Car e))
 | ptr (id off:Nat)
 | pe (id base i c:Nat)
 | sl (id base off len c:Nat)
 | ro (e:Kd) (xs:List (Car e))
 | rp (e:Kd) (xs:List (Car e)) (i off:Nat)
 | fv (e:Kd) (x:Car e)
 | clo (f:Nat) (ids:List Nat)
 | rn (e:Kd) (xs:List (Car e))
 | junk
inductive TV where
 | one (c:Cell)
 | agg (cs:List Cell)
inductive SV where
 | is (x:TV)
 | tup (l:List TV)
 | undef
 | junk
structure Rho where
 m:Nat->Option Nat
 n:Nat->Nat
 M:Mem
instance : CoeFun Rho (fun _ => Nat -> Option Nat) := ⟨Rho.m⟩
def Cell.size:Cell->Nat
 | .ints _ n _=>n
 | .row e n _=>n*width e
 | _=>1
def cloCaps (ρ:Rho):List Nat->List Value->Prop
 | [],vs=>vs=[]
 | i::l,vs=>∃ b us,ρ i=some b/\cloCaps ρ l us/\vs=us++[.pointer (some ⟨b,0,none⟩)]
def Cell.rel (ρ:Rho):Cell->List Value->Prop
 | .v x,vs=>vs=[x]/\x.oneCell'=true
 | .T,vs=>vs=[.bool true]
 | .F,vs=>vs=[.bool false]
 | .ints k n xs,vs=>xs.length=n/\vs=xs.map (Value.int k)
 | .row e n xs,vs=>xs.length=n/\RdL (Rd ρ.M e) xs vs
 | .ptr id off,vs=>∃ b,ρ id=some b/\vs=[.pointer (some ⟨b,off,none⟩)]
 | .pe id base i c,vs=>∃ b,ρ id=some b/\vs=[.pointer (some ⟨b,base+i*c,none⟩)]
 | .sl id base off len c,vs=>(len=0/\vs=[.slice none 0 0]) \/
  ∃ b o cap,ρ id=some b/\len<=cap/\(o=base+off*c\/cap=0)/\o+cap*c<=ρ.n id/\vs=[.slice (some ⟨b,o,none⟩) len cap]
 | .ro e xs,vs=>Rd ρ.M (.sl e) xs vs
 | .rp e xs i off,vs=>∃ b o,RowAt (Rd ρ.M e) (width e) ρ.M b o xs/\i<xs.length/\vs=[.pointer (some ⟨b,o+(i*width e+off),none⟩)]
 | .fv e x,vs=>Rd ρ.M e x vs/\vs.length=1
 | .clo f l,vs=>∃ us,cloCaps ρ l us/\vs=[.func (.func f) ⟨[]⟩ ⟨us⟩]
 | .rn e xs,vs=>Rd ρ.M (.sl e) xs vs/\∃ a n c,vs=[.slice (some a) n c]
 | .junk,vs=>∃ x,vs=[x]/\x.oneCell'=true
def cellsRel (ρ:Rho):List Cell->List Value->Prop
 | [],vs=>vs=[]
 | c::cs,vs=>∃ v1 v2,vs=v1++v2/\c.rel ρ v1/\cellsRel ρ cs v2
def cellsSize:List Cell->Nat
 | []=>0
 | c::cs=>c.size+cellsSize cs
def TV.cells:TV->List Cell
 | .one c=>[c]
 | .agg cs=>cs
def TV.rel (ρ:Rho):TV->Value->Prop
 | .one c,v=>c.rel ρ [v]
 | .agg cs,v=>∃ l,v=.agg ⟨l⟩/\cellsRel ρ cs l
def tupRel (ρ:Rho):List TV->List Value->Prop
 | [],vs=>vs=[]
 | t::ts,vs=>∃ x xs,vs=x::xs/\t.rel ρ x/\tupRel ρ ts xs
def SV.rel (ρ:Rho):SV->Value->Prop
 | .is x,v=>x.rel ρ v
 | .tup l,v=>∃ vs,v=.tuple ⟨vs⟩/\tupRel ρ l vs
 | .undef,v=>v=Go.undef
 | .junk,_=>True
structure Rho.le (ρ ρ':Rho):Prop where
 id:∀ id b,ρ id=some b->ρ' id=some b/\ρ'.n id=ρ.n id
 mem:Mem.le ρ.M ρ'.M
theorem Mem.le_refl (M:Mem):Mem.le M M:=fun _ _ h=>h
theorem Rho.le_refl (ρ:Rho):Rho.le ρ ρ:=⟨fun _ _ h=>⟨h,rfl⟩,Mem.le_refl _⟩
theorem Rho.le_trans {a b c:Rho} (h:Rho.le a b) (k:Rho.le b c):Rho.le a c :=
 ⟨fun _ _ e=>⟨(k.id _ _ (h.id _ _ e).1).1,((k.id _ _ (h.id _ _ e).1).2).trans (h.id _ _ e).2⟩,fun _ _ e=>k.mem _ _ (h.mem _ _ e)⟩
theorem RowAt_mono {e:Kd} {M M':Mem} (h:Mem.le M M') {b o:Nat} {xs:List (Car e)} (hr:RowAt (Rd M e) (width e) M b o xs):RowAt (Rd M' e) (width e) M' b o xs:=by
 obtain⟨l,h1,h2,h3⟩:=hr
 exact⟨l,fun hn=>h _ _ (h1 hn),h2,RdL_mono (fun _ _=>Rd_mono h) h3⟩
theorem cloCaps_mono {ρ ρ':Rho} (h:Rho.le ρ ρ'):∀ {l:List Nat} {vs:List Value},cloCaps ρ l vs->cloCaps ρ' l vs:=by
 intro l
 induction l with
 | nil=>intro vs hr;exact hr
 | cons i l ih=>intro vs ⟨b,us,h1,h2,h3⟩;exact⟨b,us,(h.id _ _ h1).1,ih h2,h3⟩
theorem Cell.rel_mono {ρ ρ':Rho} (h:Rho.le ρ ρ') {c:Cell} {vs:List Value} (hr:c.rel ρ vs):c.rel ρ' vs:=by
 cases c with
 | ptr id off=>obtain⟨b,hb,e⟩:=hr;exact⟨b,(h.id _ _ hb).1,e⟩
 | pe id base i c=>obtain⟨b,hb,e⟩:=hr;exact⟨b,(h.id _ _ hb).1,e⟩
 | sl id base off len c =>
  rcases hr with hr|⟨b,o,cap,hb,h1,h2,h3,e⟩
  ·exact .inl hr
  ·exact .inr ⟨b,o,cap,(h.id _ _ hb).1,h1,h2,by rw[(h.id _ _ hb).2];exact h3,e⟩
 | row e n xs=>exact⟨hr.1,RdL_mono (fun _ _=>Rd_mono h.mem) hr.2⟩
 | ro e xs=>exact Rd_mono (e:=.sl e) h.mem hr
 | rp e xs i off=>obtain⟨b,o,h1,h2⟩:=hr;exact⟨b,o,RowAt_mono h.mem h1,h2⟩
 | fv e x=>exact⟨Rd_mono h.mem hr.1,hr.2⟩
 | clo f l=>obtain⟨us,h1,h2⟩:=hr;exact⟨us,cloCaps_mono h h1,h2⟩
 | rn e xs=>exact⟨Rd_mono (e:=.sl e) h.mem hr.1,hr.2⟩
 | v x=>exact hr
 | T=>exact hr
 | F=>exact hr
 | ints k n xs=>exact hr
 | junk=>exact hr
theorem cellsRel_mono {ρ ρ':Rho} (h:Rho.le ρ ρ') {cs:List Cell}:∀ {vs:List Value},cellsRel ρ cs vs->cellsRel ρ' cs vs:=by
 induction cs with
 | nil=>intro vs hr;exact hr
 | cons c cs ih=>intro vs hr;obtain⟨v1,v2,e,h1,h2⟩:=hr;exact⟨v1,v2,e,Cell.rel_mono h h1,ih h2⟩
theorem TV.rel_mono {ρ ρ':Rho} (h:Rho.le ρ ρ') {x:TV} {v:Value} (hr:x.rel ρ v):x.rel ρ' v:=by
 cases x with
 | one c=>exact Cell.rel_mono h hr
 | agg cs=>obtain⟨l,e,hl⟩:=hr;exact⟨l,e,cellsRel_mono h hl⟩
theorem tupRel_mono {ρ ρ':Rho} (h:Rho.le ρ ρ') {l:List TV}:∀ {vs:List Value},tupRel ρ l vs->tupRel ρ' l vs:=by
 induction l with
 | nil=>intro vs hr;exact hr
 | cons t ts ih=>intro vs hr;obtain⟨x,xs,e,h1,h2⟩:=hr;exact⟨x,xs,e,TV.rel_mono h h1,ih h2⟩
theorem SV.rel_mono {ρ ρ':Rho} (h:Rho.le ρ ρ') {x:SV} {v:Value} (hr:x.rel ρ v):x.rel ρ' v:=by
 cases x with
 | is x=>exact TV.rel_mono h hr
 | tup l=>obtain⟨vs,e,hl⟩:=hr;exact⟨vs,e,tupRel_mono h hl⟩
 | undef=>exact hr
 | junk=>trivial
theorem Cell.rel_length {ρ:Rho} {c:Cell} {vs:List Value} (hr:c.rel ρ vs):vs.length=c.size:=by
 cases c with
 | ints k n xs=>obtain⟨h1,h2⟩:=hr;subst h2;simpa[Cell.size] using h1
 | row e n xs=>obtain⟨h1,h2⟩:=hr;rw[RdL_len (fun _ _=>Rd_len) h2,h1];rfl
 | ptr id off=>obtain⟨b,hb,e⟩:=hr;subst e;rfl
 | pe id base i c=>obtain⟨b,hb,e⟩:=hr;subst e;rfl
 | sl id base off len c=>rcases hr with ⟨_,e⟩|⟨b,o,cap,hb,_,_,_,e⟩<;>(subst e;rfl)
 | ro e xs=>exact Rd_len (e:=.sl e) hr
 | rp e xs i off=>obtain⟨b,o,_,_,e⟩:=hr;subst e;rfl
 | fv e x=>exact hr.2
 | clo f l=>obtain⟨us,_,e⟩:=hr;subst e;rfl
 | rn e xs=>exact Rd_len (e:=.sl e) hr.1
 | junk=>obtain⟨x,e,_⟩:=hr;subst e;rfl
 | v x=>obtain⟨e,_⟩:=hr;subst e;rfl
 | T=>have e:vs=_:=hr;subst e;rfl
 | F=>have e:vs=_:=hr;subst e;rfl
theorem cellsRel_length {ρ:Rho} {cs:List Cell}:∀ {vs:List Value},cellsRel ρ cs vs->vs.length=cellsSize cs:=by
 induction cs with
 | nil=>intro vs hr;have e:vs=[]:=hr;subst e;rfl
 | cons c cs ih=>intro vs hr;obtain⟨v1,v2,e,h1,h2⟩:=hr;subst e;simp[Cell.rel_length h1,ih h2,cellsSize]
theorem Cell.rel_one {ρ:Rho} {c:Cell} {vs:List Value} (hr:c.rel ρ vs):∀ x∈vs,x.oneCell'=true:=by
 cases c with
 | ints k n xs =>
  obtain⟨h1,h2⟩:=hr;subst h2;intro x hx
  obtain⟨y,_,rfl⟩:=List.mem_map.1 hx;rfl
 | row e n xs=>exact RdL_all (fun _ _=>Rd_one) hr.2
 | ptr id off=>obtain⟨b,hb,e⟩:=hr;subst e;intro x hx;simp at hx;subst hx;rfl
 | pe id base i c=>obtain⟨b,hb,e⟩:=hr;subst e;intro x hx;simp at hx;subst hx;rfl
 | sl id base off len c=>rcases hr with ⟨_,e⟩|⟨b,o,cap,hb,_,_,_,e⟩<;>(subst e;intro x hx;simp at hx;subst hx;rfl)
 | ro e xs=>exact Rd_one (e:=.sl e) hr
 | rp e xs i off=>obtain⟨b,o,_,_,e⟩:=hr;subst e;intro x hx;simp at hx;subst hx;rfl
 | fv e x=>exact Rd_one hr.1
 | clo f l=>obtain⟨us,_,e⟩:=hr;subst e;intro x hx;simp at hx;subst hx;rfl
 | rn e xs=>exact Rd_one (e:=.sl e) hr.1
 | junk=>obtain⟨y,e,h⟩:=hr;subst e;intro x hx;simp at hx;subst hx;exact h
 | v y=>obtain⟨e,h⟩:=hr;subst e;intro x hx;simp at hx;subst hx;exact h
 | T=>have e:vs=_:=hr;subst e;intro x hx;simp at hx;subst hx;rfl
 | F=>have e:vs=_:=hr;subst e;intro x hx;simp at hx;subst hx;rfl
theorem cellsRel_one {ρ:Rho} {cs:List Cell}:∀ {vs:List Value},cellsRel ρ cs vs->∀ x∈vs,x.oneCell'=true:=by
 induction cs with
 | nil=>intro vs hr x hx;have e:vs=[]:=hr;subst e;cases hx
 | cons c cs ih =>
  intro vs hr x hx;obtain⟨v1,v2,e,h1,h2⟩:=hr;subst e
  rcases List.mem_append.1 hx with h|h
  ·exact Cell.rel_one h1 x h
  ·exact ih h2 x h
theorem cellsRel_append {ρ:Rho} {cs ds:List Cell}:∀ {vs us:List Value},cellsRel ρ cs vs->cellsRel ρ ds us->cellsRel ρ (cs++ds) (vs++us):=by
 induction cs with
 | nil=>intro vs us hr hs;have e:vs=[]:=hr;subst e;exact hs
 | cons c cs ih =>
  intro vs us hr hs;obtain⟨v1,v2,e,h1,h2⟩:=hr;subst e
  exact⟨v1,v2++us,by simp,h1,ih h2 hs⟩
theorem TV.rel_cells {ρ:Rho} {x:TV} {v:Value} (hr:x.rel ρ v):∃ l,v.cells=⟨l⟩/\cellsRel ρ x.cells l:=by
 cases x with
 | one c =>
  have hone:=Cell.rel_one (c:=c) hr v (by simp)
  refine⟨[v],?_,[v],[],by simp,hr,rfl⟩
  cases v<;>simp_all [Value.cells,Value.oneCell']
 | agg cs=>obtain⟨l,e,hl⟩:=hr;subst e;exact⟨l,rfl,hl⟩
def objOf:List Value->TypeId->Nat × Nat->Obj
 | [],t,_=>.map #[] t
 | v::l,t,fr=>.cells ⟨v::l⟩ t fr
theorem objOf_cells {l:List Value} (h:l≠[]) (t:TypeId) (fr:Nat × Nat):objOf l t fr=.cells ⟨l⟩ t fr:=by
 cases l with
 | nil=>exact absurd rfl h
 | cons v l=>rfl
def BlkAt (w:World) (b n:Nat) (l:List Value):Prop :=
 ∃ (rest:List Value) (el:TypeId) (fr:Nat × Nat),w.heap[b]?=some (.cells ⟨l++rest⟩ el fr)/\(l++rest).length=n/\(fr=(0,0)\/n<=fr.1)
abbrev Slots:=Nat->SV
abbrev Blks:=Nat->Option (List Cell)
structure Base where
 w:World
 ids:List (Nat × Nat)
 gl:Nat->Option (Sigma Car):=fun _=>none
 M:Mem:=fun _=>none
 num:Nat × Nat->Nat
 top:Nat
def sizeAt (w:World) (b:Nat):Nat:=match w.heap[b]? with
 | some (.cells c _ _)=>c.size
 | _=>0
def Base.own (W:Base) (b:Nat):Bool:=W.ids.any fun p=>p.2==b
def Base.mine (W:Base) (b:Nat):Prop:=W.w.heap.size<=b\/W.own b=true
structure Keeps (W:Base) (w:World):Prop where
 os:w.os=W.w.os
 tape:w.tape=W.w.tape
 output:w.output=W.w.output
 size:W.w.heap.size<=w.heap.size
 block:∀ k,k<W.w.heap.size->W.own k=false->w.heap[k]?=W.w.heap[k]?
theorem Keeps.refl (W:Base):Keeps W W.w:=⟨rfl,rfl,rfl,Nat.le_refl _,fun _ _ _=>rfl⟩
theorem Keeps.drew {W:Base} {w:World} (h:Keeps W w):Keeps W { w with drawn:=w.drawn+1 }:=⟨h.os,h.tape,h.output,h.size,h.block⟩
theorem Keeps.below {W:Base} {w:World} (h:Keeps W w) (hn:W.ids=[]):Below W.w.heap.size W.w w :=
 ⟨h.os,h.tape,h.output,h.size,fun k hk=>h.block k hk (by simp[Base.own,hn])⟩
theorem BlkAt.lt {w:World} {b n:Nat} {l:List Value} (h:BlkAt w b n l):b<w.heap.size:=by
 obtain⟨rest,el,fr,h,_⟩:=h
 rcases Nat.lt_or_ge b w.heap.size with h'|h'
 ·exact h'
 ·simp[Array.getElem?_eq_none h'] at h
theorem BlkAt.cell {w:World} {b n:Nat} {l:List Value} (h:BlkAt w b n l) {i:Nat} {x:Value} (hi:l[i]?=some x):w.cell? ⟨b,i,none⟩=some x:=by
 obtain⟨rest,el,fr,h,_⟩:=h
 simp only[World.cell?,h]
 have hl:i<l.length:=by
  rcases Nat.lt_or_ge i l.length with h'|h'
  ·exact h'
  ·simp[List.getElem?_eq_none h'] at hi
 simp[List.getElem?_append_left hl,hi]
theorem BlkAt.frozen {w:World} {b n:Nat} {l:List Value} (h:BlkAt w b n l) {i:Nat} (hi:i<n):w.frozen? ⟨b,i,none⟩=false:=by
 obtain⟨rest,el,fr,h,_,hf⟩:=h
 simp only[World.frozen?,h]
 rcases hf with rfl|hf
 ·simp
 ·simp;omega
theorem BlkAt.len {w:World} {b n:Nat} {l:List Value} (h:BlkAt w b n l):l.length<=n:=by
 obtain⟨rest,el,fr,_,h,_⟩:=h
 simp at h;omega
end Go.Eng
namespace Go.Eng
open Go Go.RowKit Cr
def zeros (n:Nat):List Int:=List.replicate n 0
structure Out where
 val:SV
 new:List (Nat × List Cell):=[]
 wr:List (Nat × List Cell):=[]
 pre:List Prop:=[]
abbrev Spec:=Base->Nat->List SV->Blks->Option Out
def addN:Nat->Nat->Nat
 | 0,n=>n
 | m+1,n=>m+1+n
theorem addN_eq (m n:Nat):addN m n=m+n:=by cases m<;>simp[addN]
abbrev RowC:=(e:Kd) × Nat × List (Car e)
def asRow:Cell->Option RowC
 | .ints k n xs=>some ⟨.int k,n,xs⟩
 | .row e n xs=>some ⟨e,n,xs⟩
 | _=>none
def mkRow:(e:Kd)->Nat->List (Car e)->Cell
 | .int k,n,xs=>.ints k n xs
 | e,n,xs=>.row e n xs
def cellsOf:(e:Kd)->Car e->List Cell
 | .int k,x=>[.v (.int k x)]
 | .bool,x=>[.v (.bool x)]
 | .str,x=>[.v (.string x)]
 | .fp,x=>[.row .fp 1 [x]]
 | .fr,x=>[.row .fr 1 [x]]
 | .pair a b,x=>cellsOf a x.1++cellsOf b x.2
 | .arr n e,xs=>[mkRow e n xs]
 | .sl e,xs=>[.ro e xs]
 | .ptr e,x=>[.rp e [x] 0 0]
 | .fn f,_=>[.v (.func (.func f) ⟨[]⟩ ⟨[]⟩)]
 | .cap c e,x=>[.fv (.cap c e) x]
 | .pq,x=>[.fv .pq x]
 | .mp,x=>[.fv .mp x]
def zeroCells:Kd->List Cell
 | .int k=>[.v (.int k 0)]
 | .bool=>[.F]
 | .str=>[.v (.string ByteArray.empty)]
 | .fp=>[.row .fp 1 [(0:Fp)]]
 | .fr=>[.row .fr 1 [(0:Fr)]]
 | .pair a b=>zeroCells a++zeroCells b
 | .arr n e=>[mkRow e n (List.replicate n (zeroOf e))]
 | .sl _=>[.v (.slice none 0 0)]
 | .fn f=>[.v (.func (.func f) ⟨[]⟩ ⟨[]⟩)]
 | _=>[.v (.pointer none)]
def splitC:List Cell->Nat->Option (List Cell × List Cell)
 | cs,0=>some ([],cs)
 | [],_+1=>none
 | c::cs,n+1=>match asRow c with
  | some ⟨e,m,xs⟩=>match Nat.blt (n+1) (m*width e) with
   | true=>match Nat.beq ((n+1)/width e*width e) (n+1) with
    | true=>some ([mkRow e ((n+1)/width e) (xs.take ((n+1)/width e))],mkRow e (m-(n+1)/width e) (xs.drop ((n+1)/width e))::cs)
    | false=>none
   | false=>match splitC cs (n+1-m*width e) with
    | some (a,b)=>some (c::a,b)
    | none=>none
  | none=>match splitC cs n with
   | some (a,b)=>some (c::a,b)
   | none=>none
def subC (cs:List Cell) (off n:Nat):Option (List Cell) :=
 match splitC cs off with
 | some (_,r)=>match splitC r n with
  | some (m,_)=>some m
  | none=>none
 | none=>none
def segF:List Cell->Nat->Option (List Cell × RowC × Nat × List Cell)
 | [],_=>none
 | c::cs,b=>match asRow c with
  | some s=>match Nat.blt b (width s.1) with
   | true=>some ([],s,b,cs)
   | false=>match Nat.blt b (s.2.1*width s.1) with
    | true=>some ([],s,b,cs)
    | false=>match segF cs (b-s.2.1*width s.1) with
     | some (a,s',q,r)=>some (c::a,s',q,r)
     | none=>none
  | none=>match b with
   | 0=>none
   | b+1=>match segF cs b with
    | some (a,s',q,r)=>some (c::a,s',q,r)
    | none=>none
def putC (cs:List Cell) (off:Nat) (new:List Cell):Option (List Cell) :=
 match splitC cs off with
 | some (a,r)=>match splitC r (cellsSize new) with
  | some (_,b)=>some (a++(new++b))
  | none=>none
 | none=>none
def castL {a b:Kd} (h:a=b) (xs:List (Car a)):List (Car b):=h▸xs
def castC {a b:Kd} (h:a=b) (x:Car a):Car b:=h▸x
def headE (e:Kd):List Cell->Option (Car e × List Cell)
 | []=>none
 | c::r=>match asRow c with
  | some ⟨e',n,xs⟩=>match e'.eq? e with
   | some ⟨h⟩=>match n with
    | 0=>none
    | 1=>some (castC h (xs.getD 0 (zeroOf e')),r)
    | m+2=>some (castC h (xs.getD 0 (zeroOf e')),mkRow e' (m+1) (xs.drop 1)::r)
   | none=>none
  | none=>none
def headP (e:Kd) (cs:List Cell):Option (Car e × List Prop × List Cell):=match headE e cs with
 | some (x,r)=>some (x,[],r)
 | none=>none
def takeInts (k:IntKind):List Cell->Nat->Option (List Int × List Cell)
 | cs,0=>some ([],cs)
 | [],_+1=>none
 | .ints k' n xs::r,m+1=>match decide (k'=k) with
  | true=>match Nat.beq n (m+1) with
   | true=>some (xs,r)
   | false=>match Nat.blt (m+1) n with
    | true=>some (xs.take (m+1),.ints k' (n-(m+1)) (xs.drop (m+1))::r)
    | false=>match takeInts k r (m+1-n) with
     | some (ys,r')=>some (xs++ys,r')
     | none=>none
  | false=>none
 | .v (.int k' x)::r,m+1=>match decide (k'=k),takeInts k r m with
  | true,some (ys,r')=>some (x::ys,r')
  | _,_=>none
 | .row .fp 1 xs::r,m+1=>match decide (k=.u64)&&Nat.beq (m+1) 6 with
  | true=>some (enc (M:=Mp) (xs.getD 0 0),r)
  | false=>none
 | .row .fr 1 xs::r,m+1=>match decide (k=.u64)&&Nat.beq (m+1) 4 with
  | true=>some (enc (M:=Mr) (xs.getD 0 0),r)
  | false=>none
 | _::_,_+1=>none
def arrInts:(e:Kd)->Nat->List Cell->Option (List (Car e) × List Cell)
 | .int k,n,cs=>takeInts k cs n
 | _,_,_=>none
def rowN (e:Kd) (n:Nat):List Cell->Option (List (Car e) × List Cell)
 | []=>none
 | c::r=>match asRow c with
  | some ⟨e',n',xs⟩=>match e'.eq? e with
   | some ⟨h⟩=>match Nat.beq n' n with
    | true=>some (castL h xs,r)
    | false=>match Nat.blt n n' with
     | true=>some (castL h (xs.take n),mkRow e' (n'-n) (xs.drop n)::r)
     | false=>none
   | none=>none
  | none=>none
def pN {α:Type} (f:List Cell->Option (α × List Prop × List Cell)):Nat->List Cell->Option (List α × List Prop × List Cell)
 | 0,cs=>some ([],[],cs)
 | n+1,cs=>match f cs with
  | some (x,p,r)=>match pN f n r with
   | some (xs,ps,r')=>some (x::xs,p++ps,r')
   | none=>none
  | none=>none
def slRow (e:Kd) (cs:List Cell) (base off len c:Nat):Option (List (Car e) × List Prop) :=
 match segF cs base with
 | some (_,⟨e',n,xs⟩,q,_)=>match e'.eq? e,Nat.beq q 0&&Nat.beq c (width e) with
  | some ⟨h⟩,true=>some (((castL h xs).drop off).take len,[off+len<=n])
  | _,_=>none
 | none=>none
def slRaw {α:Type} (f:List Cell->Option (α × List Prop × List Cell)) (w:Nat) (cs:List Cell) (base off len c:Nat):Option (List α × List Prop) :=
 match Nat.beq c w,splitC cs (base+off*c) with
 | true,some (_,r)=>match pN f len r with
  | some (xs,ps,_)=>some (xs,ps)
  | none=>none
 | _,_=>none
def pOne (B:Blks):(e:Kd)->List Cell->Option (Car e × List Prop × List Cell)
 | .int k,cs=>match cs with
  | .v (.int k' x)::r=>match decide (k'=k) with
   | true=>some (x,[],r)
   | false=>none
  | cs=>headP (.int k) cs
 | .bool,cs=>match cs with
  | .v (.bool x)::r=>some (x,[],r)
  | .T::r=>some (true,[],r)
  | .F::r=>some (false,[],r)
  | cs=>headP .bool cs
 | .str,cs=>match cs with
  | .v (.string x)::r=>some (x,[],r)
  | cs=>headP .str cs
 | .fp,cs=>match headE .fp cs with
  | some (x,r)=>some (x,[],r)
  | none=>match takeInts .u64 cs 6 with
   | some (ws,r)=>some (dec (M:=Mp) ws,[Canon Mp ws],r)
   | none=>none
 | .fr,cs=>match headE .fr cs with
  | some (x,r)=>some (x,[],r)
  | none=>match takeInts .u64 cs 4 with
   | some (ws,r)=>some (dec (M:=Mr) ws,[Canon Mr ws],r)
   | none=>none
 | .pair a b,cs=>match headE (.pair a b) cs with
  | some (x,r)=>some (x,[],r)
  | none=>match pOne B a cs with
   | some (x,p,r)=>match pOne B b r with
    | some (y,q,r')=>some ((x,y),p++q,r')
    | none=>none
   | none=>none
 | .arr n e,cs=>match headE (.arr n e) cs with
  | some (x,r)=>some (x,[],r)
  | none=>match rowN e n cs with
   | some (xs,r)=>some (xs,[],r)
   | none=>match arrInts e n cs with
    | some (xs,r)=>some (xs,[],r)
    | none=>pN (pOne B e) n cs
 | .sl e,cs=>match headE (.sl e) cs with
  | some (x,r)=>some (x,[],r)
  | none=>match cs with
   | .ro e' xs::r=>match e'.eq? e with
    | some ⟨h⟩=>some (castL h xs,[],r)
    | none=>none
   | .v (.slice none 0 0)::r=>some ([],[],r)
   | .sl id base off len c::r=>match B id with
    | some (d::ds)=>match slRow e (d::ds) base off len c with
     | some (xs,p)=>some (xs,p,r)
     | none=>match slRaw (pOne B e) (width e) (d::ds) base off len c with
      | some (xs,p)=>some (xs,p,r)
      | none=>none
    | _=>none
   | _=>none
 | .ptr e,cs=>match cs with
  | .rp e' xs i 0::r=>match e'.eq? e with
   | some ⟨h⟩=>some (castC (a:=e') (b:=e) h (xs.getD i (zeroOf e')),[],r)
   | none=>none
  | .ptr id 0::r=>match B id with
   | some (d::ds)=>match pOne B e (d::ds) with
    | some (x,p,[])=>some (x,p,r)
    | _=>none
   | _=>none
  | _=>none
 | .fn f,cs=>match cs with
  | .v (.func (.func g) ⟨[]⟩ ⟨[]⟩)::r=>match decide (g=f) with
   | true=>some ((),[],r)
   | false=>none
  | .clo g []::r=>match decide (g=f) with
   | true=>some ((),[],r)
   | false=>none
  | _=>none
 | .cap c e,cs=>match cs with
  | .fv e' x::r=>match e'.eq? (.cap c e) with
   | some ⟨h⟩=>some (castC (a:=e') (b:=.cap c e) h x,[],r)
   | none=>none
  | .clo g (i::l)::r=>match B i with
   | some (d::ds)=>match pOne B e (d::ds) with
    | some (y,q,[])=>match pOne B c [.clo g l] with
     | some (x,p,[])=>some ((x,y),p++q,r)
     | _=>none
    | _=>none
   | _=>none
  | _=>none
 | .pq,cs=>match cs with
  | .fv .pq x::r=>some (x,[],r)
  | .ptr _ _::r=>some (true,[],r)
  | .pe _ _ _ _::r=>some (true,[],r)
  | .rp _ _ _ _::r=>some (true,[],r)
  | .v (.pointer none)::r=>some (false,[],r)
  | _=>none
 | .mp,cs=>match cs with
  | .fv .mp x::r=>some (x,[],r)
  | _=>none
def noB:Blks:=fun _=>none
def isAggT (P:Program) (t:TypeId):Bool :=
 match P.underlying t with
 | some (.struct _)|some (.array _ _)=>true
 | _=>false
def ofCell:Value->Cell
 | .bool true=>.T
 | .bool false=>.F
 | x=>.v x
def zeroC (P:Program) (t:TypeId):Option (List Cell) :=
 match P.info? t with
 | some { zero:=some z,.. }=>match kdOf P 20 t with
  | some κ=>match isZeroVals z.cells.toList (zeroVals κ)&&zk κ with
   | true=>some (zeroCells κ)
   | false=>none
  | none=>match z.cells.toList.all (·.oneCell') with
   | true=>some (z.cells.toList.map ofCell)
   | false=>none
 | _=>none
def ofCells (agg:Bool) (cs:List Cell):Option TV :=
 match agg with
 | true=>some (.agg cs)
 | false=>match cs with
  | [c]=>match asRow c with
   | some ⟨e,_,xs⟩=>match cellsOf e (xs.getD 0 (zeroOf e)) with
    | [c']=>some (.one c')
    | _=>none
   | none=>some (.one c)
  | _=>none
def bitOp (op:BinOp) (k:IntKind) (x y:Int):Int :=
 let a:=BitVec.ofInt k.bits x
 let b:=BitVec.ofInt k.bits y
 match op with
 | .and=>k.wrap (a &&& b).toNat
 | .or=>k.wrap (a ||| b).toNat
 | .xor=>k.wrap (a ^^^ b).toNat
 | _=>k.wrap (a &&& ~~~b).toNat
def intBin (op:BinOp) (k:IntKind) (a b:Int):Option (Value × List Prop) :=
 match op with
 | .add=>some (.int k (k.wrap (a+b)),[])
 | .sub=>some (.int k (k.wrap (a-b)),[])
 | .mul=>some (.int k (k.wrap (a*b)),[])
 | .quo=>some (.int k (k.wrap (a.tdiv b)),[b≠0])
 | .rem=>some (.int k (a.tmod b),[b≠0])
 | .and=>some (.int k (bitOp .and k a b),[])
 | .or=>some (.int k (bitOp .or k a b),[])
 | .xor=>some (.int k (bitOp .xor k a b),[])
 | .andNot=>some (.int k (bitOp .andNot k a b),[])
 | .eql=>some (.bool (a==b),[])
 | .neq=>some (.bool (a != b),[])
 | .lss=>some (.bool (decide (a<b)),[])
 | .leq=>some (.bool (decide (a<=b)),[])
 | .gtr=>some (.bool (decide (a>b)),[])
 | .geq=>some (.bool (decide (a>=b)),[])
 | _=>none
def shiftV (op:BinOp) (k:IntKind) (a b:Int):Option Value :=
 match op with
 | .shl=>some (.int k (k.wrap (a*2^(min b.toNat k.bits))))
 | .shr=>some (.int k (a.fdiv (2^(min b.toNat k.bits))))
 | _=>none
def fieldsOk (P:Program) (sh:TypeId->Bool):Nat->Nat->List Field->Bool
 | o,n,[]=>Nat.beq o n
 | o, n, f :: fs => f.name != "_" && sh f.type && Nat.beq f.offset o && fieldsOk P sh (o + P.cellsOf f.type) n fs
def intShape (P:Program):Nat->TypeId->Bool
 | 0,_=>false
 | d+1,t=>match P.underlying t with
  | some (.int _)=>Nat.beq (P.cellsOf t) 1
  | some (.array n e)=>match Nat.beq (P.cellsOf t) (n*P.cellsOf e) with
   | true=>intShape P d e
   | false=>false
  | some (.struct fs)=>fieldsOk P (intShape P d) 0 (P.cellsOf t) fs.toList && !P.stoodInHeld t
  | _=>false
def ltN (i:Int) (n:Nat):Bool:=match i with
 | .ofNat m=>Nat.blt m n
 | _=>false
def ret (x:SV):Option Out:=some { val:=x }
def retV (x:Value):Option Out:=some { val:=.is (.one (.v x)) }
def fieldOf (P:Program) (t:TypeId) (f:Nat):Option Field :=
 match P.underlying t with
 | some (.struct fs)=>fs[f]?
 | _=>none
def fillC (place:Nat->Option (Nat × Nat)):List Cell->List (Nat × SV)->Option (List Cell)
 | cs,[]=>some cs
 | cs,(i,.is x)::r=>match place i with
  | some (off,sz)=>match Nat.beq (cellsSize x.cells) sz with
   | true=>match putC cs off x.cells with
    | some cs'=>fillC place cs' r
    | none=>none
   | false=>none
  | none=>none
 | _,_=>none
def litPlace (P:Program) (t:TypeId):Nat->Option (Nat × Nat) :=
 match P.underlying t with
 | some (.struct fs)=>fun i=>match fs[i]? with
  | some f=>some (f.offset,P.cellsOf f.type)
  | none=>none
 | some (.array _ e)=>fun i=>some (i*P.cellsOf e,P.cellsOf e)
 | _=>fun _=>none
def xMove:List SV->Option Out
 | [x]=>ret x
 | _=>none
def xPick:List SV->Option Out
 | [.is (.one .T),x,_]=>ret x
 | [.is (.one .F),_,y]=>ret y
 | [.is (.one (.v (.bool c))),.is (.one (.v (.bool x))),.is (.one (.v (.bool y)))]=>retV (.bool (bif c then x else y))
 | _=>none
def xAlloc (P:Program) (id:Nat) (t:TypeId):Option Out :=
 match zeroC P t with
 | some cs=>some { val:=.is (.one (.ptr id 0)),new:=[(id,cs)] }
 | none=>none
def xBox (id:Nat):List SV->Option Out
 | [.is x]=>some { val:=.is (.one (.ptr id 0)),new:=[(id,x.cells)] }
 | _=>none
def rep {α:Type}:Nat->List α->List α
 | 0,_=>[]
 | n+1,l=>l++rep n l
def canonN (P:Program) (e:TypeId) (n:Nat) (cs:List Cell):List Cell × List Prop :=
 match kdOf P 20 e with
 | some κ=>match pN (pOne noB κ) n cs with
  | some (xs,ps,[])=>([mkRow κ n xs],ps)
  | _=>(cs,[])
 | none=>(cs,[])
def canonA (P:Program) (t:TypeId) (cs:List Cell):List Cell × List Prop :=
 match P.underlying t with
 | some (.array n e)=>canonN P e n cs
 | _=>(cs,[])
def xBuild (P:Program) (t:TypeId) (ps:List Nat) (vs:List SV):Option Out :=
 match isAggT P t,Nat.beq ps.length vs.length,zeroC P t with
 | true,true,some cs=>match fillC (litPlace P t) cs (ps.zip vs) with
  | some cs'=>some { val:=.is (.agg (canonA P t cs').1),pre:=(canonA P t cs').2 }
  | none=>none
 | _,_,_=>none
def xBuildSlice (P:Program) (id:Nat) (t:TypeId) (len:Nat) (ps:List Nat) (vs:List SV):Option Out :=
 match P.underlying t,Nat.beq ps.length vs.length with
 | some (.slice e),true=>match zeroC P e,Nat.blt (len*P.cellsOf e) 16777217&&Nat.blt 0 (P.cellsOf e)&&Nat.beq (cellsSize ((zeroC P e).getD [])) (P.cellsOf e) with
  | some cs,true=>match fillC (fun i=>some (i*P.cellsOf e,P.cellsOf e)) (rep len cs) (ps.zip vs) with
   | some cs'=>match (canonN P e len cs').1 with
    | []=>none
    | d::ds=>some { val:=.is (.one (.sl id 0 0 len (P.cellsOf e))),new:=[(id,d::ds)],pre:=(canonN P e len cs').2 }
   | none=>none
  | _,_=>none
 | _,_=>none
def elemLoad (e:Kd) (n:Nat) (xs:List (Car e)) (j q sz:Nat) (ag:Bool):Option (TV × List Prop) :=
 match Nat.ble (q+sz) (width e) with
 | true=>match subC (cellsOf e (xs.getD j (zeroOf e))) q sz with
  | some m=>match ofCells ag m with
   | some x=>some (x,[j<n])
   | none=>none
  | none=>none
 | false=>match Nat.beq q 0&&ag&&Nat.beq (sz/width e*width e) sz with
  | true=>some (.agg [mkRow e (sz/width e) ((xs.drop j).take (sz/width e))],[j+sz/width e<=n])
  | false=>none
def elemStore (e:Kd) (n:Nat) (xs:List (Car e)) (j q:Nat) (new:List Cell):Option (List (Car e) × List Prop) :=
 match putC (cellsOf e (xs.getD j (zeroOf e))) q new with
 | some cs=>match pOne noB e cs with
  | some (y,ps,[])=>some (xs.set j y,(j<n)::ps)
  | _=>none
 | none=>none
def loadIn (P:Program) (t:TypeId) (cs:List Cell) (base i c:Nat):Option Out :=
 match segF cs base with
 | some (_,⟨e,n,xs⟩,q,_)=>match Nat.beq c (width e) with
  | true=>match elemLoad e n xs (addN (q/c) i) (q%c) (P.cellsOf t) (isAggT P t) with
   | some (x,p)=>some { val:=.is x,pre:=p }
   | none=>none
  | false=>none
 | none=>none
def storeIn (b:Nat) (cs:List Cell) (base i c:Nat) (new:List Cell):Option Out :=
 match segF cs base with
 | some (a,⟨e,n,xs⟩,q,r)=>match Nat.beq c (width e) with
  | true=>match elemStore e n xs (addN (q/c) i) (q%c) new with
   | some (ys,p)=>some { val:=.undef,wr:=[(b,a++(mkRow e n ys::r))],pre:=p }
   | none=>none
  | false=>none
 | none=>none
def segW (cs:List Cell) (base:Nat):Nat:=match segF cs base with
 | some (_,s,_,_)=>width s.1
 | none=>0
def xLoad (P:Program) (t:TypeId) (vs:List SV) (B:Blks):Option Out :=
 match vs with
 | [.is (.one (.ptr b off))]=>match B b with
  | some (c::cs)=>match subC (c::cs) off (P.cellsOf t) with
   | some m=>match ofCells (isAggT P t) m with
    | some x=>ret (.is x)
    | none=>none
   | none=>loadIn P t (c::cs) off 0 (segW (c::cs) off)
  | _=>none
 | [.is (.one (.pe b base i c))]=>match B b with
  | some (d::ds)=>loadIn P t (d::ds) base i c
  | _=>none
 | [.is (.one (.rp e xs i off))]=>match elemLoad e xs.length xs (addN (off/width e) i) (off%width e) (P.cellsOf t) (isAggT P t) with
  | some (x,p)=>some { val:=.is x,pre:=p }
  | none=>none
 | _=>none
def inRow (cs:List Cell) (off:Nat):Bool:=match segF cs off with
 | some (_,s,_,_)=>Nat.blt 1 s.2.1
 | none=>false
def storePut (b:Nat) (cs:List Cell) (off:Nat) (new:List Cell):Option Out :=
 match putC cs off new with
 | some cs'=>some { val:=.undef,wr:=[(b,cs')] }
 | none=>none
def storePtr (b:Nat) (cs:List Cell) (off:Nat) (new:List Cell):Option Out :=
 match inRow cs off with
 | true=>match storeIn b cs off 0 (segW cs off) new with
  | some o=>some o
  | none=>storePut b cs off new
 | false=>match storePut b cs off new with
  | some o=>some o
  | none=>storeIn b cs off 0 (segW cs off) new
def xStore (P:Program) (t:TypeId) (vs:List SV) (B:Blks):Option Out :=
 match vs with
 | [.is (.one (.ptr b off)),.is x]=>match B b,Nat.beq (cellsSize x.cells) (P.cellsOf t) with
  | some (c::cs),true=>storePtr b (c::cs) off x.cells
  | _,_=>none
 | [.is (.one (.pe b base i c)),.is x]=>match B b,Nat.beq (cellsSize x.cells) (P.cellsOf t) with
  | some (d::ds),true=>storeIn b (d::ds) base i c x.cells
  | _,_=>none
 | _=>none
def xFieldAddr (P:Program) (t:TypeId) (f:Nat) (vs:List SV):Option Out :=
 match fieldOf P t f with
 | some fd=>match Nat.beq (P.cellsOf fd.type) 0,vs with
  | false,[.is (.one (.ptr b off))]=>ret (.is (.one (.ptr b (off+fd.offset))))
  | false,[.is (.one (.pe b base i c))]=>ret (.is (.one (.pe b (base+fd.offset) i c)))
  | false,[.is (.one (.rp e xs i off))]=>ret (.is (.one (.rp e xs i (off+fd.offset))))
  | _,_=>none
 | none=>none
def isConst:Operand->Bool
 | .const _=>true
 | _=>false
def rpIn:(e:Kd)->List (Car e)->Nat->Nat->Nat->Nat->Nat->Option Cell
 | .arr m e',xs,i,off,c,n,j=>match Nat.beq off 0&&Nat.beq (width e') c&&Nat.ble n m with
  | true=>some (.rp e' (xs.getD i []) j 0)
  | false=>none
 | _,_,_,_,_,_,_=>none
def xIndexAddr (P:Program) (t:TypeId) (lit:Bool) (vs:List SV):Option Out :=
 match P.underlying t,vs with
 | some (.array n e),[.is (.one (.ptr b off)),.is (.one (.v (.int _ i)))] =>
  match lit with
  | true=>match ltN i n with
   | true=>ret (.is (.one (.ptr b (off+i.toNat*P.cellsOf e))))
   | false=>none
  | false=>some { val:=.is (.one (.pe b off i.toNat (P.cellsOf e))),pre:=[0<=i/\i<(n:Int)] }
 | some (.array n e),[.is (.one (.pe b base j c)),.is (.one (.v (.int _ i)))] =>
  match lit,ltN i n with
  | true,true=>ret (.is (.one (.pe b (base+i.toNat*P.cellsOf e) j c)))
  | _,_=>none
 | some (.array n e),[.is (.one (.rp e' xs j off)),.is (.one (.v (.int _ i)))] =>
  match lit with
  | true=>match ltN i n with
   | true=>ret (.is (.one (.rp e' xs j (off+i.toNat*P.cellsOf e))))
   | false=>none
  | false=>match rpIn e' xs j off (P.cellsOf e) n i.toNat with
   | some c=>some { val:=.is (.one c),pre:=[0<=i/\i<(n:Int)] }
   | none=>none
 | some (.slice e),[.is (.one (.sl b base off len c)),.is (.one (.v (.int _ i)))] =>
  match Nat.beq c (P.cellsOf e) with
  | true=>some { val:=.is (.one (.pe b base (addN off i.toNat) c)),pre:=[0<=i/\i<(len:Int)] }
  | false=>none
 | some (.slice e),[.is (.one (.ro e' xs)),.is (.one (.v (.int _ i)))] =>
  match Nat.beq (width e') (P.cellsOf e) with
  | true=>some { val:=.is (.one (.rp e' xs i.toNat 0)),pre:=[0<=i/\i<(xs.length:Int)] }
  | false=>none
 | _,_=>none
def sbytes (s:ByteArray):List Int:=s.data.toList.map fun b=>(b.toNat:Int)
def xIndex (P:Program) (t:TypeId) (lit:Bool) (vs:List SV):Option Out :=
 match P.underlying t,vs with
 | some (.array n e),[.is (.agg cs),.is (.one (.v (.int _ i)))]=>match lit with
  | true=>match ltN i n,subC cs (i.toNat*P.cellsOf e) (P.cellsOf e) with
   | true,some m=>match ofCells (isAggT P e) m with
    | some x=>ret (.is x)
    | none=>none
   | _,_=>none
  | false=>match cs with
   | [c]=>match asRow c with
    | some ⟨e',m,xs⟩=>match Nat.beq (width e') (P.cellsOf e)&&Nat.ble n m,ofCells (isAggT P e) (cellsOf e' (xs.getD i.toNat (zeroOf e'))) with
     | true,some x=>some { val:=.is x,pre:=[0<=i/\i<(n:Int)] }
     | _,_=>none
    | none=>none
   | _=>none
 | some .string,[.is (.one (.v (.string x))),.is (.one (.v (.int _ i)))]=>some { val:=.is (.one (.v (.int .u8 ((sbytes x).getD i.toNat 0)))),pre:=[0<=i/\i<(x.size:Int)] }
 | _,_=>none
def xField (P:Program) (t:TypeId) (f:Nat) (vs:List SV):Option Out :=
 match fieldOf P t f,vs with
 | some fd,[.is (.agg cs)]=>match subC cs fd.offset (P.cellsOf fd.type) with
  | some m=>match ofCells (isAggT P fd.type) m with
   | some x=>ret (.is x)
   | none=>none
  | none=>none
 | _,_=>none
def xExtract (i:Nat):List SV->Option Out
 | [.tup l]=>match l[i]? with
  | some x=>ret (.is x)
  | none=>none
 | _=>none
def isShift:BinOp->Bool
 | .shl | .shr=>true
 | _=>false
def xEq (P:Program) (t:TypeId) (ng:Bool) (cs ds:List Cell):Option Out :=
 match intShape P 20 t,kdOf P 20 t with
 | true,some κ=>match pOne noB κ cs,pOne noB κ ds,flatK κ&&isAggT P t && !P.eqGuardType P.depth t&&Nat.beq (width κ) (P.cellsOf t) with
  | some (x,ps,[]),some (y,qs,[]),true=>some { val:=.is (.one (.v (.bool (bif ng then !eqC κ x y else eqC κ x y)))),pre:=ps++qs }
  | _,_,_=>none
 | _,_=>none
def boolOf:Cell->Option Bool
 | .T=>some true
 | .F=>some false
 | .v (.bool b)=>some b
 | _=>none
def isPt:Cell->Bool
 | .ptr _ _ | .pe _ _ _ _ | .rp _ _ _ _=>true
 | _=>false
def isNilPt:Cell->Bool
 | .v (.pointer none)=>true
 | _=>false
def xBin (P:Program) (op:BinOp) (t:TypeId) (vs:List SV):Option Out :=
 match vs with
 | [.is (.one (.v (.int k a))),.is (.one (.v (.int k' b)))] =>
  match isShift op with
  | true=>match shiftV op k a b with
   | some x=>some { val:=.is (.one (.v x)),pre:=[0<=b] }
   | none=>none
  | false=>match decide (k=k'),intBin op k a b with
   | true,some (x,p)=>some { val:=.is (.one (.v x)),pre:=p }
   | _,_=>none
 | [.is (.agg cs),.is (.agg ds)]=>match op with
  | .eql=>xEq P t false cs ds
  | .neq=>xEq P t true cs ds
  | _=>none
 | [.is (.one c),.is (.one d)]=>match P.underlying t with
  | some .bool=>match boolOf c,boolOf d,op with
   | some a,some b,.eql=>retV (.bool (a==b))
   | some a,some b,.neq=>retV (.bool (!(a==b)))
   | _,_,_=>none
  | some (.pointer _)=>match isNilPt d with
   | true=>match isPt c,op with
    | true,.eql=>ret (.is (.one .F))
    | true,.neq=>ret (.is (.one .T))
    | false,.eql=>match c with
     | .fv .pq x=>retV (.bool (!x))
     | .v (.pointer none)=>ret (.is (.one .T))
     | _=>none
    | false,.neq=>match c with
     | .fv .pq x=>retV (.bool x)
     | .v (.pointer none)=>ret (.is (.one .F))
     | _=>none
    | _,_=>none
   | false=>none
  | _=>none
 | _=>none
def xUn (op:UnOp) (vs:List SV):Option Out :=
 match op,vs with
 | .not,[.is (.one .T)]=>ret (.is (.one .F))
 | .not,[.is (.one .F)]=>ret (.is (.one .T))
 | .not,[.is (.one (.v (.bool a)))]=>retV (.bool (!a))
 | .neg,[.is (.one (.v (.int k a)))]=>retV (.int k (k.wrap (0-a)))
 | .xor,[.is (.one (.v (.int k a)))]=>retV (.int k (bitOp .xor k (if k.signed then -1 else k.max) a))
 | _,_=>none
def bnds (n:Nat) (lo hi mx:Option Operand) (vs:List SV):Option (Int × Int × Option Int × List Prop) :=
 match lo,hi,mx,vs with
 | none,none,none,[]=>some (0,n,none,[])
 | none,some _,none,[.is (.one (.v (.int _ h)))]=>some (0,h,none,[0<=h/\h<=(n:Int)])
 | some _,none,none,[.is (.one (.v (.int _ l)))]=>some (l,n,none,[0<=l/\l<=(n:Int)])
 | some _,some _,none,[.is (.one (.v (.int _ l))),.is (.one (.v (.int _ h)))]=>some (l,h,none,[0<=l/\l<=h/\h<=(n:Int)])
 | none,some _,some _,[.is (.one (.v (.int _ h))),.is (.one (.v (.int _ m)))]=>some (0,h,some m,[0<=h/\h<=m/\m<=(n:Int)])
 | some _,some _,some _,[.is (.one (.v (.int _ l))),.is (.one (.v (.int _ h))),.is (.one (.v (.int _ m)))]=>some (l,h,some m,[0<=l/\l<=h/\h<=m/\m<=(n:Int)])
 | _,_,_,_=>none
def xSlice (P:Program) (t:TypeId) (lo hi mx:Option Operand) (vs:List SV) (B:Blks):Option Out :=
 match P.underlying t,vs with
 | some (.array n e),.is (.one (.ptr b off))::r =>
  match B b,bnds n lo hi mx r with
  | some (c::cs),some (l,h,_,p)=>match Nat.ble (off+n*P.cellsOf e) (cellsSize (c::cs)) with
   | true=>some { val:=.is (.one (.sl b off l.toNat (h-l).toNat (P.cellsOf e))),pre:=p }
   | false=>none
  | _,_=>none
 | some (.slice e),.is (.one (.sl b base off len c))::r =>
  match bnds len lo hi mx r,Nat.beq c (P.cellsOf e) with
  | some (l,h,_,p),true=>some { val:=.is (.one (.sl b base (addN off l.toNat) (h-l).toNat c)),pre:=p }
  | _,_=>none
 | some (.slice e),.is (.one (.ro e' xs))::r =>
  match bnds xs.length lo hi mx r,Nat.beq (width e') (P.cellsOf e) with
  | some (l,h,_,p),true=>some { val:=.is (.one (.ro e' ((xs.drop l.toNat).take (h-l).toNat))),pre:=p }
  | _,_=>none
 | _,_=>none
def xLen (P:Program) (ts:Array TypeId) (vs:List SV):Option Out :=
 match (ts[0]?).bind P.underlying,vs with
 | some (.slice _),[.is (.one (.sl _ _ _ n _))]=>retV (.int .i64 n)
 | some (.slice _),[.is (.one (.ro _ xs))]=>retV (.int .i64 xs.length)
 | some (.slice _),[.is (.one (.v (.slice none 0 0)))]=>retV (.int .i64 0)
 | some .string,[.is (.one (.v (.string s)))]=>retV (.int .i64 s.size)
 | _,_=>none
def bytesOf (P:Program) (t:TypeId):Nat:=match P.info? t with
 | some i=>i.bytes
 | none=>0
def elemKd (P:Program) (e:TypeId):Option Kd :=
 match P.info? e,kdOf P 20 e with
 | some { zero:=some z,.. },some κ=>match isZeroVals z.cells.toList (zeroVals κ)&&zk κ&&Nat.beq (width κ) (P.cellsOf e)&&Nat.blt 0 (width κ) with
  | true=>some κ
  | false=>none
 | _,_=>none
def xMake (P:Program) (id:Nat) (t:TypeId) (vs:List SV):Option Out :=
 match P.underlying t,vs with
 | some (.slice e),[.is (.one (.v (.int _ l))),.is (.one (.v (.int _ c)))]=>match elemKd P e with
  | some κ=>some { val:=.is (.one (.sl id 0 0 l.toNat (width κ))),new:=[(id,[mkRow κ c.toNat (List.replicate c.toNat (zeroOf κ))])],pre:=[0<=l/\l<=c/\(bytesOf P e:Int)*c<=281474976710656/\c<=9223372036854775807] }
  | none=>none
 | _,_=>none
def srcOf (B:Blks) (κ:Kd):SV->Option (Nat × List (Car κ) × List Prop)
 | .is (.one (.sl id base off m c))=>match B id with
  | some (d::ds)=>match slRow κ (d::ds) base off m c with
   | some (xs,p)=>some (m,xs,p)
   | none=>match slRaw (pOne noB κ) (width κ) (d::ds) base off m c with
    | some (xs,p)=>some (m,xs,p)
    | none=>none
  | _=>none
 | .is (.one (.ro e xs))=>match e.eq? κ with
  | some ⟨h⟩=>some (xs.length,castL h xs,[])
  | none=>none
 | .is (.one (.v (.slice none 0 0)))=>some (0,[],[])
 | _=>none
def xAppend (P:Program) (id:Nat) (ts:Array TypeId) (vs:List SV) (B:Blks):Option Out :=
 match ts.toList,vs with
 | [t,t'],[.is (.one d),x]=>match Nat.beq t t',P.underlying t with
  | true,some (.slice e)=>match elemKd P e with
   | some κ=>match srcOf B κ x,d with
    | some (m,ys,p),.sl i 0 0 len c=>match B i,Nat.beq c (width κ) with
     | some [c0],true=>match asRow c0 with
      | some ⟨e',n,xs⟩=>match e'.eq? κ with
       | some ⟨h⟩=>some { val:=.is (.one (.sl id 0 0 (len+m) c)),new:=[(id,[mkRow κ (len+m) ((castL h xs).take len++ys)])],wr:=[(i,[])],pre:=p++[len<=n,(len+m)*bytesOf P e<=140737488355328,len+m<=4611686018427387904] }
       | none=>none
      | none=>none
     | _,_=>none
    | some (m,ys,p),.v (.slice none 0 0)=>some { val:=.is (.one (.sl id 0 0 m (width κ))),new:=[(id,[mkRow κ m ys])],pre:=p++[m*bytesOf P e<=140737488355328,m<=4611686018427387904] }
    | _,_=>none
   | none=>none
  | _,_=>none
 | _,_=>none
def xCopy (P:Program) (ts:Array TypeId) (vs:List SV) (B:Blks):Option Out :=
 match ts.toList,vs with
 | [t,_],[.is (.one (.sl i base off len c)),x]=>match P.underlying t with
  | some (.slice e)=>match B i,Nat.beq c (P.cellsOf e)&&(P.info? e).isSome with
   | some (d::ds),true=>match segF (d::ds) base with
    | some (a,⟨κ,n,xs⟩,q,r)=>match srcOf B κ x,Nat.beq q 0&&Nat.beq c (width κ) with
     | some (m,ys,p),true=>some { val:=.is (.one (.v (.int .i64 (Nat.min m len)))),wr:=[(i,a++(mkRow κ n (xs.take off++(ys.take (Nat.min m len)++xs.drop (off+Nat.min m len)))::r))],pre:=p++[off+len<=n] }
     | _,_=>none
    | none=>none
   | _,_=>none
  | _=>none
 | _,_=>none
def xConvert (P:Program) (id:Nat) (s d:TypeId) (vs:List SV) (B:Blks):Option Out :=
 match P.underlying s,P.underlying d,vs with
 | some (.int _),some (.int k),[.is (.one (.v (.int _ a)))]=>retV (.int k (k.wrap a))
 | some .string,some (.slice e),[.is (.one (.v (.string x)))]=>match P.underlying e with
  | some (.int .u8)=>some { val:=.is (.one (.sl id 0 0 x.size 1)),new:=[(id,[.ints .u8 x.size (sbytes x)])] }
  | _=>none
 | some (.slice _),some (.slice e),[.is (.one (.sl i base off (len+1) c))]=>match Nat.beq s d,P.underlying e,B i with
  | true,some (.int .u8),some (k::ks)=>some { val:=.is (.one (.sl i base off (len+1) c)),wr:=[(i,k::ks)] }
  | _,_,_=>none
 | _,_,_=>none
def xNil:List SV->Option Out
 | [.is (.one c)]=>match isPt c with
  | true=>ret (.is (.one c))
  | false=>none
 | _=>none
def xArr (P:Program) (t:TypeId) (vs:List SV):Option Out :=
 match P.underlying t,vs with
 | some (.array n e),[.is (.one (.sl b base off len c))]=>match Nat.blt 0 n&&Nat.beq c (P.cellsOf e) with
  | true=>some { val:=.is (.one (.pe b base off c)),pre:=[n<=len] }
  | false=>none
 | some (.array n e),[.is (.one (.ro e' xs))]=>match Nat.blt 0 n&&Nat.beq (width e') (P.cellsOf e) with
  | true=>some { val:=.is (.one (.rp e' xs 0 0)),pre:=[n<=xs.length] }
  | false=>none
 | _,_=>none
def typeOk (P:Program) (t:TypeId):Bool:=(P.info? t).isSome&&(P.underlying t).isSome&&(isAggT P t||Nat.beq (P.cellsOf t) 1)
def elemsOk (P:Program) (t:TypeId):Bool :=
 match P.underlying t with
 | some (.array _ e)=>typeOk P e
 | some (.slice e)=>typeOk P e
 | some (.struct fs)=>fs.all fun f=>typeOk P f.type
 | some _=>true
 | none=>false
def opOk (P:Program):Op->Bool
 | .load t _=>typeOk P t
 | .store t _ _=>typeOk P t
 | .fieldAddr t _ _ | .indexAddr t _ _ | .index t _ _ | .field t _ _ | .build t _ | .buildSlice t _ _ | .slice t _ _ _ _=>elemsOk P t
 | _=>true
def capF:(κ:Kd)->Car κ->Option (FuncId × List SV)
 | .fn f,_=>some (f,[])
 | .cap c e,x=>match capF c x.1 with
  | some (f,l)=>some (f,l++[.is (.one (.rp e [x.2] 0 0))])
  | none=>none
 | _,_=>none
def cloArgs:List Nat->List SV
 | []=>[]
 | i::l=>cloArgs l++[.is (.one (.ptr i 0))]
def capIds:List SV->List Nat->Option (List Nat)
 | [],l=>some l
 | .is (.one (.ptr i 0))::vs,l=>capIds vs (i::l)
 | _,_=>none
def xMakeFunc (fn:Fn) (first:Array Operand) (vs:List SV):Option Out :=
 match fn,first.size,capIds vs [] with
 | .func f,0,some []=>retV (.func (.func f) ⟨[]⟩ ⟨[]⟩)
 | .func f,0,some l=>ret (.is (.one (.clo f l)))
 | _,_,_=>none
def xCall (P:Program) (sp:FuncId->Option Spec) (w0:Base) (id:Nat) (c:Call) (vs:List SV) (B:Blks):Option Out :=
 match c.callee,vs with
 | .value (.func f),_::args=>match sp f with
  | some F=>F w0 id args B
  | none=>none
 | .value _,.is (.one (.v (.func (.func f) ⟨[]⟩ ⟨[]⟩)))::args=>match sp f with
  | some F=>F w0 id args B
  | none=>none
 | .value _,.is (.one (.fv κ x))::args=>match capF κ x with
  | some (f,l)=>match sp f with
   | some F=>F w0 id (args++l) B
   | none=>none
  | none=>none
 | .value _,.is (.one (.clo f l))::args=>match sp f with
  | some F=>F w0 id (args++cloArgs l) B
  | none=>none
 | .builtin .len,vs=>xLen P c.argTypes vs
 | .builtin .append,vs=>xAppend P id c.argTypes vs B
 | .builtin .copy,vs=>xCopy P c.argTypes vs B
 | .builtin .max,[.is (.one (.v (.int k a))),.is (.one (.v (.int _ b)))]=>retV (.int k (if b>a then b else a))
 | .builtin .min,[.is (.one (.v (.int k a))),.is (.one (.v (.int _ b)))]=>retV (.int k (if b<a then b else a))
 | _,_=>none
def norm (W:Base) (s:SV):SV :=
 match s with
 | .is (.one (.v (.pointer (some ⟨g,0,none⟩))))=>match W.gl g with
  | some ⟨e,x⟩=>.is (.one (.rp e [x] 0 0))
  | none=>s
 | s=>s
def xop1 (P:Program) (sp:FuncId->Option Spec) (w0:Base) (id:Nat) (o:Op) (vs:List SV) (B:Blks):Option Out :=
 match opOk P o with
 | false=>none
 | true=>match o with
 | .move _=>xMove vs
 | .assign _=>xMove vs
 | .pick _ _ _=>xPick vs
 | .alloc t=>xAlloc P id t
 | .box _ _=>xBox id vs
 | .build t ps=>xBuild P t (ps.toList.map (·.1)) vs
 | .buildSlice t n ps=>xBuildSlice P id t n (ps.toList.map (·.1)) vs
 | .load t _=>xLoad P t vs B
 | .store t _ _=>xStore P t vs B
 | .nilCheck _=>xNil vs
 | .fieldAddr t _ f=>xFieldAddr P t f vs
 | .indexAddr t _ i=>xIndexAddr P t (isConst i) vs
 | .index t _ i=>xIndex P t (isConst i) vs
 | .field t _ f=>xField P t f vs
 | .extract _ i=>xExtract i vs
 | .binOp op t _ _ _=>xBin P op t vs
 | .unOp op _ _=>xUn op vs
 | .convert s d _=>xConvert P id s d vs B
 | .sliceToArrayPointer t _=>xArr P t vs
 | .makeSlice t _ _=>xMake P id t vs
 | .slice t _ lo hi mx=>xSlice P t lo hi mx vs B
 | .makeFunc fn first _=>xMakeFunc fn first vs
 | .call c=>xCall P sp w0 id c vs B
 | _=>none
def unrn:SV->SV
 | .is (.one (.rn e xs))=>.is (.one (.ro e xs))
 | s=>s
def xNilSl (P:Program) (op:BinOp) (t:TypeId) (vs:List SV):Option Out :=
 match vs with
 | [.is (.one c),.is (.one (.v (.slice none 0 0)))]=>match P.underlying t,op with
  | some (.slice _),.eql=>match c with
   | .rn _ _=>ret (.is (.one .F))
   | .v (.slice none 0 0)=>ret (.is (.one .T))
   | _=>none
  | some (.slice _),.neq=>match c with
   | .rn _ _=>ret (.is (.one .T))
   | .v (.slice none 0 0)=>ret (.is (.one .F))
   | _=>none
  | _,_=>none
 | _=>none
def frzO:Option Out->Option Out
 | some { val:=.is (.one (.sl i 0 0 k _)),new:=[(j,[cell])],wr:=wr,pre:=pre } =>
  match Nat.beq i j&&wr.all (fun p=>p.2.isEmpty),asRow cell with
  | true,some ⟨e,_,xs⟩=>some { val:=.is (.one (.ro e xs)),new:=[],wr:=wr,pre:=(xs.length=k)::pre }
  | _,_=>none
 | _=>none
def wantFrz (sp:FuncId->Option Spec) (c:Call):Bool:=match c.callee,c.argTypes.toList with
 | .builtin .append,t::_=>(sp (1000000+t)).isSome
 | _,_=>false
def isStr (P:Program) (t:TypeId):Bool:=match P.underlying t with
 | some .string=>true
 | _=>false
def isU8 (P:Program) (t:TypeId):Bool:=match P.underlying t with
 | some (.int .u8)=>true
 | _=>false
def strInt (P:Program) (t:TypeId):Option IntKind :=
 match P.underlying t with
 | some (.struct fs)=>match fs.toList with
  | [f,g]=>match P.underlying g.type with
   | some (.int k) => match isStr P f.type && f.name != "_" && g.name != "_" && Nat.beq f.offset 0 && Nat.beq g.offset 1 && Nat.beq (P.cellsOf f.type) 1 && Nat.beq (P.cellsOf g.type) 1 && !P.stoodInHeld t && !P.eqGuardType P.depth t with
    | true=>some k
    | false=>none
   | _=>none
  | _=>none
 | _=>none
def xEqS (P:Program) (t:TypeId) (ng:Bool) (cs ds:List Cell):Option Out :=
 match strInt P t with
 | some k=>match pOne noB (.pair .str (.int k)) cs,pOne noB (.pair .str (.int k)) ds with
  | some (x,ps,[]),some (y,qs,[])=>some { val:=.is (.one (.v (.bool (bif ng then !(eqC (.pair .str (.int k)) x y) else eqC (.pair .str (.int k)) x y)))),pre:=ps++qs }
  | _,_=>none
 | none=>none
def zeroAgg (P:Program) (t:TypeId):Bool:=match P.info? t with
 | some { zero:=some (.agg _),.. }=>true
 | _=>false
def xMore (P:Program) (o:Op) (vs:List SV) (B:Blks):Option Out :=
 match o with
 | .makeMap _ none=>match vs with
  | []=>ret (.is (.one (.fv .mp ())))
  | _=>none
 | .lookup t _ _ true=>match P.underlying t,vs with
  | some (.map k e),[.is (.one (.fv .mp _)),.is (.one (.v (.string _)))]=>match isStr P k&&zeroAgg P e,zeroC P e with
   | true,some cs=>some { val:=.tup [.agg cs,.one .F] }
   | _,_=>none
  | _,_=>none
 | .slice t _ lo hi mx=>match P.underlying t,vs with
  | some .string,.is (.one (.v (.string s)))::r=>match bnds s.size lo hi mx r with
   | some (l,h,none,p)=>some { val:=.is (.one (.v (.string (s.extract l.toNat h.toNat)))),pre:=p }
   | _=>none
  | _,_=>none
 | .binOp op t _ _ _=>match vs with
  | [.is (.one (.v (.string x))),.is (.one (.v (.string y)))]=>match isStr P t,op with
   | true,.eql=>retV (.bool (decide (x=y)))
   | true,.neq=>retV (.bool (!decide (x=y)))
   | _,_=>none
  | [.is (.agg cs),.is (.agg ds)]=>match op with
   | .eql=>xEqS P t false cs ds
   | .neq=>xEqS P t true cs ds
   | _=>none
  | _=>none
 | .convert s d _=>match P.underlying s,isStr P d,vs with
  | some (.slice e),true,[x]=>match isU8 P e,srcOf B (.int .u8) x with
   | true,some (_,ys,p)=>some { val:=.is (.one (.v (.string (strOfNums ys)))),pre:=p }
   | _,_=>none
  | _,_,_=>none
 | _=>none
def xopA (P:Program) (sp:FuncId->Option Spec) (w0:Base) (id:Nat) (o:Op) (vs:List SV) (B:Blks):Option Out :=
 match o with
 | .move _=>xMove vs
 | .assign _=>xMove vs
 | .call c=>match wantFrz sp c with
  | true=>frzO (xop1 P sp w0 id (.call c) (vs.map fun s=>unrn (norm w0 s)) B)
  | false=>xop1 P sp w0 id (.call c) (vs.map fun s=>unrn (norm w0 s)) B
 | .binOp op t x y t'=>match xNilSl P op t vs with
  | some out=>some out
  | none=>xop1 P sp w0 id (.binOp op t x y t') (vs.map fun s=>unrn (norm w0 s)) B
 | o=>xop1 P sp w0 id o (vs.map fun s=>unrn (norm w0 s)) B
def xop (P:Program) (sp:FuncId->Option Spec) (w0:Base) (id:Nat) (o:Op) (vs:List SV) (B:Blks):Option Out :=
 match xMore P o (vs.map fun s=>unrn (norm w0 s)) B with
 | some out=>some out
 | none=>xopA P sp w0 id o vs B
end Go.Eng
