import Derived.Test.YteldhmehjkhanaaGreatDoorRows
import Derived.ProofKit
import Derived.SizedLaws
import Derived.Test.YteldhmehjkhanaaGreatDoorML26qPV
set_option maxRecDepth 100000
namespace Go.Eng
open Go Go.RowKit Cr Go.ChangeShapes Go.WideShapes Go.ChangeAt
theorem mapM_some {α β:Type} {f:α->Option β}:∀ {l:List α} {r:List β},l.mapM f=some r->r.length=l.length/\∀ (i:Nat) (x:α),l[i]?=some x->f x=r[i]?:=by
 intro l
 induction l with
 | nil=>intro r h;simp at h;subst h;exact⟨rfl,fun i x hx=>by simp at hx⟩
 | cons y l ih =>
  intro r h
  rw[List.mapM_cons] at h
  cases hy:f y with
  | none=>rw[hy] at h;simp at h
  | some z =>
   cases hl:l.mapM f with
   | none=>rw[hy,hl] at h;simp at h
   | some zs =>
    rw[hy,hl] at h
    simp at h
    subst h
    obtain⟨h1,h2⟩:=ih hl
    refine⟨by simp[h1],fun i x hx=>?_⟩
    cases i with
    | zero=>simp at hx;subst hx;simpa using hy
    | succ i=>simp at hx;simpa using h2 i x hx
theorem add_block (a:Addr) (n:Nat):(a.add n).block=a.block:=by unfold Addr.add;split<;>rfl
theorem add_offN (a:Addr) (n:Nat):(a.add n).off=a.off+n:=by
 unfold Addr.add;split
 ·rename_i h;subst h;rfl
 ·rfl
theorem cells_at {W:World} {a:Addr} {c:Nat} {ci:List Value} (hc:0<c) (h:W.cells? 0 a c=some ci) :
  ∃ l,memOf W a.block=some l/\a.spot=none/\a.off+c<=l.length/\ci=(l.drop a.off).take c:=by
 unfold World.cells? at h
 rw[if_pos (Nat.zero_le _)] at h
 obtain⟨h1,h2⟩:=mapM_some h
 simp only[List.length_range] at h1
 have h3:∀ j,j<c->W.cell? (a.add j)=ci[j]?:=fun j hj=>h2 j j (by simp[hj])
 have h0:=h3 0 hc
 have e0:a.add 0=a:=by simp[Addr.add]
 rw[e0] at h0
 have hsome:∀ j,j<c->∃ x,ci[j]?=some x:=fun j hj=>⟨ci[j]'(by omega),by simp⟩
 obtain⟨x0,hx0⟩:=hsome 0 hc
 rw[hx0] at h0
 unfold World.cell? at h0
 split at h0
 ·rename_i carr ty fr hb
  have hs:a.spot=none:=by
   cases hs:a.spot with
   | none=>rfl
   | some s=>rw[hs] at h0;simp at h0
  have hcell:∀ j,j<c->carr[a.off+j]?=ci[j]?:=by
   intro j hj
   rw[<- h3 j hj]
   unfold World.cell?
   rw[add_block,hb,add_offN]
   have:(a.add j).spot=none:=by unfold Addr.add;split<;>simp[hs]
   simp[this]
  have hlen:a.off+c<=carr.toList.length:=by
   obtain⟨x,hx⟩:=hsome (c-1) (by omega)
   have:=hcell (c-1) (by omega)
   rw[hx] at this
   have:=(Array.getElem?_eq_some_iff.1 this).1
   rw[Array.length_toList];omega
  refine⟨carr.toList,memOf_blk (l:=carr.toList) hb (fun e=>by rw[e,List.length_nil] at hlen;omega),hs,hlen,?_⟩
  refine List.ext_getElem? fun j=>?_
  by_cases hj:j<c
  ·rw[List.getElem?_take,if_pos hj,List.getElem?_drop,<- hcell j hj,Array.getElem?_toList]
  ·rw[List.getElem?_take,if_neg hj]
   simp;omega
 ·cases h0
theorem RdL_row {α:Type} {R:α->List Value->Prop} {c:Nat} {l:List Value}:∀ {ys:List α} {o:Nat},(∀ i (h:i<ys.length),R ys[i] ((l.drop (o+i*c)).take c))->RdL R ys ((l.drop o).take (ys.length*c)):=by
 intro ys
 induction ys with
 | nil=>intro o _;simp[RdL]
 | cons y ys ih =>
  intro o h
  refine⟨(l.drop o).take c,(l.drop (o+c)).take (ys.length*c),?_,by have:=h 0 (Nat.succ_pos _);rw[Nat.zero_mul,Nat.add_zero] at this;exact this,ih (o:=o+c) fun i hi=>?_⟩
  ·rw[List.length_cons,Nat.succ_mul,Nat.add_comm,List.take_add,List.drop_drop]
  ·have:=h (i+1) (by simpa using hi)
   have e:o+(i+1)*c=o+c+i*c:=by rw[Nat.succ_mul];omega
   rw[e] at this
   simpa using this
def OpnC (P:Program) (t:TypeId) (κ:Kd) (wt:Car κ->Prop):Prop :=
 ∀ (H:Type) (enc:TypeId × Value->H) (W:World) (fuel:Nat) (cs:List Value) (x:DataW H × List MemPlace),DataW.trod enc P W 0 (fun _=>true) true fuel t cs=some x ->
  (∀ n∈x.1.weights P t,n<=reachBytes)->∃ y:Car κ,Rd (memOf W) κ y cs/\wt y
theorem opnC_int {P:Program} {t:TypeId} {k:IntKind} (ht:P.underlying t=some (.int k)):OpnC P t (.int k) (fun x=>(Lit.int k x).wf=true):=by
 intro H enc W fuel cs x h _
 obtain⟨n,rfl,rfl,hw⟩:=DataW.trod_int ht h
 exact⟨n,rfl,hw⟩
theorem weightsAll_mem {H:Type} {P:Program} {e:TypeId}:∀ {l:List (DataW H)} {d:DataW H} {n:Nat},d∈l->n∈d.weights P e->n∈DataW.weightsAll P e l:=by
 intro l
 induction l with
 | nil=>intro d n h;simp at h
 | cons y l ih =>
  intro d n h hn
  simp only[DataW.weightsAll,List.mem_append]
  rcases List.mem_cons.1 h with rfl|h
  ·exact .inl hn
  ·exact .inr (ih h hn)
theorem opnC_slice {P:Program} {t e:TypeId} {κ:Kd} {wt:Car κ->Prop} (ht:P.underlying t=some (.slice e)) (hc:P.cellsOf e=width κ) (hpos:0<width κ) (he:OpnC P e κ wt) :
  OpnC P t (.sl κ) (fun ys=>List.length ys*P.bytesOf e<=reachBytes/\∀ y∈ys,wt y):=by
 intro H enc W fuel cs x h hw
 rcases DataW.trod_slice ht h with ⟨rfl,rfl⟩|⟨a,len,cap,elems,rest,n,rfl,rfl,rfl,_,hl,_,hlen,hel,_,_⟩
 ·exact⟨[],.inl ⟨rfl,none,0,rfl,fun _=>rfl⟩,by simp,fun y hy=>by simp at hy⟩
 ·simp only[DataW.weights,ht] at hw
  have hbytes:len*P.bytesOf e<=reachBytes:=by
   have:=hw _ (List.mem_cons_self ..)
   simp only[List.length_map] at this
   exact Nat.le_trans (Nat.mul_le_mul_right _ (by omega)) this
  have hone:∀ i,i<len->∃ y:Car κ,∃ ci,W.cells? 0 (a.add (i*width κ)) (width κ)=some ci/\Rd (memOf W) κ y ci/\wt y:=by
   intro i hi
   have hi':=hel i hi
   rw[hc] at hi'
   have hx:elems[i]?=some (elems[i]'(by omega)):=by simp[hlen,hi]
   rw[hx] at hi'
   cases hcs:W.cells? 0 (a.add (i*width κ)) (width κ) with
   | none=>rw[hcs] at hi';simp at hi'
   | some ci =>
    rw[hcs] at hi'
    obtain⟨y,h1,h2⟩:=he H enc W n ci _ hi' (fun m hm=>hw m (List.mem_cons_of_mem _ (List.mem_append_left _ (weightsAll_mem (d:=(elems[i]'(by omega)).1) (List.mem_map.2 ⟨_,List.getElem_mem _,rfl⟩) hm))))
    exact⟨y,ci,rfl,h1,h2⟩
  by_cases h0:len=0
  ·subst h0
   exact⟨[],.inl ⟨rfl,some a,cap,rfl,fun h=>by cases h⟩,by simp,fun y hy=>by simp at hy⟩
  ·have hf:∀ i:Fin len,∃ y:Car κ,∃ ci,W.cells? 0 (a.add (i.1*width κ)) (width κ)=some ci/\Rd (memOf W) κ y ci/\wt y:=fun i=>hone i.1 i.2
   have hch:=Classical.axiomOfChoice hf
   obtain⟨g,hg⟩:=hch
   obtain⟨ci0,hci0,_⟩:=hg ⟨0,by omega⟩
   obtain⟨l,hM,hspot,_,_⟩:=cells_at hpos hci0
   simp only[Nat.zero_mul,add_block] at hM
   have e0:a.add 0=a:=by simp[Addr.add]
   simp only[Nat.zero_mul,e0] at hspot
   have hall:∀ i (hi:i<len),a.off+i*width κ+width κ<=l.length/\Rd (memOf W) κ (g ⟨i,hi⟩) ((l.drop (a.off+i*width κ)).take (width κ)):=by
    intro i hi
    obtain⟨ci,h1,h2,_⟩:=hg ⟨i,hi⟩
    obtain⟨l',hM',_,hle,hci⟩:=cells_at hpos h1
    simp only[add_block,add_offN] at hM' hle hci
    rw[hM] at hM'
    cases hM'
    rw[hci] at h2
    exact⟨hle,h2⟩
   have hln:(List.ofFn g).length=len:=by simp
   refine⟨List.ofFn g,.inr ⟨a.block,a.off,cap,?_,?_,l,fun _=>hM,?_,?_⟩,?_,?_⟩
   ·have:a=⟨a.block,a.off,none⟩:=by rw[<- hspot]
    rw[hln,<- this]
   ·rw[hln];exact hl
   ·rw[hln]
    have:=(hall (len-1) (by omega)).1
    have e:(len-1)*width κ+width κ=len*width κ:=by rw[<- Nat.succ_mul];congr 1;omega
    omega
   ·refine RdL_row fun i hi=>?_
    have hi':i<len:=by rw[hln] at hi;exact hi
    have:=(hall i hi').2
    simpa using this
   ·show (List.ofFn g).length*_<=_
    rw[hln];exact hbytes
   ·intro y hy
    obtain⟨i,hi⟩:=(List.mem_ofFn ..).1 hy
    obtain⟨_,_,_,h3⟩:=hg i
    rw[<- hi];exact h3
def OpnV (P:Program) (t:TypeId) (κ:Kd) (wt:Car κ->Prop):Prop :=
 ∀ (H:Type) (enc:TypeId × Value->H) (W:World) (base:Nat) (v:Value) (d:DataW H) (p:List MemPlace),Value.okWide P W .any base t v->DataW.Trod enc P W 0 (fun _=>true) true t v d p ->
  (∀ n∈d.weights P t,n<=reachBytes)->∃ y:Car κ,valRd (memOf W) κ y v/\wt y
theorem opnV_int {P:Program} {t:TypeId} {k:IntKind} (ht:P.underlying t=some (.int k)):OpnV P t (.int k) (fun x=>(Lit.int k x).wf=true):=by
 intro H enc W base v d p hok ⟨fuel,h⟩ hw
 obtain⟨n,rfl⟩:=okWide_int ht hok
 exact opnC_int ht H enc W fuel _ _ h hw
theorem opnV_slice {P:Program} {t e:TypeId} {κ:Kd} {wt:Car κ->Prop} (ht:P.underlying t=some (.slice e)) (hc:P.cellsOf e=width κ) (hpos:0<width κ) (he:OpnC P e κ wt) :
  OpnV P t (.sl κ) (fun ys=>List.length ys*P.bytesOf e<=reachBytes/\∀ y∈ys,wt y):=by
 intro H enc W base v d p hok ⟨fuel,h⟩ hw
 obtain⟨a,len,cap,rfl⟩:=okWide_slice ht hok
 exact opnC_slice ht hc hpos he H enc W fuel _ _ h hw
inductive OpnL (P:Program):List TypeId->(ks:List Kd)->(HL ks->Prop)->Prop
 | nil:OpnL P [] [] (fun _=>True)
 | cons {t:TypeId} {κ:Kd} {wt:Car κ->Prop} {ts:List TypeId} {ks:List Kd} {pre:HL ks->Prop} (h:OpnV P t κ wt) (hr:P.readableRec t=true) (hrow:t<P.types.size) (hs:OpnL P ts ks pre):OpnL P (t::ts) (κ::ks) (fun x=>wt x.1/\pre x.2)
theorem opnL_open {P:Program} {ts:List TypeId} {ks:List Kd} {pre:HL ks->Prop} (h:OpnL P ts ks pre) {H:Type} {enc:TypeId × Value->H} {W:World} {base:Nat} :
  ∀ {vs:List Value} {ds:List (DataW H)} {p:List MemPlace},(∀ (j:Nat) t v,ts[j]?=some t->vs[j]?=some v->Value.okWide P W .any base t v)->DataW.TrodAll enc P W 0 (fun _=>true) true ts vs ds p ->
   (∀ n∈DataW.weightsEach P ts ds,n<=reachBytes)->∃ xs:HL ks,insRel (memOf W) ks xs vs/\pre xs:=by
 induction h with
 | nil=>intro vs ds p _ hA _;obtain⟨rfl,rfl,rfl⟩:=trodAll_nil hA;exact⟨(),rfl,trivial⟩
 | cons h _ _ _ ih =>
  intro vs ds p hok hA hw
  obtain⟨v,vs,d,ds,p,q,rfl,rfl,rfl,h1,h2⟩:=trodAll_cons hA
  obtain⟨y,hy,hwt⟩:=h H enc W base v d p (hok 0 _ v rfl rfl) h1 (fun n hn=>hw n (by simp only[DataW.weightsEach,List.mem_append];exact .inl hn))
  obtain⟨ys,hys,hp⟩:=ih (fun j t v ht hv=>hok (j+1) t v (by simpa using ht) (by simpa using hv)) h2 (fun n hn=>hw n (by simp only[DataW.weightsEach,List.mem_append];exact .inr hn))
  exact⟨(y,ys),⟨v,vs,rfl,hy,hys⟩,hwt,hp⟩
theorem opnL_stays {P:Program} (hl:laidOutB P=true) {ts:List TypeId} {ks:List Kd} {pre:HL ks->Prop} (h:OpnL P ts ks pre) {H:Type} {enc:TypeId × Value->H} {W W':World} (hb:Below W.heap.size W W') :
  ∀ {vs:List Value} {ds:List (DataW H)} {p:List MemPlace},DataW.TrodAll enc P W 0 (fun _=>true) true ts vs ds p->(∀ x∈p,x.block<W.heap.size)->DataW.TrodAll enc P W' 0 (fun b=>decide (b<W.heap.size)) true ts vs ds p:=by
 induction h with
 | nil=>intro vs ds p hA _;obtain⟨rfl,rfl,rfl⟩:=trodAll_nil hA;exact trodAll_mk0
 | cons _ hr hrow _ ih =>
  intro vs ds p hA hlt
  obtain⟨v,vs,d,ds,p,q,rfl,rfl,rfl,h1,h2⟩:=trodAll_cons hA
  exact⟨p,q,Below.trod hl hr hrow h1 hb (fun x hx=>hlt x (List.mem_append_left _ hx)),ih h2 (fun x hx=>hlt x (List.mem_append_right _ hx)),rfl⟩
theorem callOk_calls {P:Program} {f:FuncId} {fn:Func} (he:enters P f fn) {us:Array Value} {w:World} {R:Value->World->Prop} (h:CallOk P f us w R):Calls P f us w fun e w'=>∃ v,e=.returned v/\R v w':=by
 rcases h with ⟨_,h⟩|⟨v,w',h,_⟩
 ·exact h
 ·rw[he.2 us w] at h;cases h
theorem trodAll_len {P:Program} {H:Type} {enc:TypeId × Value->H} {W:World} {b:Nat} {sp:Nat->Bool} {hd:Bool}:∀ {ts:List TypeId} {vs:List Value} {ds:List (DataW H)} {p:List MemPlace},DataW.TrodAll enc P W b sp hd ts vs ds p->ds.length=ts.length:=by
 intro ts
 induction ts with
 | nil=>intro vs ds p h;obtain⟨_,h,_⟩:=trodAll_nil h;rw[h];rfl
 | cons t ts ih =>
  intro vs ds p h
  obtain⟨v,vs',d,ds',p',q',rfl,rfl,rfl,h1,h2⟩:=trodAll_cons h
  simp[ih h2]
end Go.Eng
