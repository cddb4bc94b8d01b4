import Derived.Test.YteldhmehjkhanaaGreatDoorML26qPQ
set_option maxRecDepth 100000
namespace Go.Eng
open Go Go.RowKit Cr
inductive Hd where
 | ptr
 | sl (n c:Nat)
def Hd.cell (i:Nat):Hd->Cell
 | .ptr=>.ptr i 0
 | .sl n c=>.sl i 0 0 n c
def Hd.val (b N:Nat):Hd->Value->Prop
 | .ptr,u=>u=.pointer (some ⟨b,0,none⟩)
 | .sl n c,u=>∃ cap,n<=cap/\cap*c<=N/\u=.slice (some ⟨b,0,none⟩) n cap
def FnOkQ (P:Program) (f:FuncId) (hd:Hd) (κ:Kd) (ins:List Kd) (outs:List OutK) (G:Glob) (pre:Car κ × HL ins->Prop) (F:Car κ × HL ins->Car κ × HO outs):Prop :=
 ∀ (w:World) (M:Mem) (us:List Value) (xs:HL ins) (b n:Nat) (l:List Value) (x:Car κ) (u:Value),Mem.le M (memOf w)->M b=none->GlOk G M->insRel M ins xs us->BlkAt w b n l->Rd M κ x l->pre (x,xs)->hd.val b n u ->
  CallOk P f ⟨u::us⟩ w fun v w'=>∃ vs ob l',v=tupled vs/\outsRel w.heap.size M ob w' outs (F (x,xs)).2 vs/\BlkAt w' b n l'/\Rd (outM w.heap.size M ob w') κ (F (x,xs)).1 l'/\Keeps ⟨w,[(0,b)],G,M,fun p=>sizeAt w p.2,1⟩ w'
abbrev FnOkP (P:Program) (f:FuncId) (κ:Kd) (ins:List Kd) (outs:List OutK) (G:Glob) (pre:Car κ × HL ins->Prop) (F:Car κ × HL ins->Car κ × HO outs):Prop:=FnOkQ P f .ptr κ ins outs G pre F
def rmN (i:Nat) (l:List Nat):List Nat:=l.filter fun j => !Nat.beq j i
def killsP (B:Blks) (κ:Kd) (outs:List OutK) (ids:List Nat):List (Nat × List Cell) :=
 match plainK κ with
 | true=>kills B outs ids
 | false=>(ids.filter (isLive B)).map fun i=>(i,[])
def fnSpecP (κ:Kd) (ins:List Kd) (outs:List OutK) (pre:Car κ × HL ins->Prop) (F:Car κ × HL ins->Car κ × HO outs):Spec:=fun _ id args B =>
 match args with
 | .is (.one (.ptr i0 0))::args'=>match B i0,memN i0 (idsOf B args') with
  | some (d::ds),false=>match pOne (restr (rmN i0 (idsOf B args)) B) κ (d::ds),argsP (restr (rmN i0 (idsOf B args)) B) ins args' with
   | some (x,ps,[]),some (xs,qs)=>some { val:=svOf (outTVs id outs (F (x,xs)).2),new:=outNew id outs (F (x,xs)).2,wr:=(i0,cellsOf κ (F (x,xs)).1)::killsP B κ outs (rmN i0 (idsOf B args)),pre:=ps++(qs++[pre (x,xs)]) }
   | _,_=>none
  | _,_=>none
 | _=>none
def fnSpecPG (G:Glob) (κ:Kd) (ins:List Kd) (outs:List OutK) (pre:Car κ × HL ins->Prop) (F:Car κ × HL ins->Car κ × HO outs):Spec:=fun W id args B =>
 match fnSpecP κ ins outs pre F W id args B with
 | some o=>some { o with pre:=(∀ g s,G g=some s->W.gl g=some s)::o.pre }
 | none=>none
theorem rmN_mem {i j:Nat} {l:List Nat} (h:j∈rmN i l):j∈l/\j≠i:=by
 obtain⟨h1,h2⟩:=List.mem_filter.1 h
 refine⟨h1,fun e=>?_⟩
 subst e
 simp at h2
theorem killsP_mem {B:Blks} {κ:Kd} {outs:List OutK} {ids:List Nat} {p:Nat × List Cell} (h:p∈killsP B κ outs ids):p.2=[]/\p.1∈ids/\∃ cs,B p.1=some cs/\cs≠[]:=by
 unfold killsP at h
 split at h
 ·exact kills_mem h
 ·obtain⟨i,hi,rfl⟩:=List.mem_map.1 h
  obtain⟨h1,h2⟩:=List.mem_filter.1 hi
  refine⟨rfl,h1,?_⟩
  unfold isLive at h2
  split at h2
  ·rename_i c cs hq
   exact⟨_,hq,by simp⟩
  ·cases h2
theorem killsP_all {B:Blks} {κ:Kd} {outs:List OutK} {ids:List Nat} (hpl:(plainK κ&&plainO outs)=false) {i:Nat} (hi:i∈ids) {cs:List Cell} (hB:B i=some cs) (hne:cs≠[]):(i,[])∈killsP B κ outs ids:=by
 have hl:isLive B i=true:=by
  unfold isLive
  rw[hB]
  cases cs with
  | nil=>exact absurd rfl hne
  | cons c cs=>rfl
 unfold killsP
 split
 ·rename_i hk
  rw[hk] at hpl
  simp at hpl
  unfold kills
  rw[hpl]
  exact List.mem_map.2 ⟨i,List.mem_filter.2 ⟨hi,hl⟩,rfl⟩
 ·exact List.mem_map.2 ⟨i,List.mem_filter.2 ⟨hi,hl⟩,rfl⟩
section
variable {P:Program}
theorem callQ {f:FuncId} {hd:Hd} {κ:Kd} {ins:List Kd} {outs:List OutK} {G:Glob} {pre:Car κ × HL ins->Prop} {F:Car κ × HL ins->Car κ × HO outs} (h:FnOkQ P f hd κ ins outs G pre F) (h1:ownN outs<=1) {w0:Base} {id i0 b0:Nat} {s0:SV} {args':List SV} {B:Blks} {ρ:Rho} {u0:Value} {us':List Value} {w:World} {d:Cell} {ds:List Cell} {x:Car κ} {xs:HL ins} {qs pp:List Prop}
  (hB0:B i0=some (d::ds)) (hrd:∀ M0 l0,Sees (restr (rmN i0 (idsOf B (s0::args'))) B) ρ M0->cellsRel ρ (d::ds) l0->Rd M0 κ x l0) (hxs:argsP (restr (rmN i0 (idsOf B (s0::args'))) B) ins args'=some (xs,qs)) (hqs:∀ p∈qs,p) (hpre:pre (x,xs)) (hG:∀ g s,G g=some s->w0.gl g=some s) (hb0:ρ i0=some b0) (hu0:hd.val b0 (ρ.n i0) u0) (hus':valsRel ρ args' us') (hc:Ctx w0 id ρ B w) :
  CallOk P f ⟨u0::us'⟩ w fun v w'=>∃ ρ',(svOf (outTVs id outs (F (x,xs)).2)).rel ρ' v/\Eff id B { val:=svOf (outTVs id outs (F (x,xs)).2),new:=outNew id outs (F (x,xs)).2,wr:=(i0,cellsOf κ (F (x,xs)).1)::killsP B κ outs (rmN i0 (idsOf B (s0::args'))),pre:=pp } ρ ρ' w w':=by
 classical
 -- what the callee may see
 let ids:=rmN i0 (idsOf B (s0::args'))
 let own:Nat->Prop:=fun b=>∃ i cs,i∈ids/\B i=some cs/\cs≠[]/\ρ i=some b
 let M0:Mem:=fun b=>if own b then memOf w b else ρ.M b
 have hne0:∀ b,own b->b≠b0:=by
  rintro b ⟨i,cs,hi,hBi,hne,hb⟩ rfl
  exact (rmN_mem hi).2 (hc.inj i i0 cs (d::ds) b hBi hne hB0 (by simp) hb hb0)
 have hM0b:M0 b0=none:=by
  simp only[M0]
  rw[if_neg (fun ho=>hne0 _ ho rfl)]
  cases hq:ρ.M b0 with
  | none=>rfl
  | some l=>exact absurd hb0 (hc.apart b0 l hq i0 (d::ds) hB0 (by simp))
 have hM0:∀ b l,M0 b=some l->memOf w b=some l:=by
  intro b l hb
  simp only[M0] at hb
  split at hb
  ·exact hb
  ·obtain⟨el,fr,hh⟩:=hc.mem b l hb;exact memOf_at hh
 have hρM:Mem.le ρ.M M0:=by
  intro b l hb
  simp only[M0]
  split
  ·obtain⟨el,fr,hh⟩:=hc.mem b l hb;exact memOf_at hh
  ·exact hb
 have hsees:Sees (restr ids B) ρ M0:=by
  refine⟨hρM,fun i cs b hi hne hb=>?_⟩
  have hmem:i∈ids:=by
   unfold restr at hi
   split at hi
   ·rename_i hm;exact memN_mem hm
   ·cases hi
  have hBi:=restr_some hi
  obtain⟨l,⟨rest,el,fr,k1,k2,_⟩,k3⟩:=hc.blks i cs hBi hne b hb
  refine⟨l,rest,k3,fun hn=>?_,k2⟩
  simp only[M0]
  rw[if_pos ⟨i,cs,hmem,hBi,hne,hb⟩]
  exact memOf_blk k1 hn
 have hins:=argsP_rel hsees hxs hqs hus'
 obtain⟨l0,hblk0,hcl0⟩:=hc.blks i0 (d::ds) hB0 (by simp) b0 hb0
 have hrd0:Rd M0 κ x l0:=hrd M0 l0 hsees hcl0
 have hgl:GlOk G M0:=fun g e x hg=>RowAt_mono hρM (hc.glob g e x (hG g _ hg))
 refine (h w M0 us' xs b0 _ l0 x u0 hM0 hM0b hgl hins hblk0 hrd0 hpre hu0).mono ?_
 rintro v w' ⟨vs,ob,l',rfl,hout,hblk',hrd',hbel⟩
 have hb0lt:b0<w.heap.size:=hblk0.lt
 have hsame:∀ b,b<w.heap.size->b≠b0->w'.heap[b]?=w.heap[b]?:=by
  intro b hb hne
  refine hbel.block b hb ?_
  simp only[Base.own,List.any_cons,List.any_nil,Bool.or_false]
  simpa using fun e=>hne e.symm
 -- what is known behind the call
 let pl:Bool:=plainK κ&&plainO outs
 let Mx:Mem:=if pl=true then ρ.M else M0
 let ρ1:Rho:=⟨ρ.m,ρ.n,fun b=>if ob=some b/\w.heap.size<=b then none else if w.heap.size<=b then memOf w' b else Mx b⟩
 have hlt:∀ b l,ρ.M b=some l->b<w.heap.size:=by
  intro b l hb
  obtain⟨el,fr,hh⟩:=hc.mem b l hb
  exact memOf_lt (memOf_at hh)
 have hxM:Mem.le ρ.M Mx:=by
  intro b l hb
  simp only[Mx]
  split
  ·exact hb
  ·exact hρM b l hb
 have hle1:Mem.le ρ.M ρ1.M:=by
  intro b l hb
  have:=hlt b l hb
  simp only[ρ1]
  rw[if_neg (fun h=>by omega),if_neg (by omega)]
  exact hxM b l hb
 have hle2:pl=true\/Mem.le (outM w.heap.size M0 ob w') ρ1.M:=by
  by_cases hpl:pl=true
  ·exact .inl hpl
  ·refine .inr fun b l hb=>?_
   simp only[outM] at hb
   simp only[ρ1]
   split at hb
   ·cases hb
   ·rename_i hob
    rw[if_neg (fun h=>hob h.1)]
    split at hb
    ·rename_i hN;rw[if_pos hN];exact hb
    ·rename_i hN;rw[if_neg hN];simp only[Mx];rw[if_neg hpl];exact hb
 have hle3:plainO outs=true\/Mem.le (outM w.heap.size M0 ob w') ρ1.M:=by
  rcases hle2 with h|h
  ·simp only[pl,Bool.and_eq_true] at h;exact .inl h.2
  ·exact .inr h
 have hle4:plainK κ=true\/Mem.le (outM w.heap.size M0 ob w') ρ1.M:=by
  rcases hle2 with h|h
  ·simp only[pl,Bool.and_eq_true] at h;exact .inl h.1
  ·exact .inr h
 have conv:∀ (ρ':Rho),ρ'.M=ρ1.M->∀ (e:Kd) (x:Car e) l,Rd (outM w.heap.size M0 ob w') e x l->(plainK e=true\/Mem.le (outM w.heap.size M0 ob w') ρ'.M)->Rd ρ'.M e x l:=by
  intro ρ' _ e x l hr hor
  rcases hor with hor|hor
  ·exact Rd_plain hor hr
  ·exact Rd_mono hor hr
 have hmem1:∀ (ρ':Rho) (new:List (Nat × List Cell)),ρ'.M=ρ1.M->(∀ p∈new,∀ b,ρ' p.1=some b->ob=some b/\w.heap.size<=b)->∀ b l,ρ'.M b=some l->ρ.M b=some l\/((∀ p∈new,ρ' p.1≠some b)/\(w.heap.size<=b\/∃ q∈(i0,cellsOf κ (F (x,xs)).1)::killsP B κ outs ids,ρ q.1=some b/\q.2=[])/\∃ el fr,w'.heap[b]?=some (objOf l el fr)):=by
  intro ρ' new hρ' hnew b l hb
  rw[hρ'] at hb
  simp only[ρ1] at hb
  split at hb
  ·cases hb
  ·rename_i hob
   split at hb
   ·rename_i hN
    exact .inr ⟨fun p hp' e=>hob (hnew p hp' b e),.inl hN,memOf_inv hb⟩
   ·rename_i hN
    simp only[Mx] at hb
    split at hb
    ·exact .inl hb
    ·rename_i hpl
     have hm:=hM0 b l hb
     obtain⟨el,fr,hh⟩:=memOf_inv hm
     simp only[M0] at hb
     split at hb
     ·rename_i hown
      have hbn:=hne0 b hown
      obtain⟨i,cs,hi1,hi2,hi3,hi4⟩:=hown
      refine .inr ⟨fun p hp' e=>hN (hnew p hp' b e).2,.inr ⟨(i,[]),List.mem_cons_of_mem _ (killsP_all (by simpa[pl] using hpl) hi1 hi2 hi3),hi4,rfl⟩,el,fr,by rw[hsame b (by omega) hbn];exact hh⟩
     ·exact .inl hb
 have hwr:∀ (ρ':Rho),ρ'.M=ρ1.M->∀ (p:Nat × List Cell),p∈(i0,cellsOf κ (F (x,xs)).1)::killsP B κ outs ids->(∃ cs,B p.1=some cs/\cs≠[])/\∀ b,ρ p.1=some b->p.2≠[]->∃ l,BlkAt w' b (ρ.n p.1) l/\cellsRel ρ' p.2 l:=by
  intro ρ' hρ' p hp'
  rcases List.mem_cons.1 hp' with rfl|hp'
  ·refine⟨⟨_,hB0,by simp⟩,fun b hb _=>?_⟩
   have hb:ρ i0=some b:=hb
   rw[hb0] at hb
   simp only[Option.some.injEq] at hb
   subst hb
   exact⟨l',hblk',cellsOf_rel (conv ρ' hρ' κ _ l' hrd' (by rcases hle4 with h|h;exact .inl h;exact .inr (by rw[hρ'];exact h)))⟩
  ·obtain⟨k1,k2,k3⟩:=killsP_mem hp'
   exact⟨k3,fun _ _ h=>absurd k1 h⟩
 have hwu:∀ p∈(i0,cellsOf κ (F (x,xs)).1)::killsP B κ outs ids,∀ q∈(i0,cellsOf κ (F (x,xs)).1)::killsP B κ outs ids,p.1=q.1->p=q:=by
  intro p hp' q hq' e
  rcases List.mem_cons.1 hp' with rfl|hp'<;>rcases List.mem_cons.1 hq' with rfl|hq'
  ·rfl
  ·exact absurd e.symm (rmN_mem (killsP_mem hq').2.1).2
  ·exact absurd e (rmN_mem (killsP_mem hp').2.1).2
  ·exact Prod.ext e ((killsP_mem hp').1.trans (killsP_mem hq').1.symm)
 have hsm:∀ b,b<w.heap.size->(∀ p∈(i0,cellsOf κ (F (x,xs)).1)::killsP B κ outs ids,ρ p.1≠some b)->w'.heap[b]?=w.heap[b]?:=by
  intro b hb hno
  refine hsame b hb (fun e=>?_)
  subst e
  exact hno (i0,cellsOf κ (F (x,xs)).1) (List.mem_cons_self ..) hb0
 have hfree:=hc.free id (Nat.le_refl _) (by omega)
 -- nothing in a block of its own
 have plain:∀ (new:List (Nat × List Cell)),(∀ p∈new,p.1=id)->tupRel ρ1 (outTVs id outs (F (x,xs)).2) vs->∃ ρ',(svOf (outTVs id outs (F (x,xs)).2)).rel ρ' (tupled vs)/\Eff id B { val:=svOf (outTVs id outs (F (x,xs)).2),new:=new,wr:=(i0,cellsOf κ (F (x,xs)).1)::killsP B κ outs ids,pre:=pp } ρ ρ' w w':=by
  intro new hnew ht
  have hnone:∀ p∈new,ρ1 p.1=none:=fun p hp'=>by rw[hnew p hp'];exact hfree
  refine⟨ρ1,tup_one ht,⟨⟨fun _ _ h=>⟨h,rfl⟩,hle1⟩,fun _ _ h=>.inl h,fun i b hi=>Nat.lt_of_lt_of_le (hc.bound i b hi) hbel.size,hbel.os,hbel.tape,hbel.output,hbel.size,hsm,?_,?_,hwu,hwr ρ1 rfl,hmem1 ρ1 new rfl (fun p hp' b hb=>by rw[hnone p hp'] at hb;cases hb)⟩⟩
  ·intro p hp'
   have:=hnew p hp'
   exact⟨by omega,by omega,fun b hb=>by rw[hnone p hp'] at hb;cases hb⟩
  ·intro p hp' q hq' b hb
   rw[hnone p hp'] at hb;cases hb
 rcases outs_any (ρ':=ρ1) (id:=id) (conv ρ1 rfl) h1 hle3 hout with ⟨k1,k2⟩|⟨cs,k0,k1,k2|⟨b,n,l,k3,k4,k5,k6,k7⟩⟩
 ·rw[k1];exact plain [] (fun _ h=>nomatch h) k2
 ·rw[k1];exact plain [(id,cs)] (fun p hp'=>by simp at hp';rw[hp']) k2
 ·rw[k1]
  let ρ2:Rho:=⟨fun i=>if i=id then some b else ρ i,fun i=>if i=id then n else ρ.n i,ρ1.M⟩
  have hle:Rho.le ρ ρ2:=by
   refine⟨fun i c hi=>?_,hle1⟩
   by_cases e:i=id
   ·subst e;rw[hfree] at hi;cases hi
   ·simp[ρ2,e,hi]
  have hle12:Rho.le ρ1 ρ2:=⟨fun i c hi=>hle.id i c hi,Mem.le_refl _⟩
  have ht:tupRel ρ2 (outTVs id outs (F (x,xs)).2) vs:=by
   rcases outs_any (ρ':=ρ2) (id:=id) (conv ρ2 rfl) h1 hle3 hout with ⟨_,j2⟩|⟨cs',_,_,j2|⟨b',n',l',j3,j4,j5,j6,j7⟩⟩
   ·exact j2
   ·exact j2
   ·have e:b'=b:=by rw[k3] at j3;simpa using j3.symm
    subst e
    have en:=k5.size_eq j5
    subst en
    exact j7 (by simp[ρ2]) (by simp[ρ2])
  refine⟨ρ2,tup_one ht,⟨hle,?_,?_,hbel.os,hbel.tape,hbel.output,hbel.size,hsm,?_,?_,hwu,hwr ρ2 rfl,hmem1 ρ2 _ rfl ?_⟩⟩
  ·intro i b' hi
   by_cases e:i=id
   ·simp[ρ2,e] at hi;subst hi
    exact .inr ⟨by omega,by omega,⟨(id,cs),by simp,by simp[e]⟩,.inl k4⟩
   ·simp[ρ2,e] at hi;exact .inl hi
  ·intro i b' hi
   by_cases e:i=id
   ·simp[ρ2,e] at hi;subst hi;exact k5.lt
   ·simp[ρ2,e] at hi;exact Nat.lt_of_lt_of_le (hc.bound i b' hi) hbel.size
  ·intro p hp'
   simp at hp';subst hp'
   refine⟨Nat.le_refl _,by show id<id+8;omega,fun b' hb' _=>?_⟩
   simp[ρ2] at hb';subst hb'
   exact⟨.inl k4,l,by simp[ρ2];exact k5,cellsRel_mono hle12 k6⟩
  ·intro p hp' q hq' _ _ _
   simp at hp' hq';rw[hp',hq']
  ·intro p hp' b' hb'
   simp at hp';subst hp'
   simp[ρ2] at hb';subst hb'
   exact⟨k3,k4⟩
theorem fnSpecP_ok' {f:FuncId} {κ:Kd} {ins:List Kd} {outs:List OutK} {G:Glob} {pre:Car κ × HL ins->Prop} {F:Car κ × HL ins->Car κ × HO outs} (h:FnOkP P f κ ins outs G pre F) (h1:ownN outs<=1) {w0:Base} {id:Nat} {args:List SV} {B:Blks} {out:Out}
  (hF:fnSpecP κ ins outs pre F w0 id args B=some out) (hp:∀ p∈out.pre,p) (hG:∀ g s,G g=some s->w0.gl g=some s) {ρ:Rho} {us:List Value} {w:World} (hv:valsRel ρ args us) (hc:Ctx w0 id ρ B w) :
  CallOk P f ⟨us⟩ w fun v w'=>∃ ρ',out.val.rel ρ' v/\Eff id B out ρ ρ' w w':=by
 unfold fnSpecP at hF
 split at hF
 ·split at hF
  ·rename_i d ds hB0 hm0
   split at hF
   ·rename_i x ps xs qs hx hxs
    simp only[Option.some.injEq] at hF;subst hF
    obtain⟨u0,us',e0,hu0,hus'⟩:=hv
    obtain⟨b0,hb0,eu0⟩:=rel_ptr hu0
    subst eu0 e0
    refine callQ h h1 hB0 (fun M0 l0 hsees hcl0=>?_) hxs (fun p hp'=>hp p (by simp[hp'])) (hp _ (by simp)) hG hb0 rfl hus' hc
    obtain⟨l1,l2,e1,k1,k2⟩:=pOne_rel hsees _ _ _ _ _ _ hx (fun p hp'=>hp p (by simp[hp'])) hcl0
    have k2:l2=[]:=k2
    subst k2
    rw[List.append_nil] at e1
    rw[e1];exact k1
   ·simp at hF
  ·simp at hF
 ·simp at hF
theorem fnSpecPG_ok {f:FuncId} {κ:Kd} {ins:List Kd} {outs:List OutK} {G:Glob} {pre:Car κ × HL ins->Prop} {F:Car κ × HL ins->Car κ × HO outs} (h:FnOkP P f κ ins outs G pre F) (h1:ownN outs<=1:=by decide):SpecOk P f (fnSpecPG G κ ins outs pre F):=by
 intro w0 id args B out hF hp ρ us w hv hc
 unfold fnSpecPG at hF
 split at hF
 ·rename_i o ho
  simp at hF;subst hF
  have:=fnSpecP_ok' h h1 ho (fun p hp'=>hp p (by simp[hp'])) (hp _ (by simp)) hv hc
  refine this.mono fun v w' ⟨ρ',hv',hE⟩=>⟨ρ',hv',?_⟩
  exact⟨hE.le,hE.dom,hE.bound,hE.os,hE.tape,hE.output,hE.size,hE.same,hE.new,hE.newinj,hE.wruniq,hE.wr,hE.mem⟩
 ·simp at hF
def butB (B:Blks):Blks:=fun i=>match Nat.beq i 0 with
 | true=>none
 | false=>B i
def postP (κ:Kd) (outs:List OutK) (y:Car κ × HO outs) (sv:SV) (σ:St):Prop :=
 match svForm sv,resPs (hasOwn outs) (butB σ.B) outs (svTVs sv),σ.B 0 with
 | true,some (zs,ps),some (d::ds)=>match pOne (match hasOwn outs with|true=>noB|false=>butB σ.B) κ (d::ds) with
  | some (z,qs,[])=>conj ps (conj qs ((z,zs)=y))
  | _=>False
 | _,_,_=>False
section
variable {w0:Base} {n:Nat} {S:Slots} {B:Blks} {ρ:Rho} {a:Act} {w':World}
theorem rep_outMP {M:Mem} (hr:RepL w0 n S B ρ a w') (hi:∀ b l,w0.own b=true->ρ.M b≠some l) (hM:w0.M=M) {ob:Option Nat} (hob:∀ b,ob=some b->∀ l,ρ.M b≠some l):Mem.le ρ.M (outM w0.w.heap.size M ob w'):=by
 intro b l hb
 unfold outM
 rw[if_neg (fun h=>hob b h l hb)]
 obtain⟨_,el,fr,hh⟩:=hr.mem b l hb
 split
 ·exact memOf_at hh
 ·rename_i hlt
  rcases hr.old b l hb (by omega) with h|h
  ·exact absurd hb (hi b l h)
  ·rw[<- hM];exact h
theorem resPs_valP {M:Mem} {ob:Option Nat} {B' Bx:Blks} (hS:Sees Bx ρ (outM w0.w.heap.size M ob w')) {ho:Bool} (hB:(match ho with|true=>noB|false=>B')=Bx) :
  ∀ {os:List OutK} {xs:List TV} {ys:HO os} {ps:List Prop} {vs:List Value},ownN os=0->resPs ho B' os xs=some (ys,ps)->(∀ p∈ps,p)->tupRel ρ xs vs->outsRel w0.w.heap.size M ob w' os ys vs:=by
 intro os
 induction os with
 | nil=>intro xs ys ps vs _ h _ ht;cases xs with
  | nil=>exact ht
  | cons _ _=>simp[resPs] at h
 | cons o os ih=>intro xs ys ps vs h0 h hp ht;cases xs with
  | nil=>simp[resPs] at h
  | cons x xs =>
   cases o with
   | own e=>simp[ownN] at h0
   | box e=>simp[ownN] at h0
   | val κ =>
    simp only[resPs] at h
    split at h
    ·rename_i y p hy
     split at h
     ·rename_i zs qs hz
      simp only[Option.some.injEq,Prod.mk.injEq] at h
      obtain⟨rfl,rfl⟩:=h
      obtain⟨v,vs',e,h1,h2⟩:=ht
      have hy:valP Bx κ (.is x)=some (y,p):=by rw[<- hB];exact hy
      exact⟨v,vs',e,valP_rel hS hy (fun p hp'=>hp p (List.mem_append_left _ hp')) h1,ih h0 hz (fun p hp'=>hp p (List.mem_append_right _ hp')) h2⟩
     ·simp at h
    ·simp at h
theorem resP_ownP {e:Kd} {ho:Bool} {x:TV} {y:List (Car e)} {ps:List Prop} {v:Value} (hr:RepL w0 n S B ρ a w') (hi:∀ i cs b,B i=some cs->cs≠[]->ρ i=some b->w0.w.heap.size<=b) (h:resP ho B (.own e) x=some (y,ps)) (hp:∀ p∈ps,p) (hv:x.rel ρ v) :
  (y=[]/\v=.slice none 0 0)\/∃ b o cap n l,(∀ l,ρ.M b≠some l)/\w0.w.heap.size<=b/\v=.slice (some ⟨b,o,none⟩) y.length cap/\y.length<=cap/\(o=0\/cap=0)/\o+cap*width e<=n/\BlkAt w' b n l/\RdL (Rd ρ.M e) y l:=by
 simp only[resP] at h
 split at h
 ·rename_i id len c
  split at h
  ·rename_i d ds hB
   have key:∀ {y:List (Car e)},(∀ l,cellsRel ρ (d::ds) l->y.length=len/\c=width e/\0+0*c+len*c<=l.length/\RdL (Rd ρ.M e) y ((l.drop (0+0*c)).take (len*c)))->(len=0->y=[]) ->
     (y=[]/\v=.slice none 0 0)\/∃ b o cap n l,(∀ l,ρ.M b≠some l)/\w0.w.heap.size<=b/\v=.slice (some ⟨b,o,none⟩) y.length cap/\y.length<=cap/\(o=0\/cap=0)/\o+cap*width e<=n/\BlkAt w' b n l/\RdL (Rd ρ.M e) y l:=by
    intro y hx h0
    rcases rel_sl hv with ⟨hl,ev⟩|⟨b,o,cap,hb,hl,ho,hn,ev⟩
    ·exact .inl ⟨h0 hl,ev⟩
    ·obtain⟨l,hblk,hl'⟩:=hr.blks _ _ hB (by simp) b hb
     obtain⟨k1,k2,k3,k4⟩:=hx l hl'
     subst k1 k2
     refine .inr ⟨b,o,cap,_,_,fun l hm=>(hr.mem b l hm).1 _ _ hB (by simp) hb,hi _ _ _ hB (by simp) hb,ev,hl,by simpa using ho,hn,?_,k4⟩
     simp only[Nat.zero_mul,Nat.zero_add,List.drop_zero] at k3 ⊢
     have hbk:=hblk
     rw[<- List.take_append_drop (y.length*width e) l] at hbk
     exact hbk.pre
   split at h
   ·rename_i xs p hq
    simp only[Option.some.injEq,Prod.mk.injEq] at h
    obtain⟨rfl,rfl⟩:=h
    refine key (fun l hl=>slRow_rel hq hp hl) (fun hm=>?_)
    subst hm
    unfold slRow at hq
    split at hq
    ·split at hq
     ·simp only[Option.some.injEq,Prod.mk.injEq] at hq
      rw[<- hq.1];simp
     ·simp at hq
    ·simp at hq
   ·refine key (fun l hl=>slRaw_rel (R:=Rd ρ.M e) (fun _ _=>Rd_len) (fun cs x ps r l=>pOne_rel (sees_noB ρ) e cs x ps r l) h hp hl) (fun hm=>?_)
    subst hm
    unfold slRaw at h
    split at h
    ·split at h
     ·rename_i hq2
      simp only[pN,Option.some.injEq,Prod.mk.injEq] at h hq2
      rw[<- h.1,<- hq2.1]
     ·simp at h
    ·simp at h
  ·simp at h
 ·simp only[Option.some.injEq,Prod.mk.injEq] at h
  obtain⟨rfl,rfl⟩:=h
  exact .inl ⟨rfl,rel_v (ρ:=ρ) hv⟩
 ·simp at h
theorem resPs_ownP {M:Mem} (hr:RepL w0 n S B ρ a w') (hi:∀ b l,w0.own b=true->ρ.M b≠some l) (hi2:∀ i cs b,B i=some cs->cs≠[]->ρ i=some b->w0.w.heap.size<=b) (hM:w0.M=M) :
  ∀ {os:List OutK} {xs:List TV} {ys:HO os} {ps:List Prop} {vs:List Value},ownN os<=1->resPs true B os xs=some (ys,ps)->(∀ p∈ps,p)->tupRel ρ xs vs ->
   ∃ ob,(∀ b,ob=some b->∀ l,ρ.M b≠some l)/\(∀ ob',(∀ b,ob'=some b->∀ l,ρ.M b≠some l)->(ob=none\/ob'=ob)->outsRel w0.w.heap.size M ob' w' os ys vs):=by
 intro os
 induction os with
 | nil=>intro xs ys ps vs _ h _ ht;cases xs with
  | nil=>exact⟨none,(fun b h=>(nomatch h)),fun _ _ _=>ht⟩
  | cons _ _=>simp[resPs] at h
 | cons o os ih=>intro xs ys ps vs h1 h hp ht;cases xs with
  | nil=>simp[resPs] at h
  | cons x xs =>
   simp only[resPs] at h
   split at h
   ·rename_i y p hy
    split at h
    ·rename_i zs qs hz
     simp only[Option.some.injEq,Prod.mk.injEq] at h
     obtain⟨rfl,rfl⟩:=h
     obtain⟨v,vs',e,k1,k2⟩:=ht
     have hp1:∀ q∈p,q:=fun q hq=>hp q (List.mem_append_left _ hq)
     have hp2:∀ q∈qs,q:=fun q hq=>hp q (List.mem_append_right _ hq)
     have hsn:∀ ob',(∀ b,ob'=some b->∀ l,ρ.M b≠some l)->Sees noB ρ (outM w0.w.heap.size M ob' w'):=fun ob' hob'=>⟨rep_outMP hr hi hM hob',fun _ _ _ h=>by simp[noB] at h⟩
     cases o with
     | val κ =>
      obtain⟨ob,g1,g2⟩:=ih (ys:=zs) h1 hz hp2 k2
      refine⟨ob,g1,fun ob' hob' hor=>⟨v,vs',e,?_,g2 ob' hob' hor⟩⟩
      simp only[resP] at hy
      exact valP_rel (hsn ob' hob') hy hp1 k1
     | own e0 =>
      have hz0:ownN os=0:=by simp[ownN] at h1;omega
      have tail:∀ ob',(∀ b,ob'=some b->∀ l,ρ.M b≠some l)->outsRel w0.w.heap.size M ob' w' os zs vs':=fun ob' hob'=>resPs_valP (hsn ob' hob') rfl hz0 hz hp2 k2
      rcases resP_ownP hr hi2 hy hp1 k1 with ⟨g1,g2⟩|⟨b,o,cap,nn,l,g1,hN,g3,g4,g5,g6,g7,g8⟩
      ·exact⟨none,(fun b h=>(nomatch h)),fun ob' hob' _=>⟨v,vs',e,.inl ⟨g1,g2⟩,tail ob' hob'⟩⟩
      ·refine⟨some b,fun b' hb'=>by simp at hb';subst hb';exact g1,fun ob' hob' hor=>⟨v,vs',e,?_,tail ob' hob'⟩⟩
       rcases hor with hor|hor
       ·cases hor
       ·refine .inr ⟨b,o,cap,nn,l,hor,hN,g3,g4,g5,g6,g7,RdL_mono (fun _ _=>Rd_mono (rep_outMP hr hi hM hob')) g8⟩
     | box κ =>
      have hz0:ownN os=0:=by simp[ownN] at h1;omega
      have tail:∀ ob',(∀ b,ob'=some b->∀ l,ρ.M b≠some l)->outsRel w0.w.heap.size M ob' w' os zs vs':=fun ob' hob'=>resPs_valP (hsn ob' hob') rfl hz0 hz hp2 k2
      obtain⟨i,cs,b,m,l,hB,hne,hb,g1,g3,g7,g8⟩:=resP_box hr hy hp1 k1
      have hN:w0.w.heap.size<=b:=hi2 i cs b hB hne hb
      refine⟨some b,fun b' hb'=>by simp at hb';subst hb';exact g1,fun ob' hob' hor=>⟨v,vs',e,?_,tail ob' hob'⟩⟩
      rcases hor with hor|hor
      ·cases hor
      ·exact⟨b,m,l,hor,hN,g3,g7,Rd_mono (rep_outMP hr hi hM hob') g8⟩
    ·simp at h
   ·simp at h
end
theorem postQ_rel {w:World} {G:Glob} {M:Mem} {b0 n0 n:Nat} {σ:St} {ρ:Rho} {a:Act} {w':World} {κ:Kd} {outs:List OutK} {z:Car κ} {zs:HO outs} {ps:List Prop} {d:Cell} {ds:List Cell} {sv:SV} {v:Value} (hlt:b0<w.heap.size) (hMb:M b0=none) (hn0:ρ.n 0=n0)
  (hr:RepL ⟨w,[(0,b0)],G,M,fun p=>sizeAt w p.2,1⟩ n σ.S σ.B ρ a w') (h1:ownN outs<=1) (hf:svForm sv=true) (hz:resPs (hasOwn outs) (butB σ.B) outs (svTVs sv)=some (zs,ps)) (hps:∀ p∈ps,p) (hB0:σ.B 0=some (d::ds)) (hq:∀ M' l,Sees (match hasOwn outs with|true=>noB|false=>butB σ.B) ρ M'->cellsRel ρ (d::ds) l->Rd M' κ z l) (hv:sv.rel ρ v) :
  ∃ vs ob l',v=tupled vs/\outsRel w.heap.size M ob w' outs zs vs/\BlkAt w' b0 n0 l'/\Rd (outM w.heap.size M ob w') κ z l':=by
 obtain⟨vs,ht,e⟩:=sv_tvs hv hf
 have hρ0:ρ 0=some b0:=(hr.init (0,b0) (by simp)).1
 obtain⟨l',hblk,hcl⟩:=hr.blks 0 _ hB0 (by simp) b0 hρ0
 rw[hn0] at hblk
 have hown:∀ b,(⟨w,[(0,b0)],G,M,fun p=>sizeAt w p.2,1⟩:Base).own b=true->b=b0:=by
  intro b hb
  simp[Base.own] at hb;exact hb.symm
 have hi:∀ b l,(⟨w,[(0,b0)],G,M,fun p=>sizeAt w p.2,1⟩:Base).own b=true->ρ.M b≠some l:=by
  intro b l hb hm
  have:=hown b hb
  subst this
  exact (hr.mem b l hm).1 0 _ hB0 (by simp) hρ0
 have hbut:∀ i cs,butB σ.B i=some cs->σ.B i=some cs/\i≠0:=by
  intro i cs hi
  unfold butB at hi
  split at hi
  ·cases hi
  ·rename_i hq
   exact⟨hi,fun e=>by subst e;simp at hq⟩
 have hi2:∀ i cs b,butB σ.B i=some cs->cs≠[]->ρ i=some b->w.heap.size<=b:=by
  intro i cs b hi hne hb
  obtain⟨hBi,h0⟩:=hbut i cs hi
  rcases (hr.bound i b hb).1 with h|h
  ·exact h
  ·have:=hown b h
   subst this
   exact absurd (hr.inj i 0 cs _ b hBi hne hB0 (by simp) hb hρ0) h0
 have hrB:RepL ⟨w,[(0,b0)],G,M,fun p=>sizeAt w p.2,1⟩ n σ.S (butB σ.B) ρ a w' :=
  ⟨hr.defers,hr.size,hr.slots,hr.below,fun i cs hi=>hr.blks i cs (hbut i cs hi).1,fun i i' cs cs' b h1 h2 h3 h4=>hr.inj i i' cs cs' b (hbut i cs h1).1 h2 (hbut i' cs' h3).1 h4,hr.bound,hr.init,fun b l hb=>⟨fun i cs hi=>(hr.mem b l hb).1 i cs (hbut i cs hi).1,(hr.mem b l hb).2⟩,hr.old,hr.glob,hr.tops,hr.memle⟩
 cases ho:hasOwn outs with
 | false =>
  rw[ho] at hz hq;simp only at hq
  have h0:ownN outs=0:=by
   unfold hasOwn at ho
   split at ho<;>simp_all
  have hS:Sees (butB σ.B) ρ (outM w.heap.size M none w'):=by
   refine⟨rep_outMP hr hi rfl (fun b h=>(nomatch h)),fun i cs b hB hne hb=>?_⟩
   obtain⟨l,⟨rest,el,fr,k1,k2,_⟩,k3⟩:=hrB.blks i cs hB hne b hb
   refine⟨l,rest,k3,fun hn=>?_,k2⟩
   unfold outM
   rw[if_neg (fun h=>nomatch h),if_pos (hi2 i cs b hB hne hb)]
   exact memOf_blk k1 hn
  exact⟨vs,none,l',e,resPs_valP (w0:=⟨w,[(0,b0)],G,M,fun p=>sizeAt w p.2,1⟩) hS rfl h0 hz hps ht,hblk,hq _ _ hS hcl⟩
 | true =>
  rw[ho] at hz hq;simp only at hq
  obtain⟨ob,g1,g2⟩:=resPs_ownP hrB hi hi2 rfl h1 hz hps ht
  exact⟨vs,ob,l',e,g2 ob g1 (.inr rfl),hblk,hq _ _ ⟨rep_outMP hr hi rfl g1,fun _ _ _ h=>by simp[noB] at h⟩ hcl⟩
theorem postP_rel {w:World} {G:Glob} {M:Mem} {b0 n0 n:Nat} {σ:St} {ρ:Rho} {a:Act} {w':World} {κ:Kd} {outs:List OutK} {y:Car κ × HO outs} {sv:SV} {v:Value} (hlt:b0<w.heap.size) (hMb:M b0=none) (hn0:ρ.n 0=n0)
  (hr:RepL ⟨w,[(0,b0)],G,M,fun p=>sizeAt w p.2,1⟩ n σ.S σ.B ρ a w') (h1:ownN outs<=1) (h:postP κ outs y sv σ) (hv:sv.rel ρ v) :
  ∃ vs ob l',v=tupled vs/\outsRel w.heap.size M ob w' outs y.2 vs/\BlkAt w' b0 n0 l'/\Rd (outM w.heap.size M ob w') κ y.1 l':=by
 unfold postP at h
 split at h
 ·rename_i zs ps d ds hf hz hB0
  split at h
  ·rename_i z qs hq
   obtain⟨hps,h⟩:=conj_iff h
   obtain⟨hqs,rfl⟩:=conj_iff h
   refine postQ_rel hlt hMb hn0 hr h1 hf hz hps hB0 (fun M' l hS hcl=>?_) hv
   obtain⟨l1,l2,e1,k1,k2⟩:=pOne_rel hS _ _ _ _ _ _ hq hqs hcl
   have k2:l2=[]:=k2
   subst k2
   rw[List.append_nil] at e1
   rw[e1];exact k1
  ·exact h.elim
 ·exact h.elim
theorem sizeAt_blk {w:World} {b n:Nat} {l:List Value} (h:BlkAt w b n l):sizeAt w b=n:=by
 obtain⟨rest,el,fr,h1,h2,_⟩:=h
 simp only[sizeAt,h1]
 exact h2
theorem start_okP {G:Glob} {w:World} {M:Mem} {b n:Nat} {l:List Value} {κ:Kd} {x:Car κ} (hM:Mem.le M (memOf w)) (hMb:M b=none) (hG:GlOk G M) (hb:BlkAt w b n l) (hr:Rd M κ x l):Start ⟨w,[(0,b)],G,M,fun p=>sizeAt w p.2,1⟩ [(0,cellsOf κ x)] 1 ⟨fun i=>if i=0 then some b else none,fun _=>n,M⟩:=by
 have hz:∀ id b',(if id=0 then some b else none)=some b'->id=0/\b'=b:=by
  intro id b' h
  by_cases e:id=0
  ·rw[if_pos e] at h;simp at h;exact⟨e,h.symm⟩
  ·rw[if_neg e] at h;cases h
 have hl:∀ id cs,lookB [(0,cellsOf κ x)] id=some cs->id=0/\cs=cellsOf κ x:=by
  intro id cs h
  have:=lookB_mem h
  simp at this
  exact this
 refine⟨?_,?_,?_,?_,?_,?_,?_,hG,fun p hp=>by simp at hp;subst hp;exact Nat.zero_lt_one,Mem.le_refl _⟩
 ·intro id cs h _ b' hb'
  obtain⟨rfl,rfl⟩:=hl id cs h
  obtain⟨_,rfl⟩:=hz 0 b' hb'
  exact⟨l,hb,cellsOf_rel (ρ:=⟨_,_,M⟩) hr⟩
 ·intro id id' cs cs' b' h _ h' _ _ _
  rw[(hl id cs h).1,(hl id' cs' h').1]
 ·intro id b' h
  obtain⟨_,rfl⟩:=hz _ b' h
  exact⟨.inr (by simp[Base.own]),hb.lt⟩
 ·intro p hp
  simp at hp;subst hp;exact⟨rfl,(sizeAt_blk hb).symm⟩
 ·intro id b' h
  obtain⟨rfl,_⟩:=hz _ b' h
  omega
 ·intro b' l' hb'
  have hb':M b'=some l':=hb'
  refine⟨fun i cs h hne e=>?_,memOf_inv (hM b' l' hb')⟩
  obtain⟨_,eb⟩:=hz i b' e
  rw[eb] at hb'
  have hb':M b=some l':=hb'
  rw[hMb] at hb';cases hb'
 ·intro b' l' hb' _
  exact .inr hb'
theorem fn_of_trQ {sp:FuncId->Option Spec} {f:FuncId} {fn:Func} (hf:enters P f fn) {hd:Hd} {κ:Kd} {ins:List Kd} {outs:List OutK} {G:Glob} {pre:Car κ × HL ins->Prop} {F:Car κ × HL ins->Car κ × HO outs}
  (hn:ins.length+1<=fn.ntmps) (hbody:fn.body.isSome=true) {po:Car κ × HO outs->SV->St->Prop}
  (hpo:∀ {w:World} {M:Mem} {b0 n0 n:Nat} {σ:St} {ρ:Rho} {a:Act} {w':World} {y:Car κ × HO outs} {sv:SV} {v:Value},b0<w.heap.size->M b0=none->ρ.n 0=n0->RepL ⟨w,[(0,b0)],G,M,fun p=>sizeAt w p.2,1⟩ n σ.S σ.B ρ a w'->po y sv σ->sv.rel ρ v->∃ vs ob l',v=tupled vs/\outsRel w.heap.size M ob w' outs y.2 vs/\BlkAt w' b0 n0 l'/\Rd (outM w.heap.size M ob w') κ y.1 l')
  (h:∀ (w:World) (M:Mem) (b:Nat) (x:Car κ) (xs:HL ins),wfK κ x->wfL ins xs->pre (x,xs)->TrFn ⟨P,sp,⟨w,[(0,b)],G,M,fun p=>sizeAt w p.2,1⟩⟩ fn (.is (.one (hd.cell 0))::argSVs ins xs) [(0,cellsOf κ x)] 1 (po (F (x,xs)))):FnOkQ P f hd κ ins outs G pre F:=by
 intro w M us xs b n l x u hM hMb hG hin hblk hrd hp hu
 refine .inl ⟨hf.2 _ _,?_⟩
 have hcell:(hd.cell 0).rel ⟨fun i=>if i=0 then some b else none,fun _=>n,M⟩ [u]:=by
  cases hd with
  | ptr=>exact⟨b,rfl,by rw[show u=_ from hu]⟩
  | sl m c =>
   obtain⟨cap,g1,g2,e⟩:=hu
   exact .inr ⟨b,0,cap,rfl,g1,.inl (by simp),by simpa using g2,by rw[e]⟩
 refine (fn_soundT (E:=⟨P,sp,⟨w,[(0,b)],G,M,fun p=>sizeAt w p.2,1⟩⟩) hf.1 hbody (start_okP hM hMb hG hblk hrd) (vals_cons (v:=.is (.one (hd.cell 0))) hcell (argSVs_rel (ρ:=⟨_,_,M⟩) hin)) (by simp only[List.length_cons,argSVs_len];exact hn) (h w M b x xs (Rd_wf hrd) (insRel_wf hin) hp)).mono ?_
 rintro e w' ⟨v,sv,σ,ρ,m,a,rfl,hv,hq,hr⟩
 have hn0:ρ.n 0=n:=((hr.init (0,b) (by simp)).2).trans (sizeAt_blk hblk)
 obtain⟨vs,ob,l',e,ho,hb',hrd'⟩:=hpo hblk.lt hMb hn0 hr hq hv
 exact⟨v,rfl,vs,ob,l',e,ho,hb',hrd',hr.below⟩
theorem fn_of_trP {sp:FuncId->Option Spec} {f:FuncId} {fn:Func} (hf:enters P f fn) {κ:Kd} {ins:List Kd} {outs:List OutK} {G:Glob} {pre:Car κ × HL ins->Prop} {F:Car κ × HL ins->Car κ × HO outs}
  (hn:ins.length+1<=fn.ntmps) (h1:ownN outs<=1) (hbody:fn.body.isSome=true)
  (h:∀ (w:World) (M:Mem) (b:Nat) (x:Car κ) (xs:HL ins),wfK κ x->wfL ins xs->pre (x,xs)->TrFn ⟨P,sp,⟨w,[(0,b)],G,M,fun p=>sizeAt w p.2,1⟩⟩ fn (.is (.one (.ptr 0 0))::argSVs ins xs) [(0,cellsOf κ x)] 1 (postP κ outs (F (x,xs)))):FnOkP P f κ ins outs G pre F:=fn_of_trQ hf hn hbody (fun k1 k2 k3 k4 k5 k6=>postP_rel k1 k2 k3 k4 h1 k5 k6) h
theorem fn_of_trN {sp:FuncId->Option Spec} {f:FuncId} {fn:Func} (hf:enters P f fn) {e:Kd} {ins:List Kd} {outs:List OutK} {G:Glob} {pre:HL (.sl e::ins)->Prop} {F:HL (.sl e::ins)->HO outs}
  (hn:ins.length+1<=fn.ntmps) (h1:ownN outs<=1) (hbody:fn.body.isSome=true)
  (h0:∀ (w:World) (M:Mem) (ys:HL ins),wfL ins ys->pre (([]:List (Car e)),ys)->TrFn ⟨P,sp,⟨w,[],G,M,fun p=>sizeAt w p.2,0⟩⟩ fn (.is (.one (.v (.slice none 0 0)))::argSVs ins ys) [] 0 (post outs (F (([]:List (Car e)),ys))))
  (h:∀ (w:World) (M:Mem) (xs:List (Car e)) (ys:HL ins),(∀ x∈xs,wfK e x)->wfL ins ys->pre (xs,ys)->TrFn ⟨P,sp,⟨w,[],G,M,fun p=>sizeAt w p.2,0⟩⟩ fn (.is (.one (.rn e xs))::argSVs ins ys) [] 0 (post outs (F (xs,ys)))):FnOk P f (.sl e::ins) outs G pre F:=by
 intro w M us xs hM hG hin hp
 obtain⟨xs,ys⟩:=xs
 have hwf:=insRel_wf hin
 obtain⟨u,us',e1,hu,hus⟩:=hin
 subst e1
 have hu:Rd M (.sl e) xs [u]:=hu
 refine .inl ⟨hf.2 _ _,?_⟩
 have fin:∀ (s:SV),s.rel (Rho.start M) u->TrFn ⟨P,sp,⟨w,[],G,M,fun p=>sizeAt w p.2,0⟩⟩ fn (s::argSVs ins ys) [] 0 (post outs (F (xs,ys))) ->
   Calls P f ⟨u::us'⟩ w fun e w'=>∃ v,e=.returned v/\∃ vs ob,v=tupled vs/\outsRel w.heap.size M ob w' outs (F (xs,ys)) vs/\Below w.heap.size w w':=by
  intro s hs ht
  refine (fn_soundT (E:=⟨P,sp,⟨w,[],G,M,fun p=>sizeAt w p.2,0⟩⟩) hf.1 hbody (start_ok hM hG) (vals_cons hs (argSVs_rel (ρ:=Rho.start M) hus)) (by simp only[List.length_cons,argSVs_len];exact hn) ht).mono ?_
  rintro e w' ⟨v,sv,σ,ρ,n,a,rfl,hv,hq,hr⟩
  obtain⟨vs,ob,e,ho⟩:=post_rel hr rfl rfl h1 hq hv
  exact⟨v,rfl,vs,ob,e,ho,hr.below.below rfl⟩
 have hu':=hu
 rcases hu with ⟨hx,a,cap,ev,hcap⟩|⟨b,o,cap,ev,hc,hrow⟩
 ·simp only[List.cons.injEq,and_true] at ev
  cases a with
  | none =>
   have:=hcap rfl
   subst this ev
   have hx:xs=([]:List (Car e)):=hx
   subst hx
   exact fin (.is (.one (.v (.slice none 0 0)))) ⟨rfl,rfl⟩ (h0 w M ys hwf.2 hp)
  | some ad=>exact fin (.is (.one (.rn e xs))) ⟨hu',ad,0,cap,by rw[ev]⟩ (h w M xs ys hwf.1 hwf.2 hp)
 ·simp only[List.cons.injEq,and_true] at ev
  exact fin (.is (.one (.rn e xs))) ⟨hu',⟨b,o,none⟩,_,cap,by rw[ev]⟩ (h w M xs ys hwf.1 hwf.2 hp)
end
end Go.Eng
