import Derived.Test.YtbeeaekepmnfhaaGreatDoorML24oPAC
set_option maxRecDepth 100000
namespace Go.Eng
open Go Go.RowKit Cr
def LM (w:World) (M:Mem) (e:Kd) (ys:List (au e)) (o:Option Nat) (v:Value):Prop :=
 (ys=[]/\o=none/\v=.slice none 0 0) \/
 ∃ b off cap N l,o=some b/\v=.slice (some ⟨b,off,none⟩) ys.length cap/\ys.length<=cap/\(off=0\/cap=0)/\off+cap*width e<=N/\bw w b N l/\dJ (Rd M e) ys l
def QJ (own:Bool) (w:World) (M:Mem) (e:Kd) (ys:List (au e)) (o:Option Nat) (v:Value):Prop:=match own with
 | true=>LM w M e ys o v
 | false=>Rd M (.sl e) ys [v]/\o=none
def Nd (w:World):Option Nat->Nat
 | some b=>sR w b
 | none=>0
def Cx:(os:List bH)->HO os->List Value->Prop
 | [],_,vs=>vs=[]
 | .val κ::os,x,vs=>∃ v vs',vs=v::vs'/\mu (fun _=>none) κ x.1 v/\Cx os x.2 vs'
 | _::_,_,_=>False
def sr (N:Nat) (M:Mem) (o o':Option Nat) (w':World):Mem:=fun c =>
 if o'=some c then none else if N<=c\/o=some c then cu w' c else M c
def q7 (P:Program) (f:FuncId) (own:Bool) (κ e:Kd) (ins:List Kd) (outs:List bH) (G:dH) (pre:(au κ × List (au e)) × HL ins->Prop) (F:(au κ × List (au e)) × HL ins->(au κ × List (au e)) × HO outs):Prop :=
 ∀ (w:World) (M:Mem) (us:List Value) (xs:HL ins) (b n:Nat) (l:List Value) (x:au κ) (ys:List (au e)) (o:Option Nat) (v:Value),Mem.le M (cu w)->M b=none->(∀ c,o=some c->c≠b/\M c=none)->pd G M->mF M ins xs us->bw w b n (l++[v])->Rd M κ x l ->
  QJ own w M e ys o v->pre ((x,ys),xs) ->
  iy P f ⟨.pointer (some ⟨b,0,none⟩)::us⟩ w fun r w'=>∃ vs l' v' o',r=iY vs/\Cx outs (F ((x,ys),xs)).2 vs/\bw w' b n (l'++[v'])/\Rd (sr w.heap.size M o o' w') κ (F ((x,ys),xs)).1.1 l'/\LM w' (sr w.heap.size M o o' w') e (F ((x,ys),xs)).1.2 o' v' /\
   (∀ c,o'=some c->(o=some c\/w.heap.size<=c)/\c≠b)/\w'.os=w.os/\w'.tape=w.tape/\w'.output=w.output/\w.heap.size<=w'.heap.size/\(∀ c,c<w.heap.size->c≠b->o≠some c->w'.heap[c]?=w.heap[c]?)
def UF (e:Kd) (B:bm) (i0:Nat) (c:Cell):Option (Option Nat × List (au e) × List Prop):=match c with
 | .v (.slice none 0 0)=>some (none,[],[])
 | .sl i 0 0 n k=>match Nat.beq k (width e),Nat.beq i i0,B i with
  | true,false,some [c0]=>match iD c0 with
   | some ⟨e',m,xs⟩=>match e'.eq? e with
    | some ⟨h⟩=>some (some i,jq h xs,[m=n,(jq h xs).length=n])
    | none=>none
   | none=>none
  | _,_,_=>none
 | _=>none
theorem Ll {e:Kd} {B:bm} {i0:Nat} {c:Cell} {oi:Option Nat} {ys:List (au e)} {rs:List Prop} {ρ:aH} {w:World} (h:UF e B i0 c=some (oi,ys,rs)) (hrs:∀ p∈rs,p)
  (hb:∀ i cs,B i=some cs->cs≠[]->∀ b,ρ i=some b->∃ l,bw w b (ρ.n i) l/\aD ρ cs l) {vs:List Value} (hc:c.rel ρ vs) :
  (∀ i,oi=some i->i≠i0/\∃ c0,B i=some [c0])/\∃ v o,vs=[v]/\LM w ρ.M e ys o v/\(∀ b,o=some b->∃ i,oi=some i/\ρ i=some b):=by
 unfold UF at h
 split at h
 ·simp only[Option.some.injEq,Prod.mk.injEq] at h
  obtain⟨rfl,rfl,rfl⟩:=h
  exact⟨fun _ h=>(nomatch h),_,none,hc.1,.inl ⟨rfl,rfl,rfl⟩,fun _ h=>(nomatch h)⟩
 ·rename_i i n k
  split at h
  ·rename_i c0 hk hi hB
   split at h
   ·rename_i e' m xs hrow
    split at h
    ·rename_i he heq
     subst he
     simp only[Option.some.injEq,Prod.mk.injEq] at h
     obtain⟨rfl,rfl,rfl⟩:=h
     have q1:m=n:=hrs _ (by simp)
     have q2:xs.length=n:=hrs _ (List.mem_cons_of_mem _ (List.mem_cons_self ..))
     refine⟨fun j hj=>?_,?_⟩
     ·simp at hj;subst hj
      exact⟨fun e=>by subst e;simp at hi,_,hB⟩
     ·have hk:k=width e':=Nat.eq_of_beq_eq_true hk
      rcases hc with ⟨g1,g2⟩|⟨b,o,cap,g1,g2,g3,g4,g5⟩
      ·exact⟨_,none,g2,.inl ⟨List.eq_nil_of_length_eq_zero (by show xs.length=0;omega),rfl,rfl⟩,fun _ h=>(nomatch h)⟩
      ·obtain⟨l,hblk,hcl⟩:=hb i _ hB (by simp) b g1
       obtain⟨v1,v2,ev,k1,k2⟩:=hcl
       have k2:v2=[]:=k2
       subst k2 ev
       rw[List.append_nil] at hblk
       obtain⟨_,j2,_⟩:=hI hrow k1
       refine⟨_,some b,g5,.inr ⟨b,o,cap,_,_,rfl,by show _=Value.slice _ xs.length cap;rw[q2],by show xs.length<=cap;omega,by simpa using g3,by rw[<- hk];exact g4,hblk,j2⟩,fun b' hb'=>?_⟩
       simp at hb';subst hb'
       exact⟨i,rfl,g1⟩
    ·simp at h
   ·simp at h
  ·simp at h
 ·simp at h
def KZ (oi:Option Nat) (l:List Nat):List Nat:=match oi with
 | some i=>q4 i l
 | none=>l
def XJ (oi:Option Nat) (l:List Nat):Bool:=match oi with
 | some i => !pH i l
 | none=>true
def tF (oi:Option Nat):List (Nat × List Cell):=match oi with
 | some i=>[(i,[])]
 | none=>[]
def nZ (B:bm) (ids:List Nat):List (Nat × List Cell):=(ids.filter (isLive B)).map fun i=>(i,[])
def tlO (own:Bool) (e:Kd) (B:bm) (i0:Nat) (c:Cell):Option (Option Nat × List (au e) × List Prop):=match own with
 | true=>UF e B i0 c
 | false=>match c with
  | .ro e' xs=>match e'.eq? e with
   | some ⟨h⟩=>some (none,jq h xs,[])
   | none=>none
  | .v (.slice none 0 0)=>some (none,[],[])
  | _=>none
def uY (own:Bool) (κ e:Kd) (ins:List Kd) (outs:List bH) (pre:(au κ × List (au e)) × HL ins->Prop) (F:(au κ × List (au e)) × HL ins->(au κ × List (au e)) × HO outs):Spec:=fun _ id args B =>
 match args with
 | .is (.one (.ptr i0 0))::args'=>match B i0,pH i0 (dL B args') with
  | some (d::ds),false=>match eK kg κ (d::ds) with
   | some (x,ps,[c])=>match tlO own e B i0 c with
    | some (oi,ys,rs)=>match XJ oi (dL B args'),nF (gV (KZ oi (q4 i0 (dL B args))) B) ins args' with
     | true,some (xs,qs)=>some {
       val:=p5 (fI id outs (F ((x,ys),xs)).2)
       new:=[(id,[ft e (F ((x,ys),xs)).1.2.length (F ((x,ys),xs)).1.2])]
       wr:=(i0,cellsOf κ (F ((x,ys),xs)).1.1++[.sl id 0 0 (F ((x,ys),xs)).1.2.length (width e)])::(tF oi++nZ B (KZ oi (q4 i0 (dL B args))))
       pre:=ps++(rs++(qs++[pre ((x,ys),xs)])) }
     | _,_=>none
    | none=>none
   | _=>none
  | _,_=>none
 | _=>none
theorem Eb {oi:Option Nat} {j:Nat} {l:List Nat} (h:j∈KZ oi l):j∈l/\∀ i,oi=some i->j≠i:=by
 cases oi with
 | none=>exact⟨h,fun _ e=>(nomatch e)⟩
 | some i =>
  obtain⟨h1,h2⟩:=rG h
  exact⟨h1,fun k e=>by simp at e;subst e;exact h2⟩
theorem Mu {B:bm} {ids:List Nat} {p:Nat × List Cell} (h:p∈nZ B ids):p.2=[]/\p.1∈ids/\∃ cs,B p.1=some cs/\cs≠[]:=by
 unfold nZ at h
 obtain⟨i,hi,rfl⟩:=List.mem_map.1 h
 obtain⟨h1,h2⟩:=List.mem_filter.1 hi
 refine⟨rfl,h1,?_⟩
 unfold isLive at h2
 split at h2
 ·rename_i c cs hq
  exact⟨_,hq,by simp⟩
 ·cases h2
theorem Mt {B:bm} {ids:List Nat} {i:Nat} (hi:i∈ids) {cs:List Cell} (hB:B i=some cs) (hne:cs≠[]):(i,[])∈nZ B ids:=by
 have hl:isLive B i=true:=by
  unfold isLive
  rw[hB]
  cases cs with
  | nil=>exact absurd rfl hne
  | cons c cs=>rfl
 exact List.mem_map.2 ⟨i,List.mem_filter.2 ⟨hi,hl⟩,rfl⟩
theorem MG {N:Nat} {M:Mem} {ob:Option Nat} {w':World}:∀ {os:List bH} {ys:HO os} {vs:List Value},cF os=true->Cx os ys vs->cx os=0/\dY N M ob w' os ys vs:=by
 intro os
 induction os with
 | nil=>intro ys vs _ h;exact⟨rfl,h⟩
 | cons o os ih =>
  intro ys vs hp h
  cases o with
  | own e=>exact h.elim
  | box e=>exact h.elim
  | val κ =>
   obtain⟨v,vs',e,h1,h2⟩:=h
   simp only[cF,Bool.and_eq_true] at hp
   obtain⟨k1,k2⟩:=ih hp.2 h2
   exact⟨k1,v,vs',e,o4 (fun l hr=>rR hp.1 hr) h1,k2⟩
section
variable {P:Program}
theorem abz {f:FuncId} {own:Bool} {κ e:Kd} {ins:List Kd} {outs:List bH} {G:dH} {pre:(au κ × List (au e)) × HL ins->Prop} {F:(au κ × List (au e)) × HL ins->(au κ × List (au e)) × HO outs} (h:q7 P f own κ e ins outs G pre F) (hpl:cF outs=true) {w0:bW} {id i0 b0:Nat} {s0:SV} {args':List SV} {B:bm} {ρ:aH} {us':List Value} {w:World} {d:Cell} {ds:List Cell} {c:Cell} {x:au κ} {ps:List Prop} {oi:Option Nat} {ys:List (au e)} {rs:List Prop} {xs:HL ins} {qs pp:List Prop}
  (hB0:B i0=some (d::ds)) (hx:eK kg κ (d::ds)=some (x,ps,[c])) (hps:∀ p∈ps,p) (ht:tlO own e B i0 c=some (oi,ys,rs)) (hrs:∀ p∈rs,p)
  (hxs:nF (gV (KZ oi (q4 i0 (dL B (s0::args')))) B) ins args'=some (xs,qs)) (hqs:∀ p∈qs,p) (hpre:pre ((x,ys),xs)) (hG:∀ g s,G g=some s->w0.gl g=some s) (hb0:ρ i0=some b0) (hus':aW ρ args' us') (hc:Ctx w0 id ρ B w) :
  iy P f ⟨.pointer (some ⟨b0,0,none⟩)::us'⟩ w fun v w'=>∃ ρ',(p5 (fI id outs (F ((x,ys),xs)).2)).rel ρ' v/\Eff id B { val:=p5 (fI id outs (F ((x,ys),xs)).2),new:=[(id,[ft e (F ((x,ys),xs)).1.2.length (F ((x,ys),xs)).1.2])],wr:=(i0,cellsOf κ (F ((x,ys),xs)).1.1++[.sl id 0 0 (F ((x,ys),xs)).1.2.length (width e)])::(tF oi++nZ B (KZ oi (q4 i0 (dL B (s0::args'))))),pre:=pp } ρ ρ' w w':=by
 classical
 obtain⟨l0,hblk0,hcl0⟩:=hc.blks i0 (d::ds) hB0 (by simp) b0 hb0
 obtain⟨l1,l2,el0,hrd1,hcl2⟩:=gz (iX ρ) _ _ _ _ _ _ hx hps hcl0
 obtain⟨vc,v2,ev2,hcc,hv2⟩:=hcl2
 have hv2:v2=[]:=hv2
 subst hv2 ev2
 rw[List.append_nil] at el0
 -- the last field
 have tail:(∀ i,oi=some i->i≠i0/\∃ c0,B i=some [c0])/\∃ v o,vc=[v]/\QJ own w ρ.M e ys o v/\(∀ b,o=some b->∃ i,oi=some i/\ρ i=some b):=by
  cases own with
  | true=>exact Ll ht hrs (fun i cs hi hne b hb=>hc.blks i cs hi hne b hb) hcc
  | false =>
   unfold tlO at ht
   simp only at ht
   split at ht
   ·rename_i e' zs
    split at ht
    ·rename_i he heq
     subst he
     simp only[Option.some.injEq,Prod.mk.injEq] at ht
     obtain⟨rfl,rfl,rfl⟩:=ht
     have hl:=bD (e:=.sl e') hcc
     match vc,hl with
     | [v],_=>exact⟨fun _ h=>(nomatch h),v,none,rfl,⟨hcc,rfl⟩,fun _ h=>(nomatch h)⟩
    ·cases ht
   ·simp only[Option.some.injEq,Prod.mk.injEq] at ht
    obtain⟨rfl,rfl,rfl⟩:=ht
    exact⟨fun _ h=>(nomatch h),_,none,hcc.1,⟨.inl ⟨rfl,none,0,rfl,fun _=>rfl⟩,rfl⟩,fun _ h=>(nomatch h)⟩
   ·cases ht
 obtain⟨hoi,v0,o,rfl,hov,ho⟩:=tail
 subst el0
 -- what the callee may see
 let ids:=KZ oi (q4 i0 (dL B (s0::args')))
 let ownB:Nat->Prop:=fun b=>∃ i cs,i∈ids/\B i=some cs/\cs≠[]/\ρ i=some b
 let M0:Mem:=fun b=>if ownB b then cu w b else ρ.M b
 have hne0:∀ b,ownB b->b≠b0:=by
  rintro b ⟨i,cs,hi,hBi,hne,hb⟩ rfl
  exact (rG (Eb hi).1).2 (hc.inj i i0 cs (d::ds) b hBi hne hB0 (by simp) hb hb0)
 have hne1:∀ b,ownB b->o≠some b:=by
  rintro b ⟨i,cs,hi,hBi,hne,hb⟩ hob
  obtain⟨i1,e1,hb1⟩:=ho b hob
  obtain⟨_,c0,hB1⟩:=hoi i1 e1
  exact (Eb hi).2 i1 e1 (hc.inj i i1 cs [c0] b hBi hne hB1 (by simp) hb hb1)
 have hM0b:M0 b0=none:=by
  simp only[M0]
  rw[if_neg (fun ho=>hne0 _ ho rfl)]
  cases hq:ρ.M b0 with
  | none=>rfl
  | some l=>exact absurd hb0 (hc.apart b0 l hq i0 (d::ds) hB0 (by simp))
 have hob0:∀ b,o=some b->b≠b0/\ρ.M b=none:=by
  intro b hb
  obtain⟨i1,e1,hb1⟩:=ho b hb
  obtain⟨hi1,c0,hB1⟩:=hoi i1 e1
  refine⟨fun e=>?_,?_⟩
  ·subst e
   exact hi1 (hc.inj i1 i0 [c0] (d::ds) b hB1 (by simp) hB0 (by simp) hb1 hb0)
  ·cases hq:ρ.M b with
   | none=>rfl
   | some l=>exact absurd hb1 (hc.apart b l hq i1 [c0] hB1 (by simp))
 have hobM:∀ b,o=some b->b≠b0/\M0 b=none:=by
  intro b hb
  refine⟨(hob0 b hb).1,?_⟩
  simp only[M0]
  rw[if_neg (fun h=>hne1 b h hb)]
  exact (hob0 b hb).2
 have hM0:∀ b l,M0 b=some l->cu w b=some l:=by
  intro b l hb
  simp only[M0] at hb
  split at hb
  ·exact hb
  ·obtain⟨el,fr,hh⟩:=hc.mem b l hb;exact c9 hh
 have hρM:Mem.le ρ.M M0:=by
  intro b l hb
  simp only[M0]
  split
  ·obtain⟨el,fr,hh⟩:=hc.mem b l hb;exact c9 hh
  ·exact hb
 have hsees:Sees (gV ids B) ρ M0:=by
  refine⟨hρM,fun i cs b hi hne hb=>?_⟩
  have hmem:i∈ids:=by
   unfold gV at hi
   split at hi
   ·rename_i hm;exact wc hm
   ·cases hi
  have hBi:=jC hi
  obtain⟨l,⟨rest,el,fr,k1,k2,_⟩,k3⟩:=hc.blks i cs hBi hne b hb
  refine⟨l,rest,k3,?_,k2⟩
  simp only[M0]
  rw[if_pos ⟨i,cs,hmem,hBi,hne,hb⟩]
  exact c9 k1
 have hins:=xw hsees hxs hqs hus'
 have hgl:pd G M0:=fun g e x hg=>kF hρM (hc.glob g e x (hG g _ hg))
 have hov0:QJ own w M0 e ys o v0:=by
  cases own with
  | false=>exact⟨cy (e:=.sl e) hρM hov.1,hov.2⟩
  | true =>
   rcases hov with hov|⟨b,off,cap,N,l,k1,k2,k3,k4,k5,k6,k7⟩
   ·exact .inl hov
   ·exact .inr ⟨b,off,cap,N,l,k1,k2,k3,k4,k5,k6,dz (fun _ _=>cy hρM) k7⟩
 refine (h w M0 us' xs b0 _ l1 x ys o v0 hM0 hM0b hobM hgl hins hblk0 (cy hρM hrd1) hov0 hpre).mono ?_
 rintro r w' ⟨vs,l',v',o',rfl,hout,hblk',hrd',hov',ho',hos,htape,hout',hsize,hsame⟩
 have hlt:∀ b l,ρ.M b=some l->b<w.heap.size:=by
  intro b l hb
  obtain⟨el,fr,hh⟩:=hc.mem b l hb
  exact we (c9 hh)
 have hfree:=hc.free id (Nat.le_refl _) (by omega)
 let ρ2:aH:=⟨fun i=>if i=id then o' else ρ i,fun i=>if i=id then Nd w' o' else ρ.n i,sr w.heap.size M0 o o' w'⟩
 have hid:ρ2 id=o':=by show (if id=id then o' else ρ id)=o';rw[if_pos rfl]
 have hle:aH.le ρ ρ2:=by
  refine⟨fun i c hi=>?_,fun b l hb=>?_⟩
  ·have e:i≠id:=fun e=>by subst e;rw[hfree] at hi;cases hi
   exact⟨by show (if i=id then o' else ρ i)=some c;rw[if_neg e];exact hi,by show (if i=id then _ else ρ.n i)=ρ.n i;rw[if_neg e]⟩
  ·have hl:=hlt b l hb
   show sr _ _ _ _ _ b=some l
   unfold sr
   have n1:o≠some b:=fun e=>by rw[(hob0 b e).2] at hb;cases hb
   rw[if_neg (fun e=>?_),if_neg (fun e=>?_)]
   ·exact hρM b l hb
   ·rcases e with e|e
    ·omega
    ·exact n1 e
   ·rcases (ho' b e).1 with e|e
    ·exact n1 e
    ·omega
 have htl:(Cell.sl id 0 0 (F ((x,ys),xs)).1.2.length (width e)).rel ρ2 [v']:=by
  rcases hov' with ⟨k1,k2,k3⟩|⟨b,off,cap,N,l,k1,k2,k3,k4,k5,k6,k7⟩
  ·exact .inl ⟨by rw[k1];rfl,by rw[k3]⟩
  ·refine .inr ⟨b,off,cap,by rw[hid,k1],k3,by simpa using k4,?_,by rw[k2]⟩
   show _<=(if id=id then Nd w' o' else ρ.n id)
   rw[if_pos rfl,k1]
   show _<=sR w' b
   rw[gW k6]
   exact k5
 have hwrk:∀ p∈tF oi++nZ B ids,p.2=[]/\p.1≠i0/\∃ cs,B p.1=some cs/\cs≠[]:=by
  intro p hp
  rcases List.mem_append.1 hp with hp|hp
  ·cases oi with
   | none=>cases hp
   | some i1 =>
    have hp:p=(i1,[]):=by simpa[tF] using hp
    obtain⟨k1,c0,k2⟩:=hoi i1 rfl
    rw[hp]
    exact⟨rfl,k1,_,k2,by simp⟩
  ·obtain⟨k1,k2,k3⟩:=Mu hp
   exact⟨k1,(rG (Eb k2).1).2,k3⟩
 have hko:∀ b,o=some b->∃ q∈(i0,cellsOf κ (F ((x,ys),xs)).1.1++[Cell.sl id 0 0 (F ((x,ys),xs)).1.2.length (width e)])::(tF oi++nZ B ids),ρ q.1=some b/\q.2=[]:=by
  intro b hb
  obtain⟨i1,e1,hb1⟩:=ho b hb
  refine⟨(i1,[]),List.mem_cons_of_mem _ (List.mem_append_left _ (by rw[e1];simp[tF])),hb1,rfl⟩
 refine⟨ρ2,vG ?_,⟨hle,?_,?_,hos,htape,hout',hsize,?_,?_,?_,?_,?_,?_⟩⟩
 ·obtain⟨g1,g2⟩:=MG (N:=w.heap.size) (M:=M0) (ob:=none) (w':=w') hpl hout
  exact (Bf (ρ':=ρ2) (id:=id) (fun e x l hr hor=>by
   rcases hor with hor|hor
   ·exact rR hor hr
   ·exact cy hor hr) g1 (.inl hpl) g2).2
 ·intro i b hi
  have hi:(if i=id then o' else ρ i)=some b:=hi
  by_cases ei:i=id
  ·rw[if_pos ei] at hi
   refine .inr ⟨by omega,by omega,⟨_,List.mem_singleton_self _,ei.symm⟩,?_⟩
   rcases (ho' b hi).1 with g|g
   ·obtain⟨q,q1,q2,_⟩:=hko b g
    exact .inr ⟨q,q1,q2⟩
   ·exact .inl g
  ·rw[if_neg ei] at hi
   exact .inl hi
 ·intro i b hi
  have hi2:(if i=id then o' else ρ i)=some b:=hi
  by_cases ei:i=id
  ·rw[if_pos ei] at hi2
   rcases hov' with ⟨_,k2,_⟩|⟨b',off,cap,N,l,k1,_,_,_,_,k6,_⟩
   ·exact absurd (k2.symm.trans hi2) (by simp)
   ·have eb:b'=b:=Option.some.inj (k1.symm.trans hi2)
    rw[<- eb]
    exact k6.lt
  ·rw[if_neg ei] at hi2
   exact Nat.lt_of_lt_of_le (hc.bound i b hi2) hsize
 ·intro b hb hno
  refine hsame b hb (fun e=>?_) (fun e=>?_)
  ·subst e
   exact hno _ (List.mem_cons_self ..) hb0
  ·obtain⟨q,q1,q2,_⟩:=hko b e
   exact hno q q1 q2
 ·intro p hp
  have hp:p=(id,[ft e (F ((x,ys),xs)).1.2.length (F ((x,ys),xs)).1.2]):=by simpa using hp
  subst hp
  refine⟨Nat.le_refl _,by show id<id+8;omega,fun b hb _=>?_⟩
  have hb:ρ2 id=some b:=hb
  rw[hid] at hb
  refine⟨?_,?_⟩
  ·rcases (ho' b hb).1 with g|g
   ·exact .inr (hko b g)
   ·exact .inl g
  ·rcases hov' with ⟨_,k2,_⟩|⟨b',off,cap,N,l,k1,_,_,_,_,k6,k7⟩
   ·rw[k2] at hb;cases hb
   ·rw[k1] at hb
    simp only[Option.some.injEq] at hb
    subst hb
    refine⟨l,?_,aZ (dU rfl k7)⟩
    show bw w' b' (if id=id then Nd w' o' else ρ.n id) l
    rw[if_pos rfl,k1]
    show bw w' b' (sR w' b') l
    rw[gW k6]
    exact k6
 ·intro p hp q hq _ _ _
  simp at hp hq;rw[hp,hq]
 ·have hun:∀ p∈tF oi++nZ B ids,∀ q∈tF oi++nZ B ids,p.1=q.1->p=q:=fun p hp q hq e=>Prod.ext e ((hwrk p hp).1.trans (hwrk q hq).1.symm)
  intro p hp q hq e
  rcases List.mem_cons.1 hp with rfl|hp<;>rcases List.mem_cons.1 hq with rfl|hq
  ·rfl
  ·exact absurd e.symm (hwrk q hq).2.1
  ·exact absurd e (hwrk p hp).2.1
  ·exact hun p hp q hq e
 ·intro p hp
  rcases List.mem_cons.1 hp with rfl|hp
  ·refine⟨⟨_,hB0,by simp⟩,fun b hb _=>?_⟩
   have hb:ρ i0=some b:=hb
   rw[hb0] at hb
   simp only[Option.some.injEq] at hb
   subst hb
   exact⟨_,hblk',dc (eg (ρ:=ρ2) hrd') (aZ htl)⟩
  ·exact⟨(hwrk p hp).2.2,fun _ _ hne=>absurd (hwrk p hp).1 hne⟩
 ·intro b l hb
  have hb:sr w.heap.size M0 o o' w' b=some l:=hb
  unfold sr at hb
  split at hb
  ·cases hb
  ·rename_i hno
   have nn:∀ p∈[(id,[ft e (F ((x,ys),xs)).1.2.length (F ((x,ys),xs)).1.2])],ρ2 p.1≠some b:=by
    intro p hp
    have hp:p=(id,[ft e (F ((x,ys),xs)).1.2.length (F ((x,ys),xs)).1.2]):=by simpa using hp
    subst hp
    show ρ2 id≠some b
    rw[hid];exact hno
   split at hb
   ·rename_i hN
    refine .inr ⟨nn,?_,fU hb⟩
    rcases hN with hN|hN
    ·exact .inl hN
    ·exact .inr (hko b hN)
   ·rename_i hN
    have hm:=hM0 b l hb
    obtain⟨el,fr,hh⟩:=fU hm
    simp only[M0] at hb
    split at hb
    ·rename_i hown
     have hbn:=hne0 b hown
     obtain⟨i,cs,hi1,hi2,hi3,hi4⟩:=hown
     refine .inr ⟨nn,.inr ⟨(i,[]),List.mem_cons_of_mem _ (List.mem_append_right _ (Mt hi1 hi2 hi3)),hi4,rfl⟩,el,fr,?_⟩
     rw[hsame b (by have:=we hm;omega) hbn (fun e=>hN (.inr e))]
     exact hh
    ·exact .inl hb
theorem Al {f:FuncId} {own:Bool} {κ e:Kd} {ins:List Kd} {outs:List bH} {G:dH} {pre:(au κ × List (au e)) × HL ins->Prop} {F:(au κ × List (au e)) × HL ins->(au κ × List (au e)) × HO outs} (h:q7 P f own κ e ins outs G pre F) (hpl:cF outs=true) {w0:bW} {id:Nat} {args:List SV} {B:bm} {out:Out}
  (hF:uY own κ e ins outs pre F w0 id args B=some out) (hp:∀ p∈out.pre,p) (hG:∀ g s,G g=some s->w0.gl g=some s) {ρ:aH} {us:List Value} {w:World} (hv:aW ρ args us) (hc:Ctx w0 id ρ B w) :
  iy P f ⟨us⟩ w fun v w'=>∃ ρ',out.val.rel ρ' v/\Eff id B out ρ ρ' w w':=by
 unfold uY at hF
 split at hF
 ·split at hF
  ·rename_i d ds hB0 hm0
   split at hF
   ·rename_i x ps c hx
    split at hF
    ·rename_i oi ys rs ht
     split at hF
     ·rename_i xs qs ha hxs
      simp only[Option.some.injEq] at hF;subst hF
      obtain⟨u0,us',e0,hu0,hus'⟩:=hv
      obtain⟨b0,hb0,eu0⟩:=kn hu0
      subst eu0 e0
      exact abz h hpl hB0 hx (fun p hp'=>hp p (by simp[hp'])) ht (fun p hp'=>hp p (by simp[hp'])) hxs (fun p hp'=>hp p (by simp[hp'])) (hp _ (by simp)) hG hb0 hus' hc
     ·simp at hF
    ·simp at hF
   ·simp at hF
  ·simp at hF
 ·simp at hF
theorem Mb {f:FuncId} {own:Bool} {κ e:Kd} {ins:List Kd} {outs:List bH} {pre:(au κ × List (au e)) × HL ins->Prop} {F:(au κ × List (au e)) × HL ins->(au κ × List (au e)) × HO outs} (h:q7 P f own κ e ins outs aM pre F) (hpl:cF outs=true:=by decide):nE P f (uY own κ e ins outs pre F):=by
 intro w0 id args B out hF hp ρ us w hv hc
 exact Al h hpl hF hp (fun _ _ h=>by simp[aM] at h) hv hc
def AX (G:dH) (own:Bool) (κ e:Kd) (ins:List Kd) (outs:List bH) (pre:(au κ × List (au e)) × HL ins->Prop) (F:(au κ × List (au e)) × HL ins->(au κ × List (au e)) × HO outs):Spec:=fun W id args B =>
 match uY own κ e ins outs pre F W id args B with
 | some o=>some { o with pre:=(∀ g s,G g=some s->W.gl g=some s)::o.pre }
 | none=>none
theorem IX {f:FuncId} {own:Bool} {κ e:Kd} {ins:List Kd} {outs:List bH} {G:dH} {pre:(au κ × List (au e)) × HL ins->Prop} {F:(au κ × List (au e)) × HL ins->(au κ × List (au e)) × HO outs} (h:q7 P f own κ e ins outs G pre F) (hpl:cF outs=true:=by decide):nE P f (AX G own κ e ins outs pre F):=by
 intro w0 id args B out hF hp ρ us w hv hc
 unfold AX at hF
 split at hF
 ·rename_i o ho
  simp only[Option.some.injEq] at hF;subst hF
  refine (Al h hpl ho (fun p hp'=>hp p (List.mem_cons_of_mem _ hp')) (hp _ (List.mem_cons_self ..)) hv hc).mono ?_
  rintro v w' ⟨ρ',h1,h2⟩
  exact⟨ρ',h1,⟨h2.le,h2.dom,h2.bound,h2.os,h2.tape,h2.output,h2.size,h2.same,h2.new,h2.newinj,h2.wruniq,h2.wr,h2.mem⟩⟩
 ·simp at hF
end
def Cy (κ e:Kd) (outs:List bH) (y:(au κ × List (au e)) × HO outs) (sv:SV) (σ:St):Prop :=
 match vD sv,fu true kg outs (z5 sv),σ.B 0 with
 | true,some (zs,ps),some (d::ds)=>match eK kg κ (d::ds) with
  | some (z,qs,[c])=>match UF e σ.B 0 c with
   | some (_,ys,rs)=>uj ps (uj qs (uj rs (((z,ys),zs)=y)))
   | none=>False
  | _=>False
 | _,_,_=>False
theorem Sz {ρ:aH}:∀ {os:List bH} {xs:List TV} {ys:HO os} {ps:List Prop} {vs:List Value},cF os=true->cx os=0->fu true kg os xs=some (ys,ps)->(∀ p∈ps,p)->dX ρ xs vs->Cx os ys vs:=by
 intro os
 induction os with
 | nil=>intro xs ys ps vs _ _ h _ ht;cases xs with
  | nil=>exact ht
  | cons _ _=>simp[fu] at h
 | cons o os ih=>intro xs ys ps vs hpl h0 h hp ht;cases xs with
  | nil=>simp[fu] at h
  | cons x xs =>
   cases o with
   | own e=>simp[cx] at h0
   | box e=>simp[cx] at h0
   | val κ =>
    simp only[cF,Bool.and_eq_true] at hpl
    simp only[fu] at h
    split at h
    ·rename_i y p hy
     split at h
     ·rename_i zs qs hz
      simp only[Option.some.injEq,Prod.mk.injEq] at h
      obtain⟨rfl,rfl⟩:=h
      obtain⟨v,vs',e,h1,h2⟩:=ht
      have hy:Ek kg κ (.is x)=some (y,p):=hy
      exact⟨v,vs',e,o4 (fun l hr=>rR hpl.1 hr) (p8 (iX ρ) hy (fun p hp'=>hp p (List.mem_append_left _ hp')) h1),ih hpl.2 h0 hz (fun p hp'=>hp p (List.mem_append_right _ hp')) h2⟩
     ·simp at h
    ·simp at h
theorem yq {w:World} {G:dH} {M:Mem} {ids:List (Nat × Nat)} {b0 n0 n:Nat} {o:Option Nat} {σ:St} {ρ:aH} {a:Act} {w':World} {κ e:Kd} {outs:List bH} {y:(au κ × List (au e)) × HO outs} {sv:SV} {v:Value} (hown:∀ c,(⟨w,ids,G,M⟩:bW).own c=true->c=b0\/o=some c) (hin:(0,b0)∈ids) (hn0:ρ.n 0=n0)
  (hr:dI ⟨w,ids,G,M⟩ n σ.S σ.B ρ a w') (hpl:cF outs=true) (h0:cx outs=0) (h:Cy κ e outs y sv σ) (hv:sv.rel ρ v) :
  ∃ vs l' v' o',v=iY vs/\Cx outs y.2 vs/\bw w' b0 n0 (l'++[v'])/\Rd (sr w.heap.size M o o' w') κ y.1.1 l'/\LM w' (sr w.heap.size M o o' w') e y.1.2 o' v'/\(∀ c,o'=some c->(o=some c\/w.heap.size<=c)/\c≠b0):=by
 unfold Cy at h
 split at h
 ·rename_i zs ps d ds hf hz hB0
  split at h
  ·rename_i z qs c hq
   split at h
   ·rename_i oi ys rs ht
    obtain⟨hps,h⟩:=lH h
    obtain⟨hqs,h⟩:=lH h
    obtain⟨hrs,rfl⟩:=lH h
    obtain⟨vs,htv,ev⟩:=Ij hv hf
    have hρ0:ρ 0=some b0:=(hr.init (0,b0) hin).1
    obtain⟨L,hblk,hcl⟩:=hr.blks 0 _ hB0 (by simp) b0 hρ0
    rw[hn0] at hblk
    obtain⟨l1,l2,el,k1,k2⟩:=gz (iX ρ) _ _ _ _ _ _ hq hqs hcl
    obtain⟨vc,v2,ev2,k3,k4⟩:=k2
    have k4:v2=[]:=k4
    subst k4 ev2
    rw[List.append_nil] at el
    obtain⟨hoi,v',o',rfl,hov,ho⟩:=Ll ht hrs (fun i cs hi hne b hb=>hr.blks i cs hi hne b hb) k3
    subst el
    have live:∀ b,o'=some b->(∀ l,ρ.M b≠some l)/\b≠b0/\(o=some b\/w.heap.size<=b):=by
     intro b hb
     obtain⟨i,ei,hρi⟩:=ho b hb
     obtain⟨hi0,c0,hBi⟩:=hoi i ei
     have hb0:b≠b0:=fun e=>by
      subst e
      exact hi0 (hr.inj i 0 _ _ b hBi (by simp) hB0 (by simp) hρi hρ0)
     refine⟨fun l hm=>(hr.mem b l hm).1 i _ hBi (by simp) hρi,hb0,?_⟩
     rcases (hr.bound i b hρi).1 with g|g
     ·exact .inr g
     ·rcases hown b g with g|g
      ·exact absurd g hb0
      ·exact .inl g
    have hle:Mem.le ρ.M (sr w.heap.size M o o' w'):=by
     intro b l hb
     unfold sr
     rw[if_neg (fun e=>(live b e).1 l hb)]
     obtain⟨g1,el,fr,g2⟩:=hr.mem b l hb
     split
     ·exact c9 g2
     ·rename_i hN
      rcases hr.old b l hb (by show b<w.heap.size;omega) with g|g
      ·rcases hown b g with g|g
       ·subst g
        exact absurd hρ0 (g1 0 _ hB0 (by simp))
       ·exact absurd (.inr g) hN
      ·exact g
    refine⟨vs,l1,v',o',ev,Sz hpl h0 hz hps htv,hblk,cy hle k1,?_,fun b hb=>⟨(live b hb).2.2,(live b hb).2.1⟩⟩
    rcases hov with hov|⟨b,off,cap,N,l,j1,j2,j3,j4,j5,j6,j7⟩
    ·exact .inl hov
    ·exact .inr ⟨b,off,cap,N,l,j1,j2,j3,j4,j5,j6,dz (fun _ _=>cy hle) j7⟩
   ·exact h.elim
  ·exact h.elim
 ·exact h.elim
theorem Qp {G:dH} {w:World} {M:Mem} {b n:Nat} {l:List Value} {cs:List Cell} (hM:Mem.le M (cu w)) (hMb:M b=none) (hG:pd G M) (hb:bw w b n l) (hr:aD ⟨fun i=>if i=0 then some b else none,fun _=>n,M⟩ cs l):Start ⟨w,[(0,b)],G,M⟩ [(0,cs)] 1 ⟨fun i=>if i=0 then some b else none,fun _=>n,M⟩:=by
 have hz:∀ id b',(if id=0 then some b else none)=some b'->id=0/\b'=b:=by
  intro id b' h
  by_cases e:id=0
  ·rw[if_pos e] at h;simp at h;exact⟨e,h.symm⟩
  ·rw[if_neg e] at h;cases h
 have hl:∀ id ds,dE [(0,cs)] id=some ds->id=0/\ds=cs:=by
  intro id ds h
  have:=ia h
  simp at this
  exact this
 refine⟨?_,?_,?_,?_,?_,?_,?_,hG⟩
 ·intro id ds h _ b' hb'
  obtain⟨rfl,rfl⟩:=hl id ds h
  obtain⟨_,rfl⟩:=hz 0 b' hb'
  exact⟨l,hb,hr⟩
 ·intro id id' ds ds' b' h _ h' _ _ _
  rw[(hl id ds h).1,(hl id' ds' h').1]
 ·intro id b' h
  obtain⟨_,rfl⟩:=hz _ b' h
  exact⟨.inr (by simp[bW.own]),hb.lt⟩
 ·intro p hp
  simp at hp;subst hp;exact⟨rfl,(gW hb).symm⟩
 ·intro id b' h
  obtain⟨rfl,_⟩:=hz _ b' h
  omega
 ·intro b' l' hb'
  have hb':M b'=some l':=hb'
  refine⟨fun i ds h hne e=>?_,fU (hM b' l' hb')⟩
  obtain⟨_,eb⟩:=hz i b' e
  rw[eb] at hb'
  have hb':M b=some l':=hb'
  rw[hMb] at hb';cases hb'
 ·intro b' l' hb' _
  exact .inr hb'
def two (b b1 n N:Nat) (M:Mem):aH:=⟨fun i=>if i=0 then some b else if i=1 then some b1 else none,fun i=>if i=0 then n else if i=1 then N else 0,M⟩
theorem abe {G:dH} {w:World} {M:Mem} {b b1 n N:Nat} {l l1:List Value} {cs cs1:List Cell} (hM:Mem.le M (cu w)) (hMb:M b=none) (hne:b1≠b) (hM1:M b1=none) (hG:pd G M) (hb:bw w b n l) (hb1:bw w b1 N l1) (hr:aD (two b b1 n N M) cs l) (hr1:aD (two b b1 n N M) cs1 l1):Start ⟨w,[(0,b),(1,b1)],G,M⟩ [(0,cs),(1,cs1)] 2 (two b b1 n N M):=by
 have hz:∀ id b',(two b b1 n N M) id=some b'->(id=0/\b'=b)\/(id=1/\b'=b1):=by
  intro id b' h
  have h:(if id=0 then some b else if id=1 then some b1 else none)=some b':=h
  by_cases e:id=0
  ·rw[if_pos e] at h;simp at h;exact .inl ⟨e,h.symm⟩
  ·rw[if_neg e] at h
   by_cases e1:id=1
   ·rw[if_pos e1] at h;simp at h;exact .inr ⟨e1,h.symm⟩
   ·rw[if_neg e1] at h;cases h
 have hl:∀ id ds,dE [(0,cs),(1,cs1)] id=some ds->(id=0/\ds=cs)\/(id=1/\ds=cs1):=by
  intro id ds h
  have:=ia h
  simpa using this
 refine⟨?_,?_,?_,?_,?_,?_,?_,hG⟩
 ·intro id ds h _ b' hb'
  rcases hl id ds h with ⟨rfl,rfl⟩|⟨rfl,rfl⟩
  ·rcases hz 0 b' hb' with ⟨_,rfl⟩|⟨h,_⟩
   ·exact⟨l,hb,hr⟩
   ·cases h
  ·rcases hz 1 b' hb' with ⟨h,_⟩|⟨_,rfl⟩
   ·cases h
   ·exact⟨l1,hb1,hr1⟩
 ·intro id id' ds ds' b' _ _ _ _ h h'
  rcases hz id b' h with ⟨rfl,e⟩|⟨rfl,e⟩<;>rcases hz id' b' h' with ⟨rfl,e'⟩|⟨rfl,e'⟩
  ·rfl
  ·exact absurd (e'.symm.trans e) hne
  ·exact absurd (e.symm.trans e') hne
  ·rfl
 ·intro id b' h
  rcases hz id b' h with ⟨_,rfl⟩|⟨_,rfl⟩
  ·exact⟨.inr (by simp[bW.own]),hb.lt⟩
  ·exact⟨.inr (by simp[bW.own]),hb1.lt⟩
 ·intro p hp
  simp at hp
  rcases hp with rfl|rfl
  ·exact⟨rfl,(gW hb).symm⟩
  ·exact⟨rfl,(gW hb1).symm⟩
 ·intro id b' h
  rcases hz id b' h with ⟨rfl,_⟩|⟨rfl,_⟩<;>omega
 ·intro b' l' hb'
  have hb':M b'=some l':=hb'
  refine⟨fun i ds _ _ e=>?_,fU (hM b' l' hb')⟩
  rcases hz i b' e with ⟨_,eb⟩|⟨_,eb⟩
  ·rw[eb] at hb'
   have hb':M b=some l':=hb'
   rw[hMb] at hb';cases hb'
  ·rw[eb] at hb'
   have hb':M b1=some l':=hb'
   rw[hM1] at hb';cases hb'
 ·intro b' l' hb' _
  exact .inr hb'
section
variable {P:Program}
theorem OA {sp:FuncId->Option Spec} {f:FuncId} {fn:Func} (hf:enters P f fn) {κ e:Kd} {ins:List Kd} {outs:List bH} {G:dH} {pre:(au κ × List (au e)) × HL ins->Prop} {F:(au κ × List (au e)) × HL ins->(au κ × List (au e)) × HO outs}
  (hn:ins.length+1<=fn.ntmps) (hpl:cF outs=true) (h0:cx outs=0) (hbody:fn.body.isSome=true)
  (hnil:∀ (w:World) (M:Mem) (b:Nat) (x:au κ) (xs:HL ins),pb κ x->vI ins xs->pre ((x,[]),xs)->qQ ⟨P,sp,⟨w,[(0,b)],G,M⟩⟩ fn (.is (.one (.ptr 0 0))::g9 ins xs) [(0,cellsOf κ x++[.v (.slice none 0 0)])] 1 (Cy κ e outs (F ((x,[]),xs))))
  (hsl:∀ (w:World) (M:Mem) (b b1:Nat) (x:au κ) (ys:List (au e)) (xs:HL ins),pb κ x->vI ins xs->pre ((x,ys),xs)->qQ ⟨P,sp,⟨w,[(0,b),(1,b1)],G,M⟩⟩ fn (.is (.one (.ptr 0 0))::g9 ins xs) [(0,cellsOf κ x++[.sl 1 0 0 ys.length (width e)]),(1,[ft e ys.length ys])] 2 (Cy κ e outs (F ((x,ys),xs)))):q7 P f true κ e ins outs G pre F:=by
 intro w M us xs b n l x ys o v hM hMb ho hG hin hblk hrd hov hp
 refine .inl ⟨hf.2 _ _,?_⟩
 rcases hov with ⟨rfl,rfl,rfl⟩|⟨b1,off,cap,N,l1,rfl,rfl,hcap,hoff,hN,hblk1,hrd1⟩
 ·have hcell:aD ⟨fun i=>if i=0 then some b else none,fun _=>n,M⟩ (cellsOf κ x++[.v (.slice none 0 0)]) (l++[.slice none 0 0]):=dc (eg (ρ:=⟨_,_,M⟩) hrd) (aZ ⟨rfl,rfl⟩)
  refine (lL (E:=⟨P,sp,⟨w,[(0,b)],G,M⟩⟩) hf.1 hbody (Qp hM hMb hG hblk hcell) (qN (v:=.is (.one (.ptr 0 0))) ⟨b,rfl,rfl⟩ (jo (ρ:=⟨_,_,M⟩) hin)) (by simp only[List.length_cons,jm];exact hn) (hnil w M b x xs (zc hrd) (kB hin) hp)).mono ?_
  rintro _ w' ⟨v,sv,σ,ρ,m,a,rfl,hv,hq,hr⟩
  have hn0:ρ.n 0=n:=((hr.init (0,b) (by simp)).2).trans (gW hblk)
  obtain⟨vs,l',v',o',k1,k2,k3,k4,k5,k6⟩:=yq (o:=none) (fun c hc=>.inl (by simp[bW.own] at hc;exact hc.symm)) (by simp) hn0 hr hpl h0 hq hv
  exact⟨v,rfl,vs,l',v',o',k1,k2,k3,k4,k5,k6,hr.below.os,hr.below.tape,hr.below.output,hr.below.size,fun c hc h1 _=>hr.below.block c hc (by simpa[bW.own] using fun e=>h1 e.symm)⟩
 ·obtain⟨hb1,hM1⟩:=ho b1 rfl
  have hcell:aD (two b b1 n N M) (cellsOf κ x++[.sl 1 0 0 ys.length (width e)]) (l++[.slice (some ⟨b1,off,none⟩) ys.length cap]):=dc (eg (ρ:=two b b1 n N M) hrd) (aZ (.inr ⟨b1,off,cap,rfl,hcap,by simpa using hoff,hN,rfl⟩))
  refine (lL (E:=⟨P,sp,⟨w,[(0,b),(1,b1)],G,M⟩⟩) hf.1 hbody (abe hM hMb hb1 hM1 hG hblk hblk1 hcell (aZ (dU (ρ:=two b b1 n N M) rfl hrd1))) (qN (v:=.is (.one (.ptr 0 0))) ⟨b,rfl,rfl⟩ (jo (ρ:=two b b1 n N M) hin)) (by simp only[List.length_cons,jm];exact hn) (hsl w M b b1 x ys xs (zc hrd) (kB hin) hp)).mono ?_
  rintro _ w' ⟨v,sv,σ,ρ,m,a,rfl,hv,hq,hr⟩
  have hn0:ρ.n 0=n:=((hr.init (0,b) (by simp)).2).trans (gW hblk)
  obtain⟨vs,l',v',o',k1,k2,k3,k4,k5,k6⟩:=yq (o:=some b1) (fun c hc=>by
   simp[bW.own] at hc
   rcases hc with hc|hc
   ·exact .inl hc.symm
   ·exact .inr (by rw[hc])) (by simp) hn0 hr hpl h0 hq hv
  exact⟨v,rfl,vs,l',v',o',k1,k2,k3,k4,k5,k6,hr.below.os,hr.below.tape,hr.below.output,hr.below.size,fun c hc h1 h2=>hr.below.block c hc (by
   have e1:¬ b=c:=fun e=>h1 e.symm
   have e2:¬ b1=c:=fun e=>h2 (by rw[e])
   simp[bW.own,e1,e2])⟩
theorem Oz {sp:FuncId->Option Spec} {f:FuncId} {fn:Func} (hf:enters P f fn) {κ e:Kd} {ins:List Kd} {outs:List bH} {G:dH} {pre:(au κ × List (au e)) × HL ins->Prop} {F:(au κ × List (au e)) × HL ins->(au κ × List (au e)) × HO outs}
  (hn:ins.length+1<=fn.ntmps) (hpl:cF outs=true) (h0:cx outs=0) (hbody:fn.body.isSome=true)
  (h:∀ (w:World) (M:Mem) (b:Nat) (x:au κ) (ys:List (au e)) (xs:HL ins),pb κ x->vI ins xs->pre ((x,ys),xs)->qQ ⟨P,sp,⟨w,[(0,b)],G,M⟩⟩ fn (.is (.one (.ptr 0 0))::g9 ins xs) [(0,cellsOf κ x++[.ro e ys])] 1 (Cy κ e outs (F ((x,ys),xs)))):q7 P f false κ e ins outs G pre F:=by
 intro w M us xs b n l x ys o v hM hMb ho hG hin hblk hrd hov hp
 refine .inl ⟨hf.2 _ _,?_⟩
 obtain⟨hv1,rfl⟩:=hov
 have hcell:aD ⟨fun i=>if i=0 then some b else none,fun _=>n,M⟩ (cellsOf κ x++[.ro e ys]) (l++[v]):=dc (eg (ρ:=⟨_,_,M⟩) hrd) (aZ hv1)
 refine (lL (E:=⟨P,sp,⟨w,[(0,b)],G,M⟩⟩) hf.1 hbody (Qp hM hMb hG hblk hcell) (qN (v:=.is (.one (.ptr 0 0))) ⟨b,rfl,rfl⟩ (jo (ρ:=⟨_,_,M⟩) hin)) (by simp only[List.length_cons,jm];exact hn) (h w M b x ys xs (zc hrd) (kB hin) hp)).mono ?_
 rintro _ w' ⟨v,sv,σ,ρ,m,a,rfl,hv,hq,hr⟩
 have hn0:ρ.n 0=n:=((hr.init (0,b) (by simp)).2).trans (gW hblk)
 obtain⟨vs,l',v',o',k1,k2,k3,k4,k5,k6⟩:=yq (o:=none) (fun c hc=>.inl (by simp[bW.own] at hc;exact hc.symm)) (by simp) hn0 hr hpl h0 hq hv
 exact⟨v,rfl,vs,l',v',o',k1,k2,k3,k4,k5,k6,hr.below.os,hr.below.tape,hr.below.output,hr.below.size,fun c hc h1 _=>hr.below.block c hc (by simpa[bW.own] using fun e=>h1 e.symm)⟩
end
end Go.Eng
