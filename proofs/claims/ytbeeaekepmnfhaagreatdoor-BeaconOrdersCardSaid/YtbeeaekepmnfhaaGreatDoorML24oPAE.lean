import Derived.Test.YtbeeaekepmnfhaaGreatDoorML24oPAD
set_option maxRecDepth 100000
namespace Go.Eng
open Go Go.RowKit Cr
theorem Xm {E:Env} {N:Nat} {n r:St->Prop} {x:Nat->St->Prop} {l:List Code} {σ:St} (i0 id k c:Nat) (e:Kd) (xs:List (au e)) (cell:Cell) (cs0:List Cell) (hne0:i0≠id) (hcell:∀ (ρ:aH) (vs:List Value),cell.rel ρ vs->xs.length=k/\dJ (Rd ρ.M e) xs vs) (hS:σ.B i0=some (.sl id 0 0 k c::cs0)) (hB:σ.B id=some [cell]) (hx:xs.length=k)
  (h2:Tr E N l ⟨σ.slots,(id,[])::(i0,.ro e xs::cs0)::σ.blks,σ.next⟩ n r x):Tr E N l σ n r x:=by
 classical
 intro a w Q hh hn hr hx
 refine h2 a w Q ?_ hn hr hx
 obtain⟨hlen,ρ,hrep,hid⟩:=hh
 refine⟨hlen,?_⟩
 have hB':∀ i cs,St.B ⟨σ.slots,(id,[])::(i0,.ro e xs::cs0)::σ.blks,σ.next⟩ i=some cs->cs≠[]->i≠id/\((i0≠i/\σ.B i=some cs)\/i0=i/\cs=.ro e xs::cs0):=by
  intro i cs h hne
  simp only[St.B,dE] at h
  cases hb:Nat.beq id i with
  | true=>rw[hb] at h;simp only[Option.some.injEq] at h;exact absurd h.symm hne
  | false =>
   rw[hb] at h
   refine⟨fun e=>(by subst e;rw[Nat.beq_refl] at hb;cases hb),?_⟩
   cases hb2:Nat.beq i0 i with
   | true=>rw[hb2] at h;simp only[Option.some.injEq] at h;exact .inr ⟨Nat.eq_of_beq_eq_true hb2,h.symm⟩
   | false =>
    rw[hb2] at h
    exact .inl ⟨fun e=>(by subst e;rw[Nat.beq_refl] at hb2;cases hb2),h⟩
 have hB2:∀ i cs,St.B ⟨σ.slots,(id,[])::(i0,.ro e xs::cs0)::σ.blks,σ.next⟩ i=some cs->cs≠[]->i≠id/\∃ cs',σ.B i=some cs'/\cs'≠[]:=by
  intro i cs h hne
  obtain⟨h1,⟨_,h2⟩|⟨rfl,_⟩⟩:=hB' i cs h hne
  ·exact⟨h1,_,h2,hne⟩
  ·exact⟨h1,_,hS,by simp⟩
 have hnew:∀ (ρ':aH),aH.le ρ ρ'->(∀ v,(Cell.sl id 0 0 k c).rel ρ v->(Cell.ro e xs).rel ρ' v)->∀ i cs,St.B ⟨σ.slots,(id,[])::(i0,.ro e xs::cs0)::σ.blks,σ.next⟩ i=some cs->cs≠[]->∀ b,ρ' i=some b->ρ i=some b->∃ l,bw w b (ρ.n i) l/\aD ρ' cs l:=by
  intro ρ' hle hc i cs h hne b _ hb
  obtain⟨_,⟨_,h2⟩|⟨rfl,rfl⟩⟩:=hB' i cs h hne
  ·obtain⟨l,h1,h3⟩:=hrep.blks i cs h2 hne b hb
   exact⟨l,h1,fP hle h3⟩
  ·obtain⟨l,h1,v1,v2,ev,h3,h4⟩:=hrep.blks _ _ hS (by simp) b hb
   exact⟨l,h1,v1,v2,ev,hc v1 h3,fP hle h4⟩
 by_cases hi0:∃ b,ρ id=some b
 ·obtain⟨b,hb⟩:=hi0
  obtain⟨l0,hblk,v1,v2,e1,hce,e2⟩:=hrep.blks id _ hB (by simp) b hb
  obtain⟨hxl,hrd⟩:=hcell ρ v1 hce
  have e2:v2=[]:=e2
  subst e2
  rw[List.append_nil] at e1
  subst e1
  have hnone:ρ.M b=none:=by
   cases hm:ρ.M b with
   | none=>rfl
   | some l=>exact absurd hb ((hrep.mem b l hm).1 id _ hB (by simp))
  obtain⟨rest,el,fr,hheap,hsize,_⟩:=hblk
  have hmem:=c9 hheap
  let ρ':aH:=⟨ρ.m,ρ.n,fun b'=>if b'=b then cu w b else ρ.M b'⟩
  have hMle:Mem.le ρ.M ρ'.M:=by
   intro b' l hl
   show (if b'=b then cu w b else ρ.M b')=some l
   by_cases e:b'=b
   ·subst e;rw[hnone] at hl;cases hl
   ·rw[if_neg e];exact hl
  have hle:aH.le ρ ρ':=⟨fun _ _ h=>⟨h,rfl⟩,hMle⟩
  have hMb:ρ'.M b=some (l0++rest):=by show (if b=b then cu w b else _)=_;rw[if_pos rfl,hmem]
  have hcv:∀ v,(Cell.sl id 0 0 k c).rel ρ v->(Cell.ro e xs).rel ρ' v:=by
   intro v hv
   rcases hv with ⟨hz,hv⟩|⟨b',o,cap,hb',hcap,ho,hsz,hv⟩
   ·have hx0:xs=[]:=List.eq_nil_of_length_eq_zero (by omega)
    subst hx0
    exact .inl ⟨rfl,none,0,hv,fun _=>rfl⟩
   ·have eb:b'=b:=by rw[hb] at hb';simpa using hb'.symm
    subst eb
    rw[hv]
    rcases ho with rfl|rfl
    ·have hl:=fH (fun _ _=>bD) hrd
     refine .inr ⟨b',0+0*c,cap,by rw[hxl],by omega,l0++rest,hMb,by rw[List.length_append,hl];omega,?_⟩
     rw[show 0+0*c=0 by omega,List.drop_zero,<- hl,List.take_left' rfl]
     exact dz (fun _ _ h=>cy hMle h) hrd
    ·exact .inl ⟨List.eq_nil_of_length_eq_zero (by omega),some ⟨b',o,none⟩,0,by rw[show k=0 by omega],fun h=>by cases h⟩
  refine⟨ρ',{ hrep with slots:=fun u=>SV.jR hle (hrep.slots u),blks:=?_,inj:=?_,mem:=?_,old:=?_,glob:=?_,bound:=hrep.bound,init:=hrep.init },hid⟩
  ·intro i cs h hne b' hb';exact hnew ρ' hle hcv i cs h hne b' hb' hb'
  ·intro i i' cs cs' b' h hne h' hne' g1 g2
   obtain⟨_,d1,h1,n1⟩:=hB2 i cs h hne
   obtain⟨_,d2,h2,n2⟩:=hB2 i' cs' h' hne'
   exact hrep.inj i i' d1 d2 b' h1 n1 h2 n2 g1 g2
  ·intro b' l hm
   have hm:(if b'=b then cu w b else ρ.M b')=some l:=hm
   by_cases e:b'=b
   ·subst e
    rw[if_pos rfl] at hm
    refine⟨fun i cs h hne hi=>by
     obtain⟨g0,d1,g1,g2⟩:=hB2 i cs h hne
     exact g0 (hrep.inj i id d1 _ b' g1 g2 hB (by simp) hi hb),?_⟩
    obtain⟨el,fr,hh⟩:=fU hm
    exact⟨el,fr,hh⟩
   ·rw[if_neg e] at hm
    obtain⟨h1,h3⟩:=hrep.mem b' l hm
    exact⟨fun i cs h hne=>by
     obtain⟨_,d1,g1,g2⟩:=hB2 i cs h hne
     exact h1 i d1 g1 g2,h3⟩
  ·intro b' l hm hlt
   have hm:(if b'=b then cu w b else ρ.M b')=some l:=hm
   by_cases e:b'=b
   ·subst e
    rcases (hrep.bound id b' hb).1 with h|h
    ·omega
    ·exact .inl h
   ·rw[if_neg e] at hm
    exact hrep.old b' l hm hlt
  ·intro g κ y hg
   exact kF hMle (hrep.glob g κ y hg)
 ·have hcv:∀ v,(Cell.sl id 0 0 k c).rel ρ v->(Cell.ro e xs).rel ρ v:=by
   intro v hv
   rcases hv with ⟨hz,hv⟩|⟨b',o,cap,hb',hcap,ho,hsz,hv⟩
   ·have hx0:xs=[]:=List.eq_nil_of_length_eq_zero (by omega)
    subst hx0
    exact .inl ⟨rfl,none,0,hv,fun _=>rfl⟩
   ·exact absurd ⟨b',hb'⟩ hi0
  refine⟨ρ,{ hrep with blks:=?_,inj:=?_,mem:=?_ },hid⟩
  ·intro i cs h hne b' hb';exact hnew ρ (aH.le_refl ρ) hcv i cs h hne b' hb' hb'
  ·intro i i' cs cs' b' h hne h' hne' g1 g2
   obtain⟨_,d1,h1,n1⟩:=hB2 i cs h hne
   obtain⟨_,d2,h2,n2⟩:=hB2 i' cs' h' hne'
   exact hrep.inj i i' d1 d2 b' h1 n1 h2 n2 g1 g2
  ·intro b l hm
   obtain⟨h1,h3⟩:=hrep.mem b l hm
   exact⟨fun i cs h hne=>by
    obtain⟨_,d1,g1,g2⟩:=hB2 i cs h hne
    exact h1 i d1 g1 g2,h3⟩
end Go.Eng
