import Derived.Test.YteldhmehjkhanaaGreatDoorML26qPR
set_option maxRecDepth 100000
namespace Go.Eng
open Go Go.RowKit Cr
def mark:Spec:=fun _ _ _ _=>none
theorem outM_frz {N:Nat} {M:Mem} {ob:Option Nat} {w':World}:Mem.le (outM N M ob w') (outM N M none w'):=by
 intro b l h
 unfold outM at h ⊢
 rw[if_neg (by simp)]
 split at h
 ·cases h
 ·exact h
theorem tr_frzG {E:Env} {N:Nat} {n r:St->Prop} {x:Nat->St->Prop} {l:List Code} {σ:St} (t id k c:Nat) (e:Kd) (xs:List (Car e)) (cell:Cell) (hcell:∀ (ρ:Rho) (vs:List Value),cell.rel ρ vs->xs.length=k/\RdL (Rd ρ.M e) xs vs) (hS:σ.S t=.is (.one (.sl id 0 0 k c))) (hB:σ.B id=some [cell]) (hx:xs.length=k)
  (h2:Tr E N l ⟨σ.slots.set t (.is (.one (.ro e xs))),(id,[])::σ.blks,σ.next⟩ n r x):Tr E N l σ n r x:=by
 classical
 intro a w Q hh hn hr hx
 refine h2 a w Q ?_ hn hr hx
 obtain⟨hlen,ρ,hrep,hid⟩:=hh
 refine⟨by show (σ.slots.set t _).length=N;rw[List.length_set];exact hlen,?_⟩
 have hB':∀ i cs,St.B ⟨σ.slots.set t (.is (.one (.ro e xs))),(id,[])::σ.blks,σ.next⟩ i=some cs->cs≠[]->i≠id/\σ.B i=some cs:=by
  intro i cs h hne
  simp only[St.B,lookB] at h
  cases hb:Nat.beq id i with
  | true=>rw[hb] at h;simp only[Option.some.injEq] at h;exact absurd h.symm hne
  | false =>
   rw[hb] at h
   refine⟨fun e=>?_,h⟩
   subst e
   rw[Nat.beq_refl] at hb;cases hb
 have hset:∀ (ρ':Rho) (s:SV),(∀ u,(σ.S u).rel ρ' (a.tmps.getD u Go.undef))->s.rel ρ' (a.tmps.getD t Go.undef)->∀ u,(St.S ⟨σ.slots.set t s,(id,[])::σ.blks,σ.next⟩ u).rel ρ' (a.tmps.getD u Go.undef):=by
  intro ρ' s h hs u
  show ((σ.slots.set t s).getD u .junk).rel ρ' _
  rw[List.getD_eq_getElem?_getD,List.getElem?_set]
  split
  ·rename_i htu
   subst htu
   split
   ·exact hs
   ·trivial
  ·rw[<- List.getD_eq_getElem?_getD];exact h u
 have ht:=hrep.slots t
 rw[hS] at ht
 rcases ht with ⟨hz,hv⟩|⟨b,o,cap,hb,hcap,ho,hsz,hv⟩
 ·simp only[List.cons.injEq,and_true] at hv
  refine⟨ρ,{ hrep with slots:=hset ρ _ hrep.slots ?_,blks:=?_,inj:=?_,mem:=?_ },hid⟩
  ·rw[hv]
   have hx0:xs=[]:=List.eq_nil_of_length_eq_zero (by omega)
   subst hx0
   exact .inl ⟨rfl,none,0,rfl,fun _=>rfl⟩
  ·intro i cs h hne;exact hrep.blks i cs (hB' i cs h hne).2 hne
  ·intro i i' cs cs' b h hne h' hne';exact hrep.inj i i' cs cs' b (hB' i cs h hne).2 hne (hB' i' cs' h' hne').2 hne'
  ·intro b l hm
   obtain⟨h1,h3⟩:=hrep.mem b l hm
   exact⟨fun i cs h hne=>h1 i cs (hB' i cs h hne).2 hne,h3⟩
 ·simp only[List.cons.injEq,and_true] at hv
  obtain⟨l0,hblk,v1,v2,e1,hce,e2⟩:=hrep.blks id _ hB (by simp) b hb
  obtain⟨hxl,hrd⟩:=hcell ρ v1 hce
  have e2:v2=[]:=e2
  subst e2
  rw[List.append_nil] at e1
  subst e1
  have hnone:ρ.M b=none:=by
   cases hm:ρ.M b with
   | none=>rfl
   | some l=>exact absurd hb ((hrep.mem b l hm).1 id _ hB (by simp))
  obtain⟨rest,el,fr,hheap,hsize,_⟩:=hblk
  have hmem:=fun hn=>memOf_blk hheap hn
  let ρ':Rho:=⟨ρ.m,ρ.n,fun b'=>if b'=b then memOf w b else ρ.M b'⟩
  have hMle:Mem.le ρ.M ρ'.M:=by
   intro b' l hl
   show (if b'=b then memOf w b else ρ.M b')=some l
   by_cases e:b'=b
   ·subst e;rw[hnone] at hl;cases hl
   ·rw[if_neg e];exact hl
  have hle:Rho.le ρ ρ':=⟨fun _ _ h=>⟨h,rfl⟩,hMle⟩
  have hMb:l0++rest≠[]->ρ'.M b=some (l0++rest):=fun hn=>by show (if b=b then memOf w b else _)=_;rw[if_pos rfl,hmem hn]
  refine⟨ρ',{ hrep with slots:=hset ρ' _ (fun u=>SV.rel_mono hle (hrep.slots u)) ?_,blks:=?_,inj:=?_,mem:=?_,old:=?_,glob:=?_,bound:=hrep.bound,init:=hrep.init,memle:=fun b' l' hb'=>hMle b' l' (hrep.memle b' l' hb') },hid⟩
  ·rw[hv]
   show Rd ρ'.M (.sl e) xs _
   rcases ho with rfl|rfl
   ·have hl:=RdL_len (fun _ _=>Rd_len) hrd
    refine .inr ⟨b,0+0*c,cap,by rw[hxl],by omega,l0++rest,hMb,by rw[List.length_append,hl];omega,?_⟩
    rw[show 0+0*c=0 by omega,List.drop_zero,<- hl,List.take_left' rfl]
    exact RdL_mono (fun _ _ h=>Rd_mono hMle h) hrd
   ·exact .inl ⟨List.eq_nil_of_length_eq_zero (by omega),some ⟨b,o,none⟩,0,by rw[show k=0 by omega],fun h=>by cases h⟩
  ·intro i cs h hne b' hb'
   obtain⟨l,h1,h3⟩:=hrep.blks i cs (hB' i cs h hne).2 hne b' hb'
   exact⟨l,h1,cellsRel_mono hle h3⟩
  ·intro i i' cs cs' b' h hne h' hne';exact hrep.inj i i' cs cs' b' (hB' i cs h hne).2 hne (hB' i' cs' h' hne').2 hne'
  ·intro b' l hm
   have hm:(if b'=b then memOf w b else ρ.M b')=some l:=hm
   by_cases e:b'=b
   ·subst e
    rw[if_pos rfl] at hm
    refine⟨fun i cs h hne hi=>(hB' i cs h hne).1 (hrep.inj i id cs _ b' (hB' i cs h hne).2 hne hB (by simp) hi hb),?_⟩
    obtain⟨el,fr,hh⟩:=memOf_inv hm
    exact⟨el,fr,hh⟩
   ·rw[if_neg e] at hm
    obtain⟨h1,h3⟩:=hrep.mem b' l hm
    exact⟨fun i cs h hne=>h1 i cs (hB' i cs h hne).2 hne,h3⟩
  ·intro b' l hm hlt
   have hm:(if b'=b then memOf w b else ρ.M b')=some l:=hm
   by_cases e:b'=b
   ·subst e
    rcases (hrep.bound id b' hb).1 with h|h
    ·omega
    ·exact .inl h
   ·rw[if_neg e] at hm
    exact hrep.old b' l hm hlt
  ·intro g κ y hg
   exact RowAt_mono hMle (hrep.glob g κ y hg)
theorem tr_frz {E:Env} {N:Nat} {n r:St->Prop} {x:Nat->St->Prop} {l:List Code} {σ:St} (t id k c:Nat) (e:Kd) (xs:List (Car e)) (hS:σ.S t=.is (.one (.sl id 0 0 k c))) (hB:σ.B id=some [.row e k xs]) (hx:xs.length=k)
  (h2:Tr E N l ⟨σ.slots.set t (.is (.one (.ro e xs))),(id,[])::σ.blks,σ.next⟩ n r x):Tr E N l σ n r x :=
 tr_frzG t id k c e xs (.row e k xs) (fun _ _ h=>h) hS hB hx h2
theorem tr_frzI {E:Env} {N:Nat} {n r:St->Prop} {x:Nat->St->Prop} {l:List Code} {σ:St} (t id k c:Nat) (κ:IntKind) (xs:List Int) (hS:σ.S t=.is (.one (.sl id 0 0 k c))) (hB:σ.B id=some [.ints κ k xs]) (hx:xs.length=k)
  (h2:Tr E N l ⟨σ.slots.set t (.is (.one (.ro (.int κ) xs))),(id,[])::σ.blks,σ.next⟩ n r x):Tr E N l σ n r x :=
 tr_frzG t id k c (.int κ) xs (.ints κ k xs) (fun _ _ h=>⟨h.1,RdL_int.2 h.2⟩) hS hB hx h2
end Go.Eng
