import Derived.Test.YteldhmehjkhanaaGreatDoorML26qPM
set_option maxRecDepth 100000
namespace Go.Eng
open Go Go.RowKit Cr
theorem leSlots_K {K K':Prop}:∀ {l m:List SV},leSlots l m K->(K->K')->K/\leSlots l m K':=by
 intro l
 induction l with
 | nil=>intro m h hk;cases m with
  | nil=>exact⟨h,hk h⟩
  | cons y m=>simp[leSlots] at h
 | cons x l ih=>intro m h hk;cases m with
  | nil=>simp[leSlots] at h
  | cons y m =>
   cases y with
   | junk=>exact ih (m:=m) h hk
   | is t=>obtain⟨h1,h2⟩:=h;obtain⟨h3,h4⟩:=ih h2 hk;exact⟨h3,h1,h4⟩
   | tup t=>obtain⟨h1,h2⟩:=h;obtain⟨h3,h4⟩:=ih h2 hk;exact⟨h3,h1,h4⟩
   | undef=>obtain⟨h1,h2⟩:=h;obtain⟨h3,h4⟩:=ih h2 hk;exact⟨h3,h1,h4⟩
theorem leBlks_K {B:Blks} {K K':Prop}:∀ {l:List (Nat × List Cell)},leBlks B l K->(K->K')->leBlks B l K':=by
 intro l
 induction l with
 | nil=>intro h hk;exact hk h
 | cons p l ih =>
  intro h hk
  obtain⟨i,cs⟩:=p
  simp only[leBlks] at h ⊢
  split at h
  ·exact⟨h.1,ih h.2 hk⟩
  ·exact h.elim
theorem le_K {W:Base} {σ τ:St} {K K':Prop} (h:σ.le W τ K) (hk:K->K'):K/\σ.le W τ K':=by
 unfold St.le at h ⊢
 unfold ifB at h ⊢
 split at h
 ·have h1:=(leSlots_spec h).1
  have h2:=(leBlks_spec h1).1
  exact⟨h2,(leSlots_K h (fun g=>leBlks_K g hk)).2⟩
 ·exact h.elim
section
variable {E:Env} {N:Nat} {n r:St->Prop} {x:Nat->St->Prop}
theorem tr_count (hsp:SpecsOk E.P E.sp) (hm:E.P.follows .mixedOrders=true) {α:Type} {l:List Code} {c:Code} {σ:St} (I:α->St) (G:Nat->α) (m:Nat) (nxt:α->α) (out:α->St)
  (hl:l.head?=some c) (hc:isBlockLoop c=true) (h0:σ.le E.w0 (I (G 0)) True) (hn:∀ k,k<m->nxt (G k)=G (k+1))
  (hb:∀ k,k<=m->VC E (loopOf c) (I (G k)) (fun σ'=>σ'.le E.w0 (I (nxt (G k))) (k<m)) r (fun i σ'=>match Nat.beq i (blockId c) with|true=>σ'.le E.w0 (out (G k)) (k=m)|false=>x i σ'))
  (ha:Tr E N l.tail (out (G m)) n r x):Tr E N l σ n r x:=by
 refine tr_loop (α:=Nat) (fun k=>I (G k)) (fun k=>k<=m) (fun k=>m-k) (fun k=>out (G k)) (fun k=>k=m) 0 hl hc (le_K h0 (fun _=>Nat.zero_le _)).2 (fun k hk=>?_) (fun k hk=>by subst hk;exact ha)
 refine tr_mono (tr_vc hsp hm _ _ (hb k hk)) (fun σ' h'=>?_) (fun i σ' h'=>?_)
 ·obtain⟨h1,h2⟩:=le_K h' (K':=k+1<=m/\m-(k+1)<m-k) (fun h=>⟨h,by omega⟩)
  rw[hn k h1] at h2
  exact⟨k+1,h2⟩
 ·cases hq:Nat.beq i (blockId c) with
  | true=>rw[hq] at h';exact⟨k,h'⟩
  | false=>rw[hq] at h';exact h'
theorem tr_nil {σ:St} (h:n σ):Tr E N [] σ n r x:=fun a w _ hh hn _ _=>hn σ a w hh h
theorem tr_countT {α:Type} {l:List Code} {c:Code} {σ:St} (I:α->St) (G:Nat->α) (m:Nat) (nxt:α->α) (out:α->St)
  (hl:l.head?=some c) (hc:isBlockLoop c=true) (h0:σ.le E.w0 (I (G 0)) True) (hn:∀ k,k<m->nxt (G k)=G (k+1))
  (hb:∀ k,k<=m->Tr E N (loopOf c) (I (G k)) (fun σ'=>σ'.le E.w0 (I (nxt (G k))) (k<m)) r (fun i σ'=>match Nat.beq i (blockId c) with|true=>σ'.le E.w0 (out (G k)) (k=m)|false=>x i σ'))
  (ha:Tr E N l.tail (out (G m)) n r x):Tr E N l σ n r x:=by
 refine tr_loop (α:=Nat) (fun k=>I (G k)) (fun k=>k<=m) (fun k=>m-k) (fun k=>out (G k)) (fun k=>k=m) 0 hl hc (le_K h0 (fun _=>Nat.zero_le _)).2 (fun k hk=>?_) (fun k hk=>by subst hk;exact ha)
 refine tr_mono (hb k hk) (fun σ' h'=>?_) (fun i σ' h'=>?_)
 ·obtain⟨h1,h2⟩:=le_K h' (K':=k+1<=m/\m-(k+1)<m-k) (fun h=>⟨h,by omega⟩)
  rw[hn k h1] at h2
  exact⟨k+1,h2⟩
 ·cases hq:Nat.beq i (blockId c) with
  | true=>rw[hq] at h';exact⟨k,h'⟩
  | false=>rw[hq] at h';exact h'
end
theorem dec_lt {a b:Int} (h:decide (a<b)=true):a<b:=of_decide_eq_true h
theorem dec_ge {a b:Int} (h:decide (a<b)=false):b<=a:=by have:=of_decide_eq_false h;omega
theorem wrap_i64' {a:Int} (h0 : -9223372036854775808<=a) (h1:a<9223372036854775808):IntKind.i64.wrap a=a:=by
 have e:IntKind.i64.wrap a=if (9223372036854775808:Int)<=a%18446744073709551616 then a%18446744073709551616-18446744073709551616 else a%18446744073709551616:=by
  simp[IntKind.wrap,IntKind.signed,IntKind.bits]
 rw[e]
 split<;>omega
theorem wrap_succ {k:Nat} (h:k<9223372036854775807):IntKind.i64.wrap ((k:Int)+1)=((k+1:Nat):Int):=by
 rw[wrap_i64' (by omega) (by omega)];omega
end Go.Eng
