import Derived.Test.YteldhmehjkhanaaGreatDoorML26qPD
set_option maxRecDepth 100000
namespace Go.Eng
open Go Go.RowKit Cr
theorem cellsRel_one1 {ρ:Rho} {c:Cell} {vs:List Value} (h:c.rel ρ vs):cellsRel ρ [c] vs:=⟨vs,[],(List.append_nil _).symm,h,rfl⟩
theorem cellsRel_one1_inv {ρ:Rho} {c:Cell} {vs:List Value} (h:cellsRel ρ [c] vs):c.rel ρ vs:=by
 obtain⟨v1,v2,e,h1,h2⟩:=h
 have h2:v2=[]:=h2
 subst h2;subst e;simpa using h1
theorem asRow_rel {ρ:Rho} {c:Cell} {s:RowC} {vs:List Value} (h:asRow c=some s) (hr:c.rel ρ vs):s.2.2.length=s.2.1/\RdL (Rd ρ.M s.1) s.2.2 vs/\c.size=s.2.1*width s.1:=by
 cases c<;>simp[asRow] at h
 ·subst h;exact⟨hr.1,RdL_int.2 hr.2,by simp[Cell.size,width]⟩
 ·subst h;exact⟨hr.1,hr.2,rfl⟩
theorem mkRow_rel {ρ:Rho} {e:Kd} {n:Nat} {xs:List (Car e)} {vs:List Value} (hn:xs.length=n) (h:RdL (Rd ρ.M e) xs vs):(mkRow e n xs).rel ρ vs:=by
 cases e with
 | int k=>exact⟨hn,RdL_int.1 h⟩
 | _=>exact⟨hn,h⟩
theorem mkRow_size {e:Kd} {n:Nat} {xs:List (Car e)}:(mkRow e n xs).size=n*width e:=by
 cases e<;>simp[mkRow,Cell.size,width]
theorem cellsOf_rel {ρ:Rho}:∀ {e:Kd} {x:Car e} {vs:List Value},Rd ρ.M e x vs->cellsRel ρ (cellsOf e x) vs:=by
 intro e
 induction e with
 | int k=>intro x vs h;exact cellsRel_one1 ⟨h,rfl⟩
 | bool=>intro x vs h;exact cellsRel_one1 ⟨h,rfl⟩
 | str=>intro x vs h;exact cellsRel_one1 ⟨h,rfl⟩
 | fp=>intro x vs h;exact cellsRel_one1 ⟨rfl,RdL_one h⟩
 | fr=>intro x vs h;exact cellsRel_one1 ⟨rfl,RdL_one h⟩
 | pair a b iha ihb=>intro x vs ⟨v1,v2,e,h1,h2⟩;subst e;exact cellsRel_append (iha h1) (ihb h2)
 | arr n e ih=>intro x vs ⟨h1,h2⟩;exact cellsRel_one1 (mkRow_rel h1 h2)
 | sl e ih=>intro x vs h;exact cellsRel_one1 h
 | ptr e ih =>
  intro x vs ⟨b,o,h1,h2⟩
  exact cellsRel_one1 ⟨b,o,h2,by simp,by rw[h1];simp⟩
 | fn f=>intro x vs h;exact cellsRel_one1 ⟨h,rfl⟩
 | cap c e ihc ihe=>intro x vs h;exact cellsRel_one1 ⟨h,Rd_len h⟩
 | pq=>intro x vs h;exact cellsRel_one1 ⟨h,Rd_len (e:=.pq) h⟩
 | mp=>intro x vs h;exact cellsRel_one1 ⟨h,Rd_len (e:=.mp) h⟩
theorem zeroCells_rel {ρ:Rho}:∀ {e:Kd},zk e=true->cellsRel ρ (zeroCells e) (zeroVals e):=by
 intro e
 induction e with
 | int k=>intro _;exact cellsRel_one1 ⟨rfl,rfl⟩
 | bool=>intro _;exact cellsRel_one1 rfl
 | str=>intro _;exact cellsRel_one1 ⟨rfl,rfl⟩
 | fp=>intro h;exact cellsRel_one1 ⟨rfl,RdL_one (Rd_zero (e:=.fp) h)⟩
 | fr=>intro h;exact cellsRel_one1 ⟨rfl,RdL_one (Rd_zero (e:=.fr) h)⟩
 | pair a b iha ihb=>intro h;simp only[zk,Bool.and_eq_true] at h;exact cellsRel_append (iha h.1) (ihb h.2)
 | arr n e ih=>intro h;exact cellsRel_one1 (mkRow_rel List.length_replicate (Rd_zero (M:=ρ.M) (e:=.arr n e) h).2)
 | sl e ih=>intro _;exact cellsRel_one1 ⟨rfl,rfl⟩
 | ptr e ih=>intro h;simp[zk] at h
 | fn f=>intro h;simp[zk] at h
 | cap c e ihc ihe=>intro h;simp[zk] at h
 | pq=>intro _;exact cellsRel_one1 ⟨rfl,rfl⟩
 | mp=>intro h;simp[zk] at h
theorem blt_true {m n:Nat} (h:Nat.blt m n=true):m<n:=by simpa[Nat.blt_eq] using h
theorem blt_false {m n:Nat} (h:Nat.blt m n=false):n<=m:=by
 rcases Nat.lt_or_ge m n with h'|h'
 ·have:Nat.blt m n=true:=by simpa[Nat.blt_eq] using h'
  rw[this] at h;cases h
 ·exact h'
theorem beq_true {m n:Nat} (h:Nat.beq m n=true):m=n:=Nat.eq_of_beq_eq_true h
theorem splitC_rel {ρ:Rho}:∀ (cs:List Cell) (n:Nat) (a b:List Cell) (l:List Value),splitC cs n=some (a,b)->cellsRel ρ cs l->cellsRel ρ a (l.take n)/\cellsRel ρ b (l.drop n)/\n<=l.length:=by
 intro cs
 induction cs with
 | nil =>
  intro n a b l h hr
  cases n with
  | zero=>simp only[splitC,Option.some.injEq,Prod.mk.injEq] at h;obtain⟨rfl,rfl⟩:=h;exact⟨by simp[cellsRel],by simpa using hr,Nat.zero_le _⟩
  | succ n=>simp[splitC] at h
 | cons c cs ih =>
  intro n a b l h hr
  cases n with
  | zero=>simp only[splitC,Option.some.injEq,Prod.mk.injEq] at h;obtain⟨rfl,rfl⟩:=h;exact⟨by simp[cellsRel],by simpa using hr,Nat.zero_le _⟩
  | succ n =>
   obtain⟨v1,v2,e,h1,h2⟩:=hr
   subst e
   have hlen:=Cell.rel_length h1
   simp only[splitC] at h
   split at h
   ·rename_i e m xs hc
    obtain⟨g1,g2,g3⟩:=asRow_rel hc h1
    simp only at g1 g2 g3
    rw[g3] at hlen
    split at h
    ·rename_i hb
     have hb:=blt_true hb
     split at h
     ·rename_i hd
      have hd:=beq_true hd
      simp only[Option.some.injEq,Prod.mk.injEq] at h
      obtain⟨rfl,rfl⟩:=h
      obtain⟨k1,k2⟩:=RdL_split (fun _ _=>Rd_len) ((n+1)/width e) g2
      rw[hd] at k1 k2
      have hm:(n+1)/width e<=m:=by
       rcases Nat.lt_or_ge m ((n+1)/width e) with h'|h'
       ·have:=Nat.mul_le_mul_right (width e) (Nat.le_of_lt h');omega
       ·exact h'
      refine⟨cellsRel_one1 (mkRow_rel (by simp;omega) ?_),⟨v1.drop (n+1),v2,?_,mkRow_rel (by simp;omega) k2,h2⟩,by simp;omega⟩
      ·rw[List.take_append_of_le_length (by omega)];exact k1
      ·rw[List.drop_append_of_le_length (by omega)]
     ·simp at h
    ·rename_i hb
     have hb:=blt_false hb
     split at h
     ·rename_i a' b' hq
      simp only[Option.some.injEq,Prod.mk.injEq] at h
      obtain⟨rfl,rfl⟩:=h
      obtain⟨k1,k2,k3⟩:=ih _ a' b' v2 hq h2
      refine⟨⟨v1,v2.take (n+1-m*width e),?_,h1,k1⟩,?_,?_⟩
      ·rw[List.take_append,hlen,List.take_of_length_le (by omega)]
      ·rw[List.drop_append,hlen,List.drop_of_length_le (by omega)];simpa using k2
      ·simp only[List.length_append,hlen];omega
     ·simp at h
   ·rename_i hc
    have hs:c.size=1:=by cases c<;>simp[asRow] at hc<;>rfl
    split at h
    ·rename_i a' b' hq
     simp only[Option.some.injEq,Prod.mk.injEq] at h
     obtain⟨rfl,rfl⟩:=h
     obtain⟨g1,g2,g3⟩:=ih n a' b' v2 hq h2
     rw[hs] at hlen
     match v1,hlen with
     | [x],_=>exact⟨⟨[x],v2.take n,by simp,h1,g1⟩,by simpa using g2,by simp;omega⟩
    ·simp at h
theorem subC_rel {ρ:Rho} {cs m:List Cell} {off n:Nat} {l:List Value} (h:subC cs off n=some m) (hr:cellsRel ρ cs l) :
  cellsRel ρ m ((l.drop off).take n)/\off+n<=l.length:=by
 unfold subC at h
 cases hq:splitC cs off with
 | none=>rw[hq] at h;simp at h
 | some p =>
  obtain⟨a,r⟩:=p
  rw[hq] at h
  simp only at h
  cases hq2:splitC r n with
  | none=>rw[hq2] at h;simp at h
  | some p2 =>
   obtain⟨m',r'⟩:=p2
   rw[hq2] at h
   simp only[Option.some.injEq] at h
   subst h
   obtain⟨_,g2,g3⟩:=splitC_rel cs off a r l hq hr
   obtain⟨k1,_,k3⟩:=splitC_rel r n m' r' _ hq2 g2
   refine⟨k1,?_⟩
   simp at k3;omega
theorem putC_rel {ρ:Rho} {cs new cs':List Cell} {off:Nat} {l u:List Value} (h:putC cs off new=some cs') (hr:cellsRel ρ cs l) (hu:cellsRel ρ new u) :
  cellsRel ρ cs' (l.take off++(u++l.drop (off+u.length)))/\off+u.length<=l.length:=by
 unfold putC at h
 cases hq:splitC cs off with
 | none=>rw[hq] at h;simp at h
 | some p =>
  obtain⟨a,r⟩:=p
  rw[hq] at h
  simp only at h
  cases hq2:splitC r (cellsSize new) with
  | none=>rw[hq2] at h;simp at h
  | some p2 =>
   obtain⟨m',r'⟩:=p2
   rw[hq2] at h
   simp only[Option.some.injEq] at h
   subst h
   obtain⟨g1,g2,g3⟩:=splitC_rel cs off a r l hq hr
   obtain⟨k1,k2,k3⟩:=splitC_rel r _ m' r' _ hq2 g2
   have hlen:=cellsRel_length hu
   rw[<- hlen] at k2 k3
   refine⟨cellsRel_append g1 (cellsRel_append hu ?_),?_⟩
   ·simpa[List.drop_drop] using k2
   ·simp at k3;omega
theorem segF_rel {ρ:Rho}:∀ {cs:List Cell} {b:Nat} {a r:List Cell} {s:RowC} {q:Nat} {l:List Value},segF cs b=some (a,s,q,r)->cellsRel ρ cs l ->
  ∃ l1 m l2,l=l1++(m++l2)/\l1.length+q=b/\cellsRel ρ a l1/\cellsRel ρ r l2/\s.2.2.length=s.2.1/\RdL (Rd ρ.M s.1) s.2.2 m:=by
 intro cs
 induction cs with
 | nil=>intro b a r s q l h;simp[segF] at h
 | cons c cs ih =>
  intro b a r s q l h hr
  obtain⟨v1,v2,e,h1,h2⟩:=hr
  subst e
  have hlen:=Cell.rel_length h1
  simp only[segF] at h
  split at h
  ·rename_i s' hc
   obtain⟨g1,g2,g3⟩:=asRow_rel hc h1
   split at h
   ·simp only[Option.some.injEq,Prod.mk.injEq] at h
    obtain⟨rfl,rfl,rfl,rfl⟩:=h
    exact⟨[],v1,v2,rfl,by simp,rfl,h2,g1,g2⟩
   ·split at h
    ·simp only[Option.some.injEq,Prod.mk.injEq] at h
     obtain⟨rfl,rfl,rfl,rfl⟩:=h
     exact⟨[],v1,v2,rfl,by simp,rfl,h2,g1,g2⟩
    ·rename_i hb
     have hb:=blt_false hb
     split at h
     ·rename_i a' s'' q' r' hq
      simp only[Option.some.injEq,Prod.mk.injEq] at h
      obtain⟨rfl,rfl,rfl,rfl⟩:=h
      obtain⟨l1,m,l2,e,k1,k2,k3,k4,k5⟩:=ih hq h2
      refine⟨v1++l1,m,l2,by rw[e];simp,?_,⟨v1,l1,rfl,h1,k2⟩,k3,k4,k5⟩
      simp only[List.length_append,hlen,g3];omega
     ·simp at h
  ·rename_i hc
   have hs:c.size=1:=by cases c<;>simp[asRow] at hc<;>rfl
   split at h
   ·simp at h
   ·rename_i b' 
    split at h
    ·rename_i a' s'' q' r' hq
     simp only[Option.some.injEq,Prod.mk.injEq] at h
     obtain⟨rfl,rfl,rfl,rfl⟩:=h
     obtain⟨l1,m,l2,e,k1,k2,k3,k4,k5⟩:=ih hq h2
     refine⟨v1++l1,m,l2,by rw[e];simp,?_,⟨v1,l1,rfl,h1,k2⟩,k3,k4,k5⟩
     simp only[List.length_append,hlen,hs];omega
    ·simp at h
theorem castL_rfl {a:Kd} (xs:List (Car a)):castL rfl xs=xs:=rfl
theorem castC_rfl {a:Kd} (x:Car a):castC rfl x=x:=rfl
theorem headE_rel {ρ:Rho} {e:Kd} {cs r:List Cell} {x:Car e} {l:List Value} (h:headE e cs=some (x,r)) (hr:cellsRel ρ cs l):∃ l1 l2,l=l1++l2/\Rd ρ.M e x l1/\cellsRel ρ r l2:=by
 cases cs with
 | nil=>simp[headE] at h
 | cons c cs =>
  obtain⟨v1,v2,e1,h1,h2⟩:=hr
  subst e1
  simp only[headE] at h
  split at h
  ·rename_i e' n xs hc
   obtain⟨g1,g2,g3⟩:=asRow_rel hc h1
   simp only at g1 g2 g3
   split at h
   ·rename_i he _
    subst he
    split at h
    ·simp at h
    ·rename_i hn
     simp only[Option.some.injEq,Prod.mk.injEq,castC_rfl] at h
     obtain⟨rfl,rfl⟩:=h
     match xs,g1 with
     | [y],_=>exact⟨v1,v2,rfl,RdL_one_inv g2,h2⟩
    ·rename_i m hn
     simp only[Option.some.injEq,Prod.mk.injEq,castC_rfl] at h
     obtain⟨rfl,rfl⟩:=h
     match xs,g1 with
     | y::ys,g1 =>
      obtain⟨u1,u2,e2,k1,k2⟩:=g2
      subst e2
      exact⟨u1,u2++v2,by simp,k1,⟨u2,v2,rfl,mkRow_rel (by simpa using g1) k2,h2⟩⟩
   ·simp at h
  ·simp at h
theorem rowN_rel {ρ:Rho} {e:Kd} {n:Nat} {cs r:List Cell} {xs:List (Car e)} {l:List Value} (h:rowN e n cs=some (xs,r)) (hr:cellsRel ρ cs l):∃ l1 l2,l=l1++l2/\xs.length=n/\RdL (Rd ρ.M e) xs l1/\cellsRel ρ r l2:=by
 cases cs with
 | nil=>simp[rowN] at h
 | cons c cs =>
  obtain⟨v1,v2,e1,h1,h2⟩:=hr
  subst e1
  simp only[rowN] at h
  split at h
  ·rename_i e' n' ys hc
   obtain⟨g1,g2,g3⟩:=asRow_rel hc h1
   simp only at g1 g2 g3
   split at h
   ·rename_i he _
    subst he
    split at h
    ·rename_i hn
     have hn:=beq_true hn
     simp only[Option.some.injEq,Prod.mk.injEq,castL_rfl] at h
     obtain⟨rfl,rfl⟩:=h
     exact⟨v1,v2,rfl,by omega,g2,h2⟩
    ·split at h
     ·rename_i hn
      have hn:=blt_true hn
      simp only[Option.some.injEq,Prod.mk.injEq,castL_rfl] at h
      obtain⟨rfl,rfl⟩:=h
      obtain⟨k1,k2⟩:=RdL_split (fun _ _=>Rd_len) n g2
      exact⟨v1.take (n*width e'),v1.drop (n*width e')++v2,by rw[<- List.append_assoc,List.take_append_drop],by simp;omega,k1,⟨_,v2,rfl,mkRow_rel (by simp;omega) k2,h2⟩⟩
     ·simp at h
   ·simp at h
  ·simp at h
theorem takeInts_rel {ρ:Rho} {k:IntKind}:∀ {cs:List Cell} {n:Nat} {xs:List Int} {r:List Cell} {l:List Value},takeInts k cs n=some (xs,r)->cellsRel ρ cs l ->
  ∃ l2,l=xs.map (Value.int k)++l2/\xs.length=n/\cellsRel ρ r l2:=by
 intro cs
 induction cs with
 | nil =>
  intro n xs r l h hr
  cases n with
  | zero=>simp only[takeInts,Option.some.injEq,Prod.mk.injEq] at h;obtain⟨rfl,rfl⟩:=h;exact⟨l,rfl,rfl,hr⟩
  | succ n=>simp[takeInts] at h
 | cons c cs ih =>
  intro n xs r l h hr
  cases n with
  | zero=>simp only[takeInts,Option.some.injEq,Prod.mk.injEq] at h;obtain⟨rfl,rfl⟩:=h;exact⟨l,rfl,rfl,hr⟩
  | succ m =>
   obtain⟨v1,v2,e,h1,h2⟩:=hr
   subst e
   unfold takeInts at h
   split at h
   ·rename_i hh;cases hh
   ·simp at h
   ·rename_i k' n' ys r0 m0 hcs hm0
    simp only[List.cons.injEq] at hcs
    obtain⟨rfl,rfl⟩:=hcs
    obtain rfl:m=m0:=by simpa using hm0
    obtain⟨hx,rfl⟩:=h1
    split at h
    ·rename_i hk
     simp at hk;subst hk
     split at h
     ·rename_i hn
      have hn:=beq_true hn
      simp only[Option.some.injEq,Prod.mk.injEq] at h
      obtain⟨rfl,rfl⟩:=h
      exact⟨v2,rfl,by omega,h2⟩
     ·split at h
      ·rename_i hn
       have hn:=blt_true hn
       simp only[Option.some.injEq,Prod.mk.injEq] at h
       obtain⟨rfl,rfl⟩:=h
       refine⟨(ys.drop (m+1)).map (Value.int k')++v2,?_,by simp;omega,⟨_,v2,rfl,⟨by simp;omega,rfl⟩,h2⟩⟩
       rw[<- List.append_assoc,<- List.map_append,List.take_append_drop]
      ·rename_i hn
       have hn:=blt_false hn
       split at h
       ·rename_i zs r' hq
        simp only[Option.some.injEq,Prod.mk.injEq] at h
        obtain⟨rfl,rfl⟩:=h
        obtain⟨l2,e,k1,k2⟩:=ih hq h2
        exact⟨l2,by rw[e];simp,by simp[k1];omega,k2⟩
       ·simp at h
    ·simp at h
   ·rename_i k' y r0 m0 hcs hm0
    simp only[List.cons.injEq] at hcs
    obtain⟨rfl,rfl⟩:=hcs
    obtain rfl:m=m0:=by simpa using hm0
    obtain⟨rfl,_⟩:=h1
    split at h
    ·rename_i zs r' hk hq
     simp at hk;subst hk
     simp only[Option.some.injEq,Prod.mk.injEq] at h
     obtain⟨rfl,rfl⟩:=h
     obtain⟨l2,e,k1,k2⟩:=ih hq h2
     exact⟨l2,by rw[e];simp,by simp[k1],k2⟩
    ·simp at h
   ·rename_i ys r0 m0 hcs hm0
    simp only[List.cons.injEq] at hcs
    obtain⟨rfl,rfl⟩:=hcs
    obtain rfl:m=m0:=by simpa using hm0
    split at h
    ·rename_i hk
     simp only[Bool.and_eq_true,decide_eq_true_eq] at hk
     obtain⟨rfl,hk⟩:=hk
     have hk:=beq_true hk
     simp only[Option.some.injEq,Prod.mk.injEq] at h
     obtain⟨rfl,rfl⟩:=h
     obtain⟨g1,g2⟩:=h1
     obtain⟨y,rfl⟩:=List.length_eq_one_iff.1 g1
     have this:v1=(enc (M:=Mp) y).map (Value.int .u64):=RdL_one_inv (R:=Rd ρ.M _) (x:=y) g2
     rw[this,List.getD_cons_zero]
     exact⟨v2,rfl,by rw[hk];exact enc_length (M:=Mp) y,h2⟩
    ·simp at h
   ·rename_i ys r0 m0 hcs hm0
    simp only[List.cons.injEq] at hcs
    obtain⟨rfl,rfl⟩:=hcs
    obtain rfl:m=m0:=by simpa using hm0
    split at h
    ·rename_i hk
     simp only[Bool.and_eq_true,decide_eq_true_eq] at hk
     obtain⟨rfl,hk⟩:=hk
     have hk:=beq_true hk
     simp only[Option.some.injEq,Prod.mk.injEq] at h
     obtain⟨rfl,rfl⟩:=h
     obtain⟨g1,g2⟩:=h1
     obtain⟨y,rfl⟩:=List.length_eq_one_iff.1 g1
     have this:v1=(enc (M:=Mr) y).map (Value.int .u64):=RdL_one_inv (R:=Rd ρ.M _) (x:=y) g2
     rw[this,List.getD_cons_zero]
     exact⟨v2,rfl,by rw[hk];exact enc_length (M:=Mr) y,h2⟩
    ·simp at h
   ·simp at h
theorem arrInts_rel {ρ:Rho} {e:Kd} {n:Nat} {cs r:List Cell} {xs:List (Car e)} {l:List Value} (h:arrInts e n cs=some (xs,r)) (hr:cellsRel ρ cs l):∃ l1 l2,l=l1++l2/\xs.length=n/\RdL (Rd ρ.M e) xs l1/\cellsRel ρ r l2:=by
 cases e with
 | int k =>
  obtain⟨l2,e,h1,h2⟩:=takeInts_rel (xs:=xs) h hr
  exact⟨_,l2,e,h1,RdL_int.2 rfl,h2⟩
 | _=>simp[arrInts] at h
theorem pN_rel {α:Type} {ρ:Rho} {R:α->List Value->Prop} {f:List Cell->Option (α × List Prop × List Cell)}
  (hf:∀ cs x ps r l,f cs=some (x,ps,r)->(∀ p∈ps,p)->cellsRel ρ cs l->∃ l1 l2,l=l1++l2/\R x l1/\cellsRel ρ r l2) :
  ∀ (n:Nat) (cs:List Cell) (xs:List α) (ps:List Prop) (r:List Cell) (l:List Value),pN f n cs=some (xs,ps,r)->(∀ p∈ps,p)->cellsRel ρ cs l->∃ l1 l2,l=l1++l2/\xs.length=n/\RdL R xs l1/\cellsRel ρ r l2:=by
 intro n
 induction n with
 | zero =>
  intro cs xs ps r l h hp hr
  simp only[pN,Option.some.injEq,Prod.mk.injEq] at h
  obtain⟨rfl,rfl,rfl⟩:=h
  exact⟨[],l,rfl,rfl,rfl,hr⟩
 | succ n ih =>
  intro cs xs ps r l h hp hr
  simp only[pN] at h
  split at h
  ·rename_i x p r1 h1
   split at h
   ·rename_i ys qs r2 h2
    simp only[Option.some.injEq,Prod.mk.injEq] at h
    obtain⟨rfl,rfl,rfl⟩:=h
    obtain⟨l1,l2,e1,k1,k2⟩:=hf _ _ _ _ _ h1 (fun q hq=>hp q (List.mem_append_left _ hq)) hr
    obtain⟨l3,l4,e2,k3,k4,k5⟩:=ih _ _ _ _ _ h2 (fun q hq=>hp q (List.mem_append_right _ hq)) k2
    exact⟨l1++l3,l4,by rw[e1,e2];simp,by simp[k3],⟨l1,l3,rfl,k1,k4⟩,k5⟩
   ·simp at h
  ·simp at h
structure Sees (B:Blks) (ρ:Rho) (M:Mem):Prop where
 mem:Mem.le ρ.M M
 blk:∀ i cs b,B i=some cs->cs≠[]->ρ i=some b->∃ l r,cellsRel ρ cs l/\(l++r≠[]->M b=some (l++r))/\(l++r).length=ρ.n i
theorem sees_noB (ρ:Rho):Sees noB ρ ρ.M:=⟨Mem.le_refl _,fun _ _ _ h=>by simp[noB] at h⟩
theorem slRow_rel {ρ:Rho} {e:Kd} {cs:List Cell} {base off len c:Nat} {xs:List (Car e)} {ps:List Prop} {l:List Value} (h:slRow e cs base off len c=some (xs,ps)) (hp:∀ p∈ps,p) (hr:cellsRel ρ cs l) :
  xs.length=len/\c=width e/\base+off*c+len*c<=l.length/\RdL (Rd ρ.M e) xs ((l.drop (base+off*c)).take (len*c)):=by
 unfold slRow at h
 split at h
 ·rename_i a e' n ys q r hs
  split at h
  ·rename_i _ he heq hbb
   subst he
   simp only[Bool.and_eq_true] at hbb
   have hq:=beq_true hbb.1
   have hc:=beq_true hbb.2
   subst hq hc
   simp only[Option.some.injEq,Prod.mk.injEq,castL_rfl] at h
   obtain⟨rfl,rfl⟩:=h
   have hle:off+len<=n:=hp _ (by simp)
   obtain⟨l1,m,l2,e,k1,k2,k3,k4,k5⟩:=segF_rel hs hr
   simp only at k4 k5
   have hml:=RdL_len (fun _ _=>Rd_len) k5
   have h1:=(RdL_split (fun _ _=>Rd_len) off k5).2
   have h2:=(RdL_split (fun _ _=>Rd_len) len h1).1
   have hb:l1.length=base:=by omega
   have hw:off*width e'+len*width e'<=m.length:=by rw[hml,<- Nat.add_mul];exact Nat.mul_le_mul_right _ (by omega)
   refine⟨by simp;omega,rfl,by rw[e];simp;omega,?_⟩
   have:(l.drop (base+off*width e')).take (len*width e')=(m.drop (off*width e')).take (len*width e'):=by
    rw[e,List.drop_append,List.drop_of_length_le (by omega),List.nil_append,hb,show base+off*width e'-base=off*width e' by omega,List.drop_append_of_le_length (by omega),List.take_append_of_le_length (by simp;omega)]
   rw[this]
   exact h2
  ·simp at h
 ·simp at h
theorem slRaw_rel {α:Type} {ρ:Rho} {R:α->List Value->Prop} {f:List Cell->Option (α × List Prop × List Cell)} {w:Nat} (hw:∀ x vs,R x vs->vs.length=w)
  (hf:∀ cs x ps r l,f cs=some (x,ps,r)->(∀ p∈ps,p)->cellsRel ρ cs l->∃ l1 l2,l=l1++l2/\R x l1/\cellsRel ρ r l2)
  {cs:List Cell} {base off len c:Nat} {xs:List α} {ps:List Prop} {l:List Value} (h:slRaw f w cs base off len c=some (xs,ps)) (hp:∀ p∈ps,p) (hr:cellsRel ρ cs l) :
  xs.length=len/\c=w/\base+off*c+len*c<=l.length/\RdL R xs ((l.drop (base+off*c)).take (len*c)):=by
 unfold slRaw at h
 split at h
 ·rename_i a r hc hs
  have hc:=beq_true hc
  subst hc
  split at h
  ·rename_i ys qs r' hq
   simp only[Option.some.injEq,Prod.mk.injEq] at h
   obtain⟨rfl,rfl⟩:=h
   obtain⟨_,g2,g3⟩:=splitC_rel _ _ _ _ _ hs hr
   obtain⟨l1,l2,e,k1,k2,k3⟩:=pN_rel hf _ _ _ _ _ _ hq hp g2
   have hl:=RdL_len hw k2
   rw[k1] at hl
   refine⟨k1,rfl,?_,?_⟩
   ·have:=congrArg List.length e
    simp at this;omega
   ·rw[e,List.take_append_of_le_length (by omega),List.take_of_length_le (by omega)];exact k2
  ·simp at h
 ·simp at h
theorem rel_sl' {ρ:Rho} {i base off len c:Nat} {vs:List Value} (h:(Cell.sl i base off len c).rel ρ vs):(len=0/\vs=[.slice none 0 0]) \/
  ∃ b o cap,ρ i=some b/\len<=cap/\(o=base+off*c\/cap=0)/\o+cap*c<=ρ.n i/\vs=[.slice (some ⟨b,o,none⟩) len cap]:=h
theorem sl_rd {ρ:Rho} {M:Mem} {e:Kd} {i base off len c:Nat} {vs:List Value} {xs:List (Car e)} {cs:List Cell} {B:Blks} (hS:Sees B ρ M) (hB:B i=some cs) (hne:cs≠[]) (h:(Cell.sl i base off len c).rel ρ vs)
  (hx:∀ l,cellsRel ρ cs l->xs.length=len/\c=width e/\base+off*c+len*c<=l.length/\RdL (Rd M e) xs ((l.drop (base+off*c)).take (len*c))) (hlen:xs.length=len):Rd M (.sl e) xs vs:=by
 rcases rel_sl' h with ⟨h0,e0⟩|⟨b,o,cap,hb,hl,ho,hn,e0⟩
 ·subst h0
  exact .inl ⟨List.eq_nil_of_length_eq_zero hlen,none,0,e0,fun _=>rfl⟩
 ·obtain⟨l,r,hr,hM,hlr⟩:=hS.blk i cs b hB hne hb
  obtain⟨k1,k2,k3,k4⟩:=hx l hr
  subst k1
  rcases Nat.eq_zero_or_pos xs.length with hz|hz
  ·exact .inl ⟨List.eq_nil_of_length_eq_zero hz,_,cap,by rw[e0,hz],fun h=>by cases h⟩
  ·have ho:o=base+off*c:=by
    rcases ho with ho|ho
    ·exact ho
    ·omega
   subst ho k2
   refine .inr ⟨b,_,cap,e0,hl,l++r,hM,by simp;omega,?_⟩
   rw[List.drop_append_of_le_length (by omega),List.take_append_of_le_length (by simp;omega)]
   exact k4
theorem pOne_rel {B:Blks} {ρ:Rho} {M:Mem} (hS:Sees B ρ M):∀ (e:Kd) (cs:List Cell) (x:Car e) (ps:List Prop) (r:List Cell) (l:List Value),pOne B e cs=some (x,ps,r)->(∀ p∈ps,p)->cellsRel ρ cs l ->
  ∃ l1 l2,l=l1++l2/\Rd M e x l1/\cellsRel ρ r l2:=by
 intro e
 have hd:∀ (e:Kd) (cs:List Cell) (x:Car e) (r:List Cell) (l:List Value),headE e cs=some (x,r)->cellsRel ρ cs l->∃ l1 l2,l=l1++l2/\Rd M e x l1/\cellsRel ρ r l2:=by
  intro e cs x r l h hr
  obtain⟨l1,l2,e1,h1,h2⟩:=headE_rel h hr
  exact⟨l1,l2,e1,Rd_mono hS.mem h1,h2⟩
 have hh:∀ (e:Kd) (cs:List Cell) (x:Car e) (ps:List Prop) (r:List Cell) (l:List Value),headP e cs=some (x,ps,r)->cellsRel ρ cs l->∃ l1 l2,l=l1++l2/\Rd M e x l1/\cellsRel ρ r l2:=by
  intro e cs x ps r l h hr
  unfold headP at h
  split at h
  ·rename_i y r' hq
   simp only[Option.some.injEq,Prod.mk.injEq] at h
   obtain⟨rfl,_,rfl⟩:=h
   exact hd e cs _ _ l hq hr
  ·simp at h
 induction e with
 | int k =>
  intro cs x ps r l h hp hr
  unfold pOne at h
  split at h
  ·rename_i k' y r'
   split at h
   ·rename_i hk
    simp at hk;subst hk
    simp only[Option.some.injEq,Prod.mk.injEq] at h
    obtain⟨rfl,_,rfl⟩:=h
    obtain⟨v1,v2,e,⟨h1,_⟩,h2⟩:=hr
    exact⟨v1,v2,e,h1,h2⟩
   ·simp at h
  ·exact hh (.int k) _ _ ps _ _ h hr
 | bool =>
  intro cs x ps r l h hp hr
  unfold pOne at h
  split at h
  ·simp only[Option.some.injEq,Prod.mk.injEq] at h
   obtain⟨rfl,_,rfl⟩:=h
   obtain⟨v1,v2,e,⟨h1,_⟩,h2⟩:=hr
   exact⟨v1,v2,e,h1,h2⟩
  ·simp only[Option.some.injEq,Prod.mk.injEq] at h
   obtain⟨rfl,_,rfl⟩:=h
   obtain⟨v1,v2,e,h1,h2⟩:=hr
   exact⟨v1,v2,e,h1,h2⟩
  ·simp only[Option.some.injEq,Prod.mk.injEq] at h
   obtain⟨rfl,_,rfl⟩:=h
   obtain⟨v1,v2,e,h1,h2⟩:=hr
   exact⟨v1,v2,e,h1,h2⟩
  ·exact hh .bool _ _ ps _ _ h hr
 | str =>
  intro cs x ps r l h hp hr
  unfold pOne at h
  split at h
  ·simp only[Option.some.injEq,Prod.mk.injEq] at h
   obtain⟨rfl,_,rfl⟩:=h
   obtain⟨v1,v2,e,⟨h1,_⟩,h2⟩:=hr
   exact⟨v1,v2,e,h1,h2⟩
  ·exact hh .str _ _ ps _ _ h hr
 | fp =>
  intro cs x ps r l h hp hr
  unfold pOne at h
  split at h
  ·rename_i hq
   simp only[Option.some.injEq,Prod.mk.injEq] at h
   obtain⟨rfl,_,rfl⟩:=h
   exact hd _ _ _ _ _ hq hr
  ·split at h
   ·rename_i ws r' hq
    simp only[Option.some.injEq,Prod.mk.injEq] at h
    obtain⟨rfl,rfl,rfl⟩:=h
    obtain⟨l2,e,h1,h2⟩:=takeInts_rel hq hr
    have hc:Canon Mp ws:=hp _ (by simp)
    exact⟨_,l2,e,by show _=_;rw[enc_dec hc],h2⟩
   ·simp at h
 | fr =>
  intro cs x ps r l h hp hr
  unfold pOne at h
  split at h
  ·rename_i hq
   simp only[Option.some.injEq,Prod.mk.injEq] at h
   obtain⟨rfl,_,rfl⟩:=h
   exact hd _ _ _ _ _ hq hr
  ·split at h
   ·rename_i ws r' hq
    simp only[Option.some.injEq,Prod.mk.injEq] at h
    obtain⟨rfl,rfl,rfl⟩:=h
    obtain⟨l2,e,h1,h2⟩:=takeInts_rel hq hr
    have hc:Canon Mr ws:=hp _ (by simp)
    exact⟨_,l2,e,by show _=_;rw[enc_dec hc],h2⟩
   ·simp at h
 | pair a b iha ihb =>
  intro cs x ps r l h hp hr
  unfold pOne at h
  split at h
  ·rename_i hq
   simp only[Option.some.injEq,Prod.mk.injEq] at h
   obtain⟨rfl,_,rfl⟩:=h
   exact hd _ _ _ _ _ hq hr
  ·split at h
   ·rename_i y p r1 h1
    split at h
    ·rename_i z q r2 h2
     simp only[Option.some.injEq,Prod.mk.injEq] at h
     obtain⟨rfl,rfl,rfl⟩:=h
     obtain⟨l1,l2,e1,k1,k2⟩:=iha _ _ _ _ _ h1 (fun q hq=>hp q (List.mem_append_left _ hq)) hr
     obtain⟨l3,l4,e2,k3,k4⟩:=ihb _ _ _ _ _ h2 (fun q hq=>hp q (List.mem_append_right _ hq)) k2
     exact⟨l1++l3,l4,by rw[e1,e2];simp,⟨l1,l3,rfl,k1,k3⟩,k4⟩
    ·simp at h
   ·simp at h
 | arr n e ih =>
  intro cs x ps r l h hp hr
  unfold pOne at h
  split at h
  ·rename_i hq
   simp only[Option.some.injEq,Prod.mk.injEq] at h
   obtain⟨rfl,_,rfl⟩:=h
   exact hd _ _ _ _ _ hq hr
  ·split at h
   ·rename_i hq
    simp only[Option.some.injEq,Prod.mk.injEq] at h
    obtain⟨rfl,_,rfl⟩:=h
    obtain⟨l1,l2,e1,k1,k2,k3⟩:=rowN_rel hq hr
    exact⟨l1,l2,e1,⟨k1,RdL_mono (fun _ _=>Rd_mono hS.mem) k2⟩,k3⟩
   ·split at h
    ·rename_i hq
     simp only[Option.some.injEq,Prod.mk.injEq] at h
     obtain⟨rfl,_,rfl⟩:=h
     obtain⟨l1,l2,e1,k1,k2,k3⟩:=arrInts_rel hq hr
     exact⟨l1,l2,e1,⟨k1,RdL_mono (fun _ _=>Rd_mono hS.mem) k2⟩,k3⟩
    ·obtain⟨l1,l2,e1,k1,k2,k3⟩:=pN_rel (R:=Rd M e) (fun cs x ps r l=>ih cs x ps r l) _ _ _ _ _ _ h hp hr
     exact⟨l1,l2,e1,⟨k1,k2⟩,k3⟩
 | sl e ih =>
  intro cs x ps r l h hp hr
  unfold pOne at h
  split at h
  ·rename_i hq
   simp only[Option.some.injEq,Prod.mk.injEq] at h
   obtain⟨rfl,_,rfl⟩:=h
   exact hd _ _ _ _ _ hq hr
  ·split at h
   ·rename_i e' xs r' _
    split at h
    ·rename_i he _
     subst he
     simp only[Option.some.injEq,Prod.mk.injEq,castL_rfl] at h
     obtain⟨rfl,_,rfl⟩:=h
     obtain⟨v1,v2,e1,h1,h2⟩:=hr
     exact⟨v1,v2,e1,Rd_mono (e:=.sl e') hS.mem h1,h2⟩
    ·simp at h
   ·simp only[Option.some.injEq,Prod.mk.injEq] at h
    obtain⟨rfl,_,rfl⟩:=h
    obtain⟨v1,v2,e1,⟨h1,_⟩,h2⟩:=hr
    exact⟨v1,v2,e1,.inl ⟨rfl,none,0,h1,fun _=>rfl⟩,h2⟩
   ·rename_i id base off len c r' _
    obtain⟨v1,v2,e1,h1,h2⟩:=hr
    split at h
    ·rename_i d ds hB
     split at h
     ·rename_i xs p hq
      simp only[Option.some.injEq,Prod.mk.injEq] at h
      obtain⟨rfl,rfl,rfl⟩:=h
      refine⟨v1,v2,e1,?_,h2⟩
      have hx:∀ l,cellsRel ρ (d::ds) l->_:=fun l hl=>slRow_rel hq hp hl
      by_cases hex:∃ l,cellsRel ρ (d::ds) l
      ·obtain⟨l0,hl0⟩:=hex
       refine sl_rd hS hB (by simp) h1 (fun l hl=>?_) (hx l0 hl0).1
       obtain⟨k1,k2,k3,k4⟩:=hx l hl
       exact⟨k1,k2,k3,RdL_mono (fun _ _=>Rd_mono hS.mem) k4⟩
      ·rcases rel_sl' h1 with ⟨h0,e0⟩|⟨b,o,cap,hb,hl,ho,hn,e0⟩
       ·subst h0
        have:xs=[]:=by
         unfold slRow at hq
         split at hq
         ·split at hq
          ·simp only[Option.some.injEq,Prod.mk.injEq] at hq
           rw[<- hq.1];simp
          ·simp at hq
         ·simp at hq
        exact .inl ⟨this,none,0,e0,fun _=>rfl⟩
       ·obtain⟨l0,r0,hl0,_⟩:=hS.blk id (d::ds) b hB (by simp) hb
        exact (hex ⟨l0,hl0⟩).elim
     ·split at h
      ·rename_i xs p hq
       simp only[Option.some.injEq,Prod.mk.injEq] at h
       obtain⟨rfl,rfl,rfl⟩:=h
       refine⟨v1,v2,e1,?_,h2⟩
       have hx:∀ l,cellsRel ρ (d::ds) l->_:=fun l hl=>slRaw_rel (R:=Rd M e) (fun _ _=>Rd_len) (fun cs x ps r l=>ih cs x ps r l) hq hp hl
       by_cases hex:∃ l,cellsRel ρ (d::ds) l
       ·obtain⟨l0,hl0⟩:=hex
        exact sl_rd hS hB (by simp) h1 (fun l hl=>hx l hl) (hx l0 hl0).1
       ·rcases rel_sl' h1 with ⟨h0,e0⟩|⟨b,o,cap,hb,hl,ho,hn,e0⟩
        ·subst h0
         have:xs=[]:=by
          unfold slRaw at hq
          split at hq
          ·split at hq
           ·rename_i hq2
            simp only[pN,Option.some.injEq,Prod.mk.injEq] at hq hq2
            rw[<- hq.1,<- hq2.1]
           ·simp at hq
          ·simp at hq
         exact .inl ⟨this,none,0,e0,fun _=>rfl⟩
        ·obtain⟨l0,r0,hl0,_⟩:=hS.blk id (d::ds) b hB (by simp) hb
         exact (hex ⟨l0,hl0⟩).elim
      ·simp at h
    ·simp at h
   ·simp at h
 | ptr e ih =>
  intro cs x ps r l h hp hr
  unfold pOne at h
  split at h
  ·rename_i e' xs i r' 
   split at h
   ·rename_i he _
    subst he
    simp only[Option.some.injEq,Prod.mk.injEq,castC_rfl] at h
    obtain⟨rfl,_,rfl⟩:=h
    obtain⟨v1,v2,e1,⟨b,o,h1,h2,h3⟩,h4⟩:=hr
    refine⟨v1,v2,e1,⟨b,o+i*width e',by rw[h3];rfl,?_⟩,h4⟩
    obtain⟨l',k1,k2,k3⟩:=h1
    have hle:i*width e'+width e'<=xs.length*width e':=by
     have:=Nat.mul_le_mul_right (width e') (show i+1<=xs.length from h2)
     rw[Nat.add_mul,Nat.one_mul] at this;exact this
    refine⟨l',fun hn=>hS.mem _ _ (k1 hn),by simp only[List.length_cons,List.length_nil];omega,RdL_one (Rd_mono hS.mem ?_)⟩
    have:=RdL_get (fun _ _=>Rd_len) k3 h2 (zeroOf e')
    rw[List.drop_take,List.drop_drop,List.take_take,show min (width e') (xs.length*width e'-i*width e')=width e' by omega] at this
    simpa using this
   ·simp at h
  ·rename_i id r' 
   split at h
   ·rename_i d ds hB
    split at h
    ·rename_i y p hq
     simp only[Option.some.injEq,Prod.mk.injEq] at h
     obtain⟨rfl,rfl,rfl⟩:=h
     obtain⟨v1,v2,e1,⟨b,hb,h1⟩,h2⟩:=hr
     obtain⟨l0,r0,k1,k2,_⟩:=hS.blk id (d::ds) b hB (by simp) hb
     obtain⟨l1,l2,e2,k3,k4⟩:=ih _ _ _ _ _ hq hp k1
     have k4:l2=[]:=k4
     subst k4
     rw[List.append_nil] at e2
     subst e2
     refine⟨v1,v2,e1,⟨b,0,h1,l0++r0,k2,by simp[Rd_len k3],RdL_one ?_⟩,h2⟩
     rw[List.drop_zero,List.length_singleton,Nat.one_mul,<- Rd_len k3,List.take_left]
     exact k3
    ·simp at h
   ·simp at h
  ·simp at h
 | fn f =>
  intro cs x ps r l h hp hr
  unfold pOne at h
  split at h
  ·split at h
   ·rename_i hg
    simp at hg;subst hg
    simp only[Option.some.injEq,Prod.mk.injEq] at h
    obtain⟨_,_,rfl⟩:=h
    obtain⟨v1,v2,e1,⟨h1,_⟩,h2⟩:=hr
    exact⟨v1,v2,e1,h1,h2⟩
   ·simp at h
  ·split at h
   ·rename_i hg
    simp at hg;subst hg
    simp only[Option.some.injEq,Prod.mk.injEq] at h
    obtain⟨_,_,rfl⟩:=h
    obtain⟨v1,v2,e1,⟨us,h0,h1⟩,h2⟩:=hr
    have h0:us=[]:=h0
    subst h0
    exact⟨v1,v2,e1,h1,h2⟩
   ·simp at h
  ·simp at h
 | cap c e ihc ihe =>
  intro cs x ps r l h hp hr
  unfold pOne at h
  split at h
  ·rename_i e' y r'
   split at h
   ·rename_i he _
    subst he
    simp only[Option.some.injEq,Prod.mk.injEq,castC_rfl] at h
    obtain⟨rfl,_,rfl⟩:=h
    obtain⟨v1,v2,e1,h1,h2⟩:=hr
    exact⟨v1,v2,e1,Rd_mono hS.mem h1.1,h2⟩
   ·simp at h
  ·rename_i g i l' r'
   split at h
   ·rename_i d ds hB
    split at h
    ·rename_i y q hq
     split at h
     ·rename_i x' p hx
      simp only[Option.some.injEq,Prod.mk.injEq] at h
      obtain⟨rfl,rfl,rfl⟩:=h
      obtain⟨v1,v2,e1,⟨us,⟨b,vs,hb,hcl,eu⟩,h1⟩,h2⟩:=hr
      obtain⟨l0,r0,k1,k2,_⟩:=hS.blk i (d::ds) b hB (by simp) hb
      obtain⟨l1,l2,e2,k3,k4⟩:=ihe _ _ _ _ _ hq (fun q hq=>hp q (List.mem_append_right _ hq)) k1
      have k4:l2=[]:=k4
      subst k4
      rw[List.append_nil] at e2
      subst e2
      obtain⟨l3,l4,e3,k5,k6⟩:=ihc _ _ _ _ _ hx (fun q hq=>hp q (List.mem_append_left _ hq)) (cellsRel_one1 (c:=.clo g l') ⟨vs,hcl,rfl⟩)
      have k6:l4=[]:=k6
      subst k6
      rw[List.append_nil] at e3
      subst e3 eu
      refine⟨v1,v2,e1,⟨.func g,vs,b,0,h1,k5,l0++r0,k2,by simp[Rd_len k3],RdL_one ?_⟩,h2⟩
      rw[List.drop_zero,List.length_singleton,Nat.one_mul,<- Rd_len k3,List.take_left]
      exact k3
     ·simp at h
    ·simp at h
   ·simp at h
  ·simp at h
 | pq =>
  intro cs x ps r l h hp hr
  unfold pOne at h
  split at h
  ·simp only[Option.some.injEq,Prod.mk.injEq] at h
   obtain⟨rfl,_,rfl⟩:=h
   obtain⟨v1,v2,e1,h1,h2⟩:=hr
   exact⟨v1,v2,e1,h1.1,h2⟩
  ·simp only[Option.some.injEq,Prod.mk.injEq] at h
   obtain⟨rfl,_,rfl⟩:=h
   obtain⟨v1,v2,e1,⟨b,_,h1⟩,h2⟩:=hr
   exact⟨v1,v2,e1,⟨_,h1,rfl⟩,h2⟩
  ·simp only[Option.some.injEq,Prod.mk.injEq] at h
   obtain⟨rfl,_,rfl⟩:=h
   obtain⟨v1,v2,e1,⟨b,_,h1⟩,h2⟩:=hr
   exact⟨v1,v2,e1,⟨_,h1,rfl⟩,h2⟩
  ·simp only[Option.some.injEq,Prod.mk.injEq] at h
   obtain⟨rfl,_,rfl⟩:=h
   obtain⟨v1,v2,e1,⟨b,o,_,_,h1⟩,h2⟩:=hr
   exact⟨v1,v2,e1,⟨_,h1,rfl⟩,h2⟩
  ·simp only[Option.some.injEq,Prod.mk.injEq] at h
   obtain⟨rfl,_,rfl⟩:=h
   obtain⟨v1,v2,e1,⟨h1,_⟩,h2⟩:=hr
   exact⟨v1,v2,e1,⟨none,h1,rfl⟩,h2⟩
  ·simp at h
 | mp =>
  intro cs x ps r l h hp hr
  unfold pOne at h
  split at h
  ·simp only[Option.some.injEq,Prod.mk.injEq] at h
   obtain⟨_,_,rfl⟩:=h
   obtain⟨v1,v2,e1,h1,h2⟩:=hr
   exact⟨v1,v2,e1,Rd_mono (e:=.mp) (x:=x) hS.mem h1.1,h2⟩
  ·simp at h
theorem ofCells_rel {ρ:Rho} {ag:Bool} {cs:List Cell} {x:TV} {l:List Value} (h:ofCells ag cs=some x) (hr:cellsRel ρ cs l) (hs:ag=false->l.length=1) :
  (ag=true->x.rel ρ (.agg ⟨l⟩))/\(ag=false->∃ v,l=[v]/\x.rel ρ v):=by
 cases ag with
 | true=>simp[ofCells] at h;subst h;exact⟨fun _=>⟨l,rfl,hr⟩,(fun h=>nomatch h)⟩
 | false =>
  refine⟨(fun h=>nomatch h),fun _=>?_⟩
  have hl:=hs rfl
  match l,hl with
  | [v],_ =>
   refine⟨v,rfl,?_⟩
   simp only[ofCells] at h
   split at h
   ·rename_i c
    have hc:=cellsRel_one1_inv hr
    split at h
    ·rename_i e n xs hrow
     obtain⟨g1,g2,g3⟩:=asRow_rel hrow hc
     simp only at g1 g2 g3
     split at h
     ·rename_i c' hcc
      simp at h;subst h
      have hlen:=RdL_len (fun _ _=>Rd_len) g2
      have hx1:xs.length=1:=by
       rcases Nat.lt_or_ge xs.length 2 with h'|h'
       ·rcases Nat.eq_zero_or_pos xs.length with h0|h0
        ·rw[h0] at hlen;simp at hlen
        ·omega
       ·exfalso
        have:1=xs.length*width e:=by simpa using hlen
        rcases Nat.eq_zero_or_pos (width e) with h0|h0
        ·rw[h0] at this;omega
        ·have:=Nat.mul_le_mul h' h0;omega
      match xs,hx1 with
      | [y],_ =>
       have:=cellsOf_rel (RdL_one_inv g2)
       have hcc:cellsOf e y=[c']:=hcc
       rw[hcc] at this
       exact cellsRel_one1_inv this
     ·simp at h
    ·simp at h;subst h;exact hc
   ·simp at h
theorem run_loadCells_blk {P:Program} {w:World} {b N off n:Nat} {l:List Value} (h:BlkAt w b N l) (hn:off+n<=l.length) :
  (loadCells ⟨b,off,none⟩ n).run P w=.ok ⟨(l.drop off).take n⟩ w:=by
 have hlen:((l.drop off).take n).length=n:=by simp;omega
 have:=run_loadCells_list (P:=P) (w:=w) ⟨b,off,none⟩ ((l.drop off).take n) (fun j v hj=>by
  have hadd:(⟨b,off,none⟩:Addr).add j=⟨b,off+j,none⟩:=by
   unfold Addr.add;split
   ·rename_i h0;subst h0;rfl
   ·rfl
  rw[hadd]
  refine h.cell ?_
  rw[List.getElem?_take] at hj
  split at hj
  ·simpa using hj
  ·cases hj)
 rw[hlen] at this
 simpa using this
theorem add_off (b off j:Nat):(⟨b,off,none⟩:Addr).add j=⟨b,off+j,none⟩:=by
 unfold Addr.add;split
 ·rename_i h0;subst h0;rfl
 ·rfl
theorem isAgg_run {P:Program} {w:World} {t:TypeId} {d:TypeDesc} (h:P.underlying t=some d):(isAgg t).run P w=.ok (isAggT P t) w:=by
 unfold isAgg underlying isAggT
 simp only[Sem.run_bind,run_program,Result.andThen_ok,h,Sem.run_pure]
 cases d<;>rfl
theorem typeInfo_run {P:Program} {w:World} {t:TypeId} {i:TypeInfo} (h:P.info? t=some i):(typeInfo t).run P w=.ok i w:=by
 unfold typeInfo
 simp only[Sem.run_bind,run_program,Result.andThen_ok,h,Sem.run_pure]
theorem sizeOf_run {P:Program} {w:World} {t:TypeId} {i:TypeInfo} (h:P.info? t=some i):(Go.sizeOf t).run P w=.ok (P.cellsOf t) w:=by
 unfold Go.sizeOf
 simp only[Sem.run_bind,typeInfo_run h,Result.andThen_ok,Sem.run_pure]
 simp[Program.cellsOf,h]
theorem underlying_info {P:Program} {t:TypeId} {d:TypeDesc} (h:P.underlying t=some d):∃ i,P.info? t=some i:=by
 unfold Program.underlying at h
 cases hq:P.info? t with
 | none=>simp[hq] at h
 | some i=>exact⟨i,rfl⟩
theorem underlying_run {P:Program} {w:World} {t:TypeId} {d:TypeDesc} (h:P.underlying t=some d):(underlying t).run P w=.ok d w:=by
 unfold underlying
 simp only[Sem.run_bind,run_program,Result.andThen_ok,h,Sem.run_pure]
theorem run_storeCells_blk {P:Program} {b N off:Nat}:∀ (vs:List Value) (i:Nat) (w:World) (l:List Value),BlkAt w b N l->off+i+vs.length<=l.length->(∀ v∈vs,v.oneCell'=true) ->
  ∃ w',(storeCells ⟨b,off,none⟩ vs i).run P w=.ok () w'/\BlkAt w' b N (l.take (off+i)++(vs++l.drop (off+i+vs.length)))/\w'.heap.size=w.heap.size /\
   (∀ b',b'≠b->w'.heap[b']?=w.heap[b']?)/\w'.os=w.os/\w'.tape=w.tape/\w'.output=w.output:=by
 intro vs
 induction vs with
 | nil =>
  intro i w l h hl _
  exact⟨w,by simp[storeCells],by simpa using h,rfl,fun _ _=>rfl,rfl,rfl,rfl⟩
 | cons x vs ih =>
  intro i w l h hl hone
  have hi:off+i<l.length:=by simp at hl;omega
  have hcell:=h.cell (i:=off+i) (x:=l[off+i]) (by simp[hi])
  have hfr:=h.frozen (i:=off+i) (Nat.lt_of_lt_of_le hi h.len)
  have hb':BlkAt (w.setCell ⟨b,off+i,none⟩ x) b N (l.set (off+i) x):=by
   obtain⟨rest,el,fr,hh,hf,hg⟩:=h
   refine⟨rest,el,fr,?_,by simpa using hf,hg⟩
   simp only[World.setCell,Array.getElem?_modify,if_true,hh,Option.map_some]
   simp[List.set_append_left _ _ hi]
  obtain⟨w',h1,h2,h3,h4,h5,h6,h7⟩:=ih (i+1) (w.setCell ⟨b,off+i,none⟩ x) (l.set (off+i) x) hb' (by simp at hl ⊢;omega) (fun v hv=>hone v (by simp[hv]))
  refine⟨w',?_,?_,?_,?_,?_,?_,?_⟩
  ·unfold storeCells
   rw[add_off]
   simp only[Sem.run_bind]
   rw[run_store P w _ x .plain (hone x (by simp))]
   simp only[hcell,hfr]
   simpa using h1
  ·have e1:(l.set (off+i) x).take (off+(i+1))=l.take (off+i)++[x]:=by
    rw[show off+(i+1)=(off+i)+1 from by omega,List.take_succ_eq_append_getElem (by simpa using hi)]
    simp[List.take_set_of_le]
   have e2:(l.set (off+i) x).drop (off+(i+1)+vs.length)=l.drop (off+i+(x::vs).length):=by
    rw[List.drop_set_of_lt (by omega)];congr 1;simp;omega
   rw[e1,e2] at h2
   simpa using h2
  ·rw[h3];simp[World.setCell]
  ·intro b'' hne
   rw[h4 b'' hne]
   simp only[World.setCell,Array.getElem?_modify]
   rw[if_neg (fun e=>hne e.symm)]
  ·exact h5
  ·exact h6
  ·exact h7
end Go.Eng
namespace Go.Eng
open Go Go.RowKit
def valsRel (ρ:Rho):List SV->List Value->Prop
 | [],us=>us=[]
 | v::vs,us=>∃ x xs,us=x::xs/\v.rel ρ x/\valsRel ρ vs xs
structure Eff (id:Nat) (B:Blks) (out:Out) (ρ ρ':Rho) (w w':World):Prop where
 le:Rho.le ρ ρ'
 dom:∀ i b,ρ' i=some b->ρ i=some b\/(id<=i/\i<id+8/\(∃ p∈out.new,p.1=i)/\(w.heap.size<=b\/∃ q∈out.wr,ρ q.1=some b))
 bound:∀ i b,ρ' i=some b->b<w'.heap.size
 os:w'.os=w.os
 tape:w'.tape=w.tape
 output:w'.output=w.output
 size:w.heap.size<=w'.heap.size
 same:∀ b,b<w.heap.size->(∀ p∈out.wr,ρ p.1≠some b)->w'.heap[b]?=w.heap[b]?
 new:∀ p∈out.new,id<=p.1/\p.1<id+8/\∀ b,ρ' p.1=some b->p.2≠[] ->
  (w.heap.size<=b\/∃ q∈out.wr,ρ q.1=some b/\q.2=[])/\∃ l,BlkAt w' b (ρ'.n p.1) l/\cellsRel ρ' p.2 l
 newinj:∀ p∈out.new,∀ q∈out.new,∀ b,ρ' p.1=some b->ρ' q.1=some b->p.1=q.1
 wruniq:∀ p∈out.wr,∀ q∈out.wr,p.1=q.1->p=q
 wr:∀ p∈out.wr,(∃ cs,B p.1=some cs/\cs≠[])/\∀ b,ρ p.1=some b->p.2≠[]->∃ l,BlkAt w' b (ρ.n p.1) l/\cellsRel ρ' p.2 l
 mem:∀ b l,ρ'.M b=some l->ρ.M b=some l\/((∀ p∈out.new,ρ' p.1≠some b)/\(w.heap.size<=b\/∃ q∈out.wr,ρ q.1=some b/\q.2=[])/\∃ el fr,w'.heap[b]?=some (objOf l el fr))
structure Ctx (w0:Base) (id:Nat) (ρ:Rho) (B:Blks) (w:World):Prop where
 below:Keeps w0 w
 blks:∀ i cs,B i=some cs->cs≠[]->∀ b,ρ i=some b->∃ l,BlkAt w b (ρ.n i) l/\cellsRel ρ cs l
 bound:∀ i b,ρ i=some b->b<w.heap.size
 free:∀ i,id<=i->i<id+8->ρ i=none
 mem:∀ b l,ρ.M b=some l->∃ el fr,w.heap[b]?=some (objOf l el fr)
 glob:∀ g e x,w0.gl g=some ⟨e,x⟩->RowAt (Rd ρ.M e) (width e) ρ.M g 0 [x]
 inj:∀ i i' cs cs' b,B i=some cs->cs≠[]->B i'=some cs'->cs'≠[]->ρ i=some b->ρ i'=some b->i=i'
 apart:∀ b l,ρ.M b=some l->∀ i cs,B i=some cs->cs≠[]->ρ i≠some b
def CallOk (P:Program) (f:FuncId) (us:Array Value) (w:World) (R:Value->World->Prop):Prop :=
 ((callFunc f us).run P w=.ok (.enter f us) w/\Calls P f us w fun e w'=>∃ v,e=.returned v/\R v w') \/
 (∃ v w',(callFunc f us).run P w=.ok (.value v) w'/\R v w')
def SpecOk (P:Program) (f:FuncId) (F:Spec):Prop :=
 ∀ (w0:Base) (id:Nat) (args:List SV) (B:Blks) (out:Out),F w0 id args B=some out->(∀ p∈out.pre,p) ->
  ∀ (ρ:Rho) (us:List Value) (w:World),valsRel ρ args us->Ctx w0 id ρ B w ->
   CallOk P f ⟨us⟩ w fun v w'=>∃ ρ',out.val.rel ρ' v/\Eff id B out ρ ρ' w w'
def SpecsOk (P:Program) (sp:FuncId->Option Spec):Prop:=∀ f F,sp f=some F->SpecOk P f F
def Sound1 (P:Program) (id:Nat) (B:Blks) (o:Oper) (out:Out) (ρ:Rho) (a:Act) (w:World):Prop :=
 ∀ (next:Act->World->Prop) (Q:Exit->Act->World->Prop),(∀ v w' ρ',out.val.rel ρ' v->Eff id B out ρ ρ' w w'->next (a.put o.dst v) w')->o.wp P a w next Q
section
variable {P:Program} {w0:Base} {id:Nat} {ρ:Rho} {B:Blks} {w:World}
theorem Ctx.eff (hc:Ctx w0 id ρ B w) (v:SV) (p:List Prop):Eff id B { val:=v,pre:=p } ρ ρ w w :=
 ⟨Rho.le_refl _,fun _ _ h=>.inl h,hc.bound,rfl,rfl,rfl,Nat.le_refl _,fun _ _ _=>rfl,fun _ h=>(nomatch h),fun _ h=>(nomatch h),fun _ h=>(nomatch h),fun _ h=>(nomatch h),fun _ _ h=>.inl h⟩
theorem sound_val (hc:Ctx w0 id ρ B w) {o:Oper} {a:Act} {v:Value} {x:SV} {p:List Prop} (h:(execOp a.eval o).run P w=.ok (.value v) w) (hx:x.rel ρ v) :
  Sound1 P id B o { val:=x,pre:=p } ρ a w:=by
 intro next Q hn
 unfold Oper.wp
 rw[h]
 exact hn v w ρ hx (hc.eff x p)
def Rho.push (ρ:Rho) (id b n:Nat):Rho:=⟨fun i=>if i=id then some b else ρ i,fun i=>if i=id then n else ρ.n i,ρ.M⟩
theorem Rho.push_self {id b n:Nat}:(ρ.push id b n) id=some b:=by simp[Rho.push]
theorem Rho.push_n {id b n:Nat}:(ρ.push id b n).n id=n:=by simp[Rho.push]
theorem Rho.push_ne {id b n i:Nat} (h:i≠id):(ρ.push id b n) i=ρ i:=by simp[Rho.push,h]
theorem Rho.push_le {id b n:Nat} (h:ρ id=none):Rho.le ρ (ρ.push id b n):=by
 refine⟨?_,Mem.le_refl _⟩
 intro i c hi
 by_cases e:i=id
 ·subst e;rw[h] at hi;cases hi
 ·simp[Rho.push,e,hi]
theorem eff_alloc (hc:Ctx w0 id ρ B w) {cs:List Cell} {l:List Value} (t:TypeId) (hr:cellsRel ρ cs l) (x:SV) (p:List Prop) :
  Eff id B { val:=x,new:=[(id,cs)],pre:=p } ρ (ρ.push id w.heap.size l.length) w (w.alloc (.cells ⟨l⟩ t)):=by
 have hle:Rho.le ρ (ρ.push id w.heap.size l.length):=Rho.push_le (hc.free id (Nat.le_refl _) (by omega))
 refine⟨hle,?_,?_,rfl,rfl,rfl,by simp,?_,?_,?_,fun _ h=>(nomatch h),fun _ h=>(nomatch h),fun _ _ h=>.inl h⟩
 ·intro i b h
  by_cases e:i=id
  ·subst e;rw[Rho.push_self] at h;simp at h;exact .inr ⟨Nat.le_refl _,by omega,⟨(i,cs),by simp,rfl⟩,.inl (by omega)⟩
  ·rw[Rho.push_ne e] at h;exact .inl h
 ·intro i b h
  by_cases e:i=id
  ·subst e;rw[Rho.push_self] at h;simp at h;simp;omega
  ·rw[Rho.push_ne e] at h;have:=hc.bound i b h;simp;omega
 ·intro b hb _
  exact Below.heap_alloc w _ b hb
 ·intro p hp
  simp at hp
  subst hp
  refine⟨Nat.le_refl _,by show id<id+8;omega,fun b hb _=>?_⟩
  rw[Rho.push_self] at hb;simp at hb;subst hb
  refine⟨.inl (Nat.le_refl _),l,⟨[],t,(0,0),?_,?_,.inl rfl⟩,cellsRel_mono hle hr⟩
  ·show (w.heap.push _)[w.heap.size]?=_;simp
  ·rw[Rho.push_n];simp
 ·intro p hp q hq _ _ _
  simp at hp hq
  rw[hp,hq]
theorem sound_alloc (hc:Ctx w0 id ρ B w) {o:Oper} {a:Act} {cs:List Cell} {l:List Value} {t:TypeId} {v:Value} {x:SV} {p:List Prop}
  (h:(execOp a.eval o).run P w=.ok (.value v) (w.alloc (.cells ⟨l⟩ t))) (hr:cellsRel ρ cs l)
  (hv:∀ ρ':Rho,ρ' id=some w.heap.size->ρ'.n id=l.length->x.rel ρ' v):Sound1 P id B o { val:=x,new:=[(id,cs)],pre:=p } ρ a w:=by
 intro next Q hn
 unfold Oper.wp
 rw[h]
 exact hn v _ _ (hv _ Rho.push_self Rho.push_n) (eff_alloc hc t hr x p)
theorem sound_store (hc:Ctx w0 id ρ B w) {o:Oper} {a:Act} {i b:Nat} {cs cs':List Cell} {l':List Value} {w':World} {p:List Prop} (hi:ρ i=some b) (hB:B i=some cs) (hcs:cs≠[])
  (h:(execOp a.eval o).run P w=.ok .skip w') (hb:BlkAt w' b (ρ.n i) l') (hr:cellsRel ρ cs' l') (hs:w'.heap.size=w.heap.size)
  (hsame:∀ b',b'≠b->w'.heap[b']?=w.heap[b']?) (h1:w'.os=w.os) (h2:w'.tape=w.tape) (h3:w'.output=w.output) :
  Sound1 P id B o { val:=.undef,wr:=[(i,cs')],pre:=p } ρ a w:=by
 intro next Q hn
 unfold Oper.wp
 rw[h]
 refine hn undef w' ρ rfl ⟨Rho.le_refl _,fun _ _ h=>.inl h,fun j c hj=>by rw[hs];exact hc.bound j c hj,h1,h2,h3,by omega,?_,fun _ h=>(nomatch h),fun _ h=>(nomatch h),fun p hp q hq _=>by simp at hp hq;rw[hp,hq],?_,fun _ _ h=>.inl h⟩
 ·intro c _ hne
  refine hsame c (fun e=>?_)
  subst e
  exact hne (i,cs') (by simp) hi
 ·intro q hq
  simp at hq
  subst hq
  refine⟨⟨cs,hB,hcs⟩,fun b' hb' _=>?_⟩
  rw[hi] at hb';simp at hb';subst hb'
  exact⟨l',hb,hr⟩
theorem valsRel_one {v:SV} {us:List Value} (h:valsRel ρ [v] us):∃ x,us=[x]/\v.rel ρ x:=by
 obtain⟨x,xs,e,h1,h2⟩:=h
 have:xs=[]:=h2
 subst this
 exact⟨x,e,h1⟩
theorem valsRel_two {v u:SV} {us:List Value} (h:valsRel ρ [v,u] us):∃ x y,us=[x,y]/\v.rel ρ x/\u.rel ρ y:=by
 obtain⟨x,xs,e,h1,h2⟩:=h
 obtain⟨y,e2,h3⟩:=valsRel_one h2
 subst e2
 exact⟨x,y,e,h1,h3⟩
theorem valsRel_three {v u t:SV} {us:List Value} (h:valsRel ρ [v,u,t] us):∃ x y z,us=[x,y,z]/\v.rel ρ x/\u.rel ρ y/\t.rel ρ z:=by
 obtain⟨x,xs,e,h1,h2⟩:=h
 obtain⟨y,z,e2,h3⟩:=valsRel_two h2
 subst e2
 exact⟨x,y,z,e,h1,h3⟩
theorem rel_v {x:Value} {y:Value} (h:(SV.is (.one (.v x))).rel ρ y):y=x:=by
 have:=h.1
 simpa using this
theorem rel_ptr {i off:Nat} {y:Value} (h:(SV.is (.one (.ptr i off))).rel ρ y):∃ b,ρ i=some b/\y=.pointer (some ⟨b,off,none⟩):=by
 obtain⟨b,hb,e⟩:=h
 exact⟨b,hb,by simpa using e⟩
theorem rel_pe {i base j c:Nat} {y:Value} (h:(SV.is (.one (.pe i base j c))).rel ρ y):∃ b,ρ i=some b/\y=.pointer (some ⟨b,base+j*c,none⟩):=by
 obtain⟨b,hb,e⟩:=h
 exact⟨b,hb,by simpa using e⟩
theorem rel_rp {e:Kd} {xs:List (Car e)} {i off:Nat} {y:Value} (h:(SV.is (.one (.rp e xs i off))).rel ρ y):∃ b o,RowAt (Rd ρ.M e) (width e) ρ.M b o xs/\i<xs.length/\y=.pointer (some ⟨b,o+(i*width e+off),none⟩):=by
 obtain⟨b,o,h1,h2,h3⟩:=h
 exact⟨b,o,h1,h2,by simpa using h3⟩
theorem rel_sl {i base off len c:Nat} {y:Value} (h:(SV.is (.one (.sl i base off len c))).rel ρ y):(len=0/\y=.slice none 0 0) \/
  ∃ b o cap,ρ i=some b/\len<=cap/\(o=base+off*c\/cap=0)/\o+cap*c<=ρ.n i/\y=.slice (some ⟨b,o,none⟩) len cap:=by
 rcases h with ⟨h,e⟩|⟨b,o,cap,hb,hl,ho,hn,e⟩
 ·exact .inl ⟨h,by simpa using e⟩
 ·exact .inr ⟨b,o,cap,hb,hl,ho,hn,by simpa using e⟩
theorem rel_ro {e:Kd} {xs:List (Car e)} {y:Value} (h:(SV.is (.one (.ro e xs))).rel ρ y):(xs=[]/\∃ a cap,y=.slice a 0 cap/\(a=none->cap=0)) \/
  ∃ b o cap,y=.slice (some ⟨b,o,none⟩) xs.length cap/\xs.length<=cap/\RowAt (Rd ρ.M e) (width e) ρ.M b o xs:=by
 rcases h with ⟨h,a,cap,e,h2⟩|⟨b,o,cap,e,h2⟩
 ·exact .inl ⟨h,a,cap,by simpa using e,h2⟩
 ·exact .inr ⟨b,o,cap,by simpa using e,h2⟩
theorem mk_ptr {i off b:Nat} (h:ρ i=some b):(SV.is (.one (.ptr i off))).rel ρ (.pointer (some ⟨b,off,none⟩)):=⟨b,h,rfl⟩
theorem mk_pe {i base j c o b:Nat} (h:ρ i=some b) (ho:o=base+j*c):(SV.is (.one (.pe i base j c))).rel ρ (.pointer (some ⟨b,o,none⟩)):=⟨b,h,by rw[ho]⟩
theorem mk_rp {e:Kd} {xs:List (Car e)} {i off b o o':Nat} (h:RowAt (Rd ρ.M e) (width e) ρ.M b o xs) (hi:i<xs.length) (ho:o'=o+(i*width e+off)):(SV.is (.one (.rp e xs i off))).rel ρ (.pointer (some ⟨b,o',none⟩)):=⟨b,o,h,hi,by rw[ho]⟩
theorem mk_v {x:Value} (h:x.oneCell'=true):(SV.is (.one (.v x))).rel ρ x:=⟨rfl,h⟩
theorem run_v {a:Act} {o:Oper} {s:Sem Value} {v:Value} {w':World} (he:execOp a.eval o=(do pure (.value (<- s)))) (h:s.run P w=.ok v w') :
  (execOp a.eval o).run P w=.ok (.value v) w':=by
 rw[he]
 simp[h]
theorem run_u {a:Act} {o:Oper} {s:Sem Unit} {w':World} (he:execOp a.eval o=(do s;pure .skip)) (h:s.run P w=.ok () w') :
  (execOp a.eval o).run P w=.ok .skip w':=by
 rw[he]
 simp[h]
theorem Ctx.ro (hc:Ctx w0 id ρ B w) {b:Nat} {l:List Value} (h:ρ.M b=some l):∃ el fr,w.heap[b]?=some (objOf l el fr):=hc.mem b l h
theorem ro_cell (hc:Ctx w0 id ρ B w) {b i:Nat} {l:List Value} {x:Value} (h:l≠[]->ρ.M b=some l) (hi:l[i]?=some x):w.cell? ⟨b,i,none⟩=some x:=by
 have hn:l≠[]:=by rintro rfl;simp at hi
 obtain⟨el,fr,h⟩:=hc.ro (h hn)
 rw[objOf_cells hn] at h
 simp only[World.cell?,h]
 simp[hi]
theorem run_loadCells_ro (hc:Ctx w0 id ρ B w) {b off n:Nat} {l:List Value} (h:l≠[]->ρ.M b=some l) (hn:off+n<=l.length) :
  (loadCells ⟨b,off,none⟩ n).run P w=.ok ⟨(l.drop off).take n⟩ w:=by
 have hlen:((l.drop off).take n).length=n:=by simp;omega
 have:=run_loadCells_list (P:=P) (w:=w) ⟨b,off,none⟩ ((l.drop off).take n) (fun j v hj=>by
  rw[add_off]
  refine ro_cell hc h ?_
  rw[List.getElem?_take] at hj
  split at hj
  ·simpa using hj
  ·cases hj)
 rw[hlen] at this
 simpa using this
end
end Go.Eng
namespace Go.Eng
open Go Go.RowKit Cr
section
variable {P:Program} {w0:Base} {id:Nat} {ρ:Rho} {B:Blks} {w:World} {a:Act} {dst:Option Tmp} {ty:TypeId} {pos:String} {af:Array Edge} {gd:Option (Nat × Bool)} {out:Out}
theorem s_move (hc:Ctx w0 id ρ B w) {x:Operand} {vs:List SV} (h:xMove vs=some out) (hv:valsRel ρ vs [a.eval x]):Sound1 P id B ⟨dst,.move x,ty,pos,af,gd⟩ out ρ a w:=by
 match vs,h with
 | [y],h =>
  obtain⟨z,e,hz⟩:=valsRel_one hv
  simp at e;subst e
  simp[xMove,ret] at h;subst h
  exact sound_val hc rfl hz
theorem s_assign (hc:Ctx w0 id ρ B w) {x:Operand} {vs:List SV} (h:xMove vs=some out) (hv:valsRel ρ vs [a.eval x]):Sound1 P id B ⟨dst,.assign x,ty,pos,af,gd⟩ out ρ a w:=by
 match vs,h with
 | [y],h =>
  obtain⟨z,e,hz⟩:=valsRel_one hv
  simp at e;subst e
  simp[xMove,ret] at h;subst h
  exact sound_val hc rfl hz
theorem s_pick (hc:Ctx w0 id ρ B w) {c x y:Operand} {vs:List SV} (h:xPick vs=some out) (hv:valsRel ρ vs [a.eval c,a.eval x,a.eval y]):Sound1 P id B ⟨dst,.pick c x y,ty,pos,af,gd⟩ out ρ a w:=by
 unfold xPick at h
 split at h
 ·obtain⟨p,q,r,e,h1,h2,h3⟩:=valsRel_three hv
  simp only[List.cons.injEq,and_true] at e;obtain⟨rfl,rfl,rfl⟩:=e
  simp[ret] at h;subst h
  have h1:[a.eval c]=[Value.bool true]:=h1
  simp at h1
  exact sound_val hc (v:=a.eval x) (by simp[execOp,h1,asBool]) h2
 ·obtain⟨p,q,r,e,h1,h2,h3⟩:=valsRel_three hv
  simp only[List.cons.injEq,and_true] at e;obtain⟨rfl,rfl,rfl⟩:=e
  simp[ret] at h;subst h
  have h1:[a.eval c]=[Value.bool false]:=h1
  simp at h1
  exact sound_val hc (v:=a.eval y) (by simp[execOp,h1,asBool]) h3
 ·rename_i cb xb yb
  obtain⟨p,q,r,e,h1,h2,h3⟩:=valsRel_three hv
  simp only[List.cons.injEq,and_true] at e;obtain⟨rfl,rfl,rfl⟩:=e
  simp[retV] at h;subst h
  have h1:=rel_v h1;have h2:=rel_v h2;have h3:=rel_v h3
  refine sound_val hc (v:=.bool (bif cb then xb else yb)) ?_ (mk_v rfl)
  simp only[execOp,h1,h2,h3,asBool]
  cases cb<;>simp
 ·simp at h
theorem ofCell_rel (x:Value) (h:x.oneCell'=true):(ofCell x).rel ρ [x]:=by
 cases x with
 | bool b=>cases b<;>rfl
 | _=>first|exact⟨rfl,h⟩|simp[Value.oneCell'] at h
theorem map_ofCell_rel:∀ (vs:List Value),(∀ x∈vs,x.oneCell'=true)->cellsRel ρ (vs.map ofCell) vs:=by
 intro vs
 induction vs with
 | nil=>intro _;exact rfl
 | cons x vs ih=>intro h;exact⟨[x],vs,rfl,ofCell_rel x (h x (by simp)),ih (fun y hy=>h y (by simp[hy]))⟩
theorem zeroC_rel {t:TypeId} {cs:List Cell} (h:zeroC P t=some cs):∃ i z,P.info? t=some i/\i.zero=some z/\cellsRel ρ cs z.cells.toList:=by
 unfold zeroC at h
 split at h
 ·rename_i i d str sz by_ hp al fa z cm ms hi
  refine⟨_,z,hi,rfl,?_⟩
  split at h
  ·rename_i κ hκ
   split at h
   ·rename_i hz
    simp only[Bool.and_eq_true] at hz
    simp at h;subst h
    rw[isZeroVals_eq hz.1]
    exact zeroCells_rel hz.2
   ·simp at h
  ·split at h
   ·rename_i hall
    simp at h;subst h
    exact map_ofCell_rel _ (List.all_eq_true.1 hall)
   ·simp at h
 ·simp at h
theorem s_alloc (hc:Ctx w0 id ρ B w) {t:TypeId} (h:xAlloc P id t=some out):Sound1 P id B ⟨dst,.alloc t,ty,pos,af,gd⟩ out ρ a w:=by
 unfold xAlloc at h
 split at h
 ·rename_i cs hcs
  simp at h;subst h
  obtain⟨i,z,hi,hz,hr⟩:=zeroC_rel (ρ:=ρ) hcs
  refine sound_alloc hc (l:=z.cells.toList) (t:=t) (v:=.pointer (some ⟨w.heap.size,0,none⟩)) (run_v rfl ?_) hr (fun ρ' h _=>mk_ptr h)
  unfold Instr.alloc zeroValue
  simp only[Sem.run_bind,typeInfo_run hi,Result.andThen_ok,hz,Sem.run_pure]
  simp only[newVar,newRow,Sem.run_bind,run_newObj,Result.andThen_ok,Sem.run_pure]
  rfl
 ·simp at h
theorem s_box (hc:Ctx w0 id ρ B w) {t:TypeId} {x:Operand} {vs:List SV} (h:xBox id vs=some out) (hv:valsRel ρ vs [a.eval x]):Sound1 P id B ⟨dst,.box t x,ty,pos,af,gd⟩ out ρ a w:=by
 unfold xBox at h
 split at h
 ·rename_i y
  obtain⟨z,e,hz⟩:=valsRel_one hv
  simp at e;subst e
  simp at h;subst h
  obtain⟨l,hl,hr⟩:=TV.rel_cells (x:=y) hz
  refine sound_alloc hc (l:=l) (t:=t) (v:=.pointer (some ⟨w.heap.size,0,none⟩)) (run_v rfl ?_) hr (fun ρ' h _=>mk_ptr h)
  unfold Instr.box
  simp only[newVar,newRow,Sem.run_bind,run_newObj,Result.andThen_ok,Sem.run_pure,hl]
  rfl
 ·simp at h
theorem run_loadVar {t:TypeId} {b N off:Nat} {l:List Value} {d:TypeDesc} (hd:P.underlying t=some d) (hb:BlkAt w b N l) (hle:off+P.cellsOf t<=l.length) :
  (isAggT P t=true->(loadVar t ⟨b,off,none⟩).run P w=.ok (.agg ⟨(l.drop off).take (P.cellsOf t)⟩) w) /\
  (isAggT P t=false->∀ x,(l.drop off).take 1=[x]->(loadVar t ⟨b,off,none⟩).run P w=.ok x w):=by
 obtain⟨i,hi⟩:=underlying_info hd
 constructor
 ·intro ha
  unfold loadVar
  simp only[Sem.run_bind,isAgg_run hd,Result.andThen_ok,ha,if_true,sizeOf_run hi,run_loadCells_blk hb hle,Sem.run_pure]
 ·intro ha x hx
  unfold loadVar
  simp only[Sem.run_bind,isAgg_run hd,Result.andThen_ok,ha,Bool.false_eq_true,if_false]
  have hcell:w.cell? ⟨b,off,none⟩=some x:=by
   refine hb.cell ?_
   have:=congrArg (fun l:List Value=>l[0]?) hx
   simpa[List.getElem?_take] using this
  simp[run_load,hcell]
theorem run_loadVar_ro (hc:Ctx w0 id ρ B w) {t:TypeId} {b off:Nat} {l:List Value} {d:TypeDesc} (hd:P.underlying t=some d) (hb:l≠[]->ρ.M b=some l) (hle:off+P.cellsOf t<=l.length) :
  (isAggT P t=true->(loadVar t ⟨b,off,none⟩).run P w=.ok (.agg ⟨(l.drop off).take (P.cellsOf t)⟩) w) /\
  (isAggT P t=false->∀ x,(l.drop off).take 1=[x]->(loadVar t ⟨b,off,none⟩).run P w=.ok x w):=by
 obtain⟨i,hi⟩:=underlying_info hd
 constructor
 ·intro ha
  unfold loadVar
  simp only[Sem.run_bind,isAgg_run hd,Result.andThen_ok,ha,if_true,sizeOf_run hi,run_loadCells_ro hc hb hle,Sem.run_pure]
 ·intro ha x hx
  unfold loadVar
  simp only[Sem.run_bind,isAgg_run hd,Result.andThen_ok,ha,Bool.false_eq_true,if_false]
  have hcell:w.cell? ⟨b,off,none⟩=some x:=by
   refine ro_cell hc hb ?_
   have:=congrArg (fun l:List Value=>l[0]?) hx
   simpa[List.getElem?_take] using this
  simp[run_load,hcell]
theorem seg_take {l1 l2 m:List Value} {base off n:Nat} (hb:l1.length=base) (hn:off+n<=m.length):((l1++(m++l2)).drop (base+off)).take n=(m.drop off).take n:=by
 rw[List.drop_append,List.drop_of_length_le (by omega),List.nil_append,hb,show base+off-base=off by omega,List.drop_append_of_le_length (by omega),List.take_append_of_le_length (by simp;omega)]
theorem elemLoad_rel {e:Kd} {n:Nat} {xs:List (Car e)} {j q sz:Nat} {ag:Bool} {x:TV} {ps:List Prop} {m:List Value} (h:elemLoad e n xs j q sz ag=some (x,ps)) (hp:∀ p∈ps,p) (hx:xs.length=n) (hr:RdL (Rd ρ.M e) xs m) (hs:ag=false->sz=1) :
  j*width e+q+sz<=m.length/\(ag=true->x.rel ρ (.agg ⟨(m.drop (j*width e+q)).take sz⟩))/\(ag=false->∃ v,(m.drop (j*width e+q)).take sz=[v]/\x.rel ρ v):=by
 have hml:=RdL_len (fun _ _=>Rd_len) hr
 unfold elemLoad at h
 split at h
 ·rename_i hle
  have hle:=Nat.le_of_ble_eq_true hle
  split at h
  ·rename_i mm hm
   split at h
   ·rename_i y hy
    simp only[Option.some.injEq,Prod.mk.injEq] at h
    obtain⟨rfl,rfl⟩:=h
    have hj:j<n:=hp _ (by simp)
    have hg:=RdL_get (fun _ _=>Rd_len) hr (i:=j) (by omega) (zeroOf e)
    have hgl:=Rd_len hg
    have hjm:j*width e+width e<=m.length:=by
     rw[hml,<- Nat.succ_mul];exact Nat.mul_le_mul_right _ (by omega)
    obtain⟨k1,k2⟩:=subC_rel hm (cellsOf_rel hg)
    have hcut:(((m.drop (j*width e)).take (width e)).drop q).take sz=(m.drop (j*width e+q)).take sz:=by
     rw[List.drop_take,List.take_take,List.drop_drop,Nat.min_eq_left (by omega)]
    rw[hcut] at k1
    have hlen:((m.drop (j*width e+q)).take sz).length=sz:=by simp;omega
    obtain⟨g1,g2⟩:=ofCells_rel hy k1 (fun h=>by rw[hlen,hs h])
    exact⟨by omega,g1,g2⟩
   ·simp at h
  ·simp at h
 ·split at h
  ·rename_i hq
   simp only[Bool.and_eq_true] at hq
   obtain⟨⟨hq0,hag⟩,hd⟩:=hq
   have hq0:=beq_true hq0
   have hd:=beq_true hd
   subst hq0 hag
   simp only[Option.some.injEq,Prod.mk.injEq] at h
   obtain⟨rfl,rfl⟩:=h
   have hj:j+sz/width e<=n:=hp _ (by simp)
   have h1:=(RdL_split (fun _ _=>Rd_len) j hr).2
   have h2:=(RdL_split (fun _ _=>Rd_len) (sz/width e) h1).1
   rw[hd] at h2
   have hjm:j*width e+sz<=m.length:=by
    have:=Nat.mul_le_mul_right (width e) hj
    rw[Nat.add_mul,hd] at this;rw[hml,hx];exact this
   refine⟨by omega,fun _=>⟨_,rfl,cellsRel_one1 (mkRow_rel (by simp;omega) h2)⟩,fun h=>nomatch h⟩
  ·simp at h
theorem elem_at {c q i w':Nat} (hc:c=w'):addN (q/c) i*w'+q%c=q+i*c:=by
 subst hc
 rw[addN_eq,Nat.add_mul]
 have:=Nat.div_add_mod q c
 rw[Nat.mul_comm c] at this
 omega
theorem sound_of_load (hc:Ctx w0 id ρ B w) {t:TypeId} {x:Operand} {b off:Nat} {l:List Value} {y:TV} {p:List Prop} (ha:a.eval x=.pointer (some ⟨b,off,none⟩))
  (hl:(isAggT P t=true->(loadVar t ⟨b,off,none⟩).run P w=.ok (.agg ⟨(l.drop off).take (P.cellsOf t)⟩) w)/\(isAggT P t=false->∀ x,(l.drop off).take 1=[x]->(loadVar t ⟨b,off,none⟩).run P w=.ok x w))
  (hz:isAggT P t=false->P.cellsOf t=1)
  (hy:(isAggT P t=true->y.rel ρ (.agg ⟨(l.drop off).take (P.cellsOf t)⟩))/\(isAggT P t=false->∃ v,(l.drop off).take (P.cellsOf t)=[v]/\y.rel ρ v)) :
  Sound1 P id B ⟨dst,.load t x,ty,pos,af,gd⟩ { val:=.is y,pre:=p } ρ a w:=by
 have hadd:Instr.loadAt t (a.eval x)=(do loadVar t (<- Instr.sureAddr (a.eval x))):=rfl
 cases hag:isAggT P t with
 | true=>exact sound_val hc (run_v rfl (by rw[hadd,ha];simp[Instr.sureAddr,hl.1 hag])) (hy.1 hag)
 | false =>
  obtain⟨v,hv1,hv2⟩:=hy.2 hag
  rw[hz hag] at hv1
  exact sound_val hc (run_v rfl (by rw[hadd,ha];simp[Instr.sureAddr,hl.2 hag v hv1])) hv2
theorem loadIn_sound (hc:Ctx w0 id ρ B w) {t:TypeId} {x:Operand} {cs:List Cell} {i b base j c:Nat} {d:TypeDesc} (hd:P.underlying t=some d) (hz:isAggT P t=false->P.cellsOf t=1) (h:loadIn P t cs base j c=some out) (hp:∀ p∈out.pre,p)
  (hb:ρ i=some b) (hB:B i=some cs) (hne:cs≠[]) (ha:a.eval x=.pointer (some ⟨b,base+j*c,none⟩)):Sound1 P id B ⟨dst,.load t x,ty,pos,af,gd⟩ out ρ a w:=by
 unfold loadIn at h
 split at h
 ·rename_i a0 e n xs q r hseg
  split at h
  ·rename_i hcw
   have hcw:=beq_true hcw
   split at h
   ·rename_i y p hy
    simp at h;subst h
    obtain⟨l,hblk,hr⟩:=hc.blks _ _ hB hne b hb
    obtain⟨l1,m,l2,el,k1,k2,k3,k4,k5⟩:=segF_rel hseg hr
    simp only at k4 k5
    obtain⟨g1,g2,g3⟩:=elemLoad_rel hy hp k4 k5 hz
    rw[elem_at hcw] at g1 g2 g3
    have hlen:l.length=l1.length+(m.length+l2.length):=by rw[el];simp
    have hcut:(l.drop (base+j*c)).take (P.cellsOf t)=(m.drop (q+j*c)).take (P.cellsOf t):=by
     rw[el,<- k1,Nat.add_assoc];exact seg_take rfl (by omega)
    exact sound_of_load hc ha (run_loadVar hd hblk (by omega)) hz (by rw[hcut];exact⟨g2,g3⟩)
   ·simp at h
  ·simp at h
 ·simp at h
theorem s_load (hc:Ctx w0 id ρ B w) {t:TypeId} {x:Operand} {vs:List SV} (hd:(P.underlying t).isSome=true) (hz:isAggT P t=false->P.cellsOf t=1) (h:xLoad P t vs B=some out) (hp:∀ p∈out.pre,p) (hv:valsRel ρ vs [a.eval x]):Sound1 P id B ⟨dst,.load t x,ty,pos,af,gd⟩ out ρ a w:=by
 obtain⟨d,hd⟩:=Option.isSome_iff_exists.1 hd
 unfold xLoad at h
 split at h
 ·rename_i i off
  obtain⟨z,e,hz1⟩:=valsRel_one hv
  simp at e;subst e
  obtain⟨b,hb,e⟩:=rel_ptr hz1
  split at h
  ·rename_i c cs hcs
   obtain⟨l,hblk,hr⟩:=hc.blks _ _ hcs (by simp) b hb
   split at h
   ·rename_i m hm
    obtain⟨hrm,hle⟩:=subC_rel hm hr
    split at h
    ·rename_i y hy
     simp[ret] at h;subst h
     obtain⟨k1,k2⟩:=ofCells_rel hy hrm (fun h=>by rw[hz h];simp;rw[hz h] at hle;omega)
     exact sound_of_load hc e (run_loadVar hd hblk hle) hz ⟨k1,k2⟩
    ·simp at h
   ·exact loadIn_sound hc hd hz h hp hb hcs (by simp) (by rw[e,Nat.zero_mul,Nat.add_zero])
  ·simp at h
 ·rename_i i base j c
  obtain⟨z,e,hz1⟩:=valsRel_one hv
  simp at e;subst e
  obtain⟨b,hb,e⟩:=rel_pe hz1
  split at h
  ·rename_i c cs hcs
   exact loadIn_sound hc hd hz h hp hb hcs (by simp) e
  ·simp at h
 ·rename_i e0 xs i off
  obtain⟨z,e,hz1⟩:=valsRel_one hv
  simp at e;subst e
  obtain⟨b,o,⟨l,hM,hol,hrow⟩,hi,e⟩:=rel_rp hz1
  split at h
  ·rename_i y p hy
   simp at h;subst h
   obtain⟨g1,g2,g3⟩:=elemLoad_rel hy hp rfl hrow hz
   rw[elem_at rfl] at g1 g2 g3
   have hlen:((l.drop o).take (xs.length*width e0)).length=xs.length*width e0:=by simp;omega
   rw[hlen] at g1
   have hoff:o+(i*width e0+off)=o+(off+i*width e0):=by omega
   have hcut:(l.drop (o+(off+i*width e0))).take (P.cellsOf t)=(((l.drop o).take (xs.length*width e0)).drop (off+i*width e0)).take (P.cellsOf t):=by
    rw[List.drop_take,List.take_take,List.drop_drop,Nat.min_eq_left (by omega)]
   rw[hoff] at e
   exact sound_of_load hc e (run_loadVar_ro hc hd hM (by omega)) hz (by rw[hcut];exact⟨g2,g3⟩)
  ·simp at h
 ·simp at h
theorem run_storeVar {t:TypeId} {b N off:Nat} {l u:List Value} {v:Value} {i:TypeInfo} (hi:P.info? t=some i) (hcells:v.cells=⟨u⟩) (hsz:u.length=P.cellsOf t) (hb:BlkAt w b N l) (hle:off+u.length<=l.length) (hone:∀ x∈u,x.oneCell'=true) :
  ∃ w',(storeVar t ⟨b,off,none⟩ v).run P w=.ok () w'/\BlkAt w' b N (l.take off++(u++l.drop (off+u.length)))/\w'.heap.size=w.heap.size /\
   (∀ b',b'≠b->w'.heap[b']?=w.heap[b']?)/\w'.os=w.os/\w'.tape=w.tape/\w'.output=w.output:=by
 obtain⟨w',h1,h2⟩:=run_storeCells_blk (P:=P) (b:=b) (off:=off) u 0 w l hb (by omega) hone
 refine⟨w',?_,by simpa using h2⟩
 unfold storeVar
 simp only[Sem.run_bind,sizeOf_run hi,Result.andThen_ok,hcells]
 rw[if_neg (by simpa using hsz)]
 simpa using h1
theorem elemStore_rel {e:Kd} {n:Nat} {xs ys:List (Car e)} {j q:Nat} {new:List Cell} {ps:List Prop} {m u:List Value} (h:elemStore e n xs j q new=some (ys,ps)) (hp:∀ p∈ps,p) (hx:xs.length=n) (hr:RdL (Rd ρ.M e) xs m) (hu:cellsRel ρ new u) :
  j*width e+q+u.length<=m.length/\ys.length=n/\RdL (Rd ρ.M e) ys (m.take (j*width e+q)++(u++m.drop (j*width e+q+u.length))):=by
 have hml:=RdL_len (fun _ _=>Rd_len) hr
 unfold elemStore at h
 split at h
 ·rename_i cs hcs
  split at h
  ·rename_i y qs hy
   simp only[Option.some.injEq,Prod.mk.injEq] at h
   obtain⟨rfl,rfl⟩:=h
   have hj:j<n:=hp _ (by simp)
   have hg:=RdL_get (fun _ _=>Rd_len) hr (i:=j) (by omega) (zeroOf e)
   have hgl:=Rd_len hg
   have hjm:j*width e+width e<=m.length:=by
    rw[hml,<- Nat.succ_mul];exact Nat.mul_le_mul_right _ (by omega)
   obtain⟨k1,k2⟩:=putC_rel hcs (cellsOf_rel hg) hu
   obtain⟨l1,l2,e1,g1,g2⟩:=pOne_rel (sees_noB ρ) _ _ _ _ _ _ hy (fun p h=>hp p (by simp[h])) k1
   have g2:l2=[]:=g2
   subst g2
   rw[List.append_nil] at e1
   subst e1
   rw[hgl] at k2
   refine⟨by omega,by simp[hx],?_⟩
   have hput:=RdL_put (fun _ _=>Rd_len) hr (RdL_one g1) j
   have hset:xs.take j++([y]++xs.drop (j+[y].length))=xs.set j y:=by
    rw[List.set_eq_take_append_cons_drop,if_pos (by omega)];rfl
   rw[hset] at hput
   have hlen:=Rd_len g1
   rw[hlen] at hput
   refine (congrArg (RdL (Rd ρ.M e) (xs.set j y)) ?_).mp hput
   rw[List.take_take,List.drop_take,List.drop_drop,Nat.min_eq_left (by omega),<- Nat.add_assoc]
   have e1:m.take (j*width e+q)=m.take (j*width e)++(m.drop (j*width e)).take q:=by rw[<- List.take_add]
   have e2:m.drop (j*width e+q+u.length)=(m.drop (j*width e+q+u.length)).take (width e-(q+u.length))++m.drop (j*width e+width e):=by
    have:=(List.take_append_drop (width e-(q+u.length)) (m.drop (j*width e+q+u.length))).symm
    rw[List.drop_drop,show j*width e+q+u.length+(width e-(q+u.length))=j*width e+width e by omega] at this
    exact this
   rw[e1]
   conv=>rhs;rw[e2]
   simp only[List.append_assoc]
  ·simp at h
 ·simp at h
theorem storeIn_sound (hc:Ctx w0 id ρ B w) {t:TypeId} {x y:Operand} {cs:List Cell} {i b base j c:Nat} {z:TV} (hd:(P.info? t).isSome=true) (h:storeIn i cs base j c z.cells=some out) (hp:∀ p∈out.pre,p) (hsz:cellsSize z.cells=P.cellsOf t) (hz:z.rel ρ (a.eval y))
  (hb:ρ i=some b) (hB:B i=some cs) (hne:cs≠[]) (ha:a.eval x=.pointer (some ⟨b,base+j*c,none⟩)):Sound1 P id B ⟨dst,.store t x y,ty,pos,af,gd⟩ out ρ a w:=by
 obtain⟨inf,hinf⟩:=Option.isSome_iff_exists.1 hd
 have hadd:Instr.storeAt t (a.eval x) (a.eval y)=(do storeVar t (<- Instr.sureAddr (a.eval x)) (a.eval y)):=rfl
 unfold storeIn at h
 split at h
 ·rename_i a0 e n xs q r hseg
  split at h
  ·rename_i hcw
   have hcw:=beq_true hcw
   split at h
   ·rename_i ys p hy
    simp at h;subst h
    obtain⟨l,hblk,hr⟩:=hc.blks _ _ hB hne b hb
    obtain⟨l1,m,l2,el,k1,k2,k3,k4,k5⟩:=segF_rel hseg hr
    simp only at k4 k5
    obtain⟨u,hu,hur⟩:=TV.rel_cells (x:=z) hz
    have hul:=cellsRel_length hur
    obtain⟨g1,g2,g3⟩:=elemStore_rel hy hp k4 k5 hur
    rw[elem_at hcw] at g1 g3
    have hlen:l.length=l1.length+(m.length+l2.length):=by rw[el];simp
    obtain⟨w',f1,f2,f3,f4,f5,f6,f7⟩:=run_storeVar hinf hu (by rw[hul,hsz]) hblk (off:=base+j*c) (by omega) (cellsRel_one hur)
    refine sound_store hc hb hB hne (run_u rfl (by rw[hadd,ha];simp[Instr.sureAddr,f1])) f2 ?_ f3 f4 f5 f6 f7
    have e1:l.take (base+j*c)=l1++m.take (q+j*c):=by
     rw[el,List.take_append,List.take_of_length_le (by omega),show base+j*c-l1.length=q+j*c by omega,List.take_append_of_le_length (by omega)]
    have e2:l.drop (base+j*c+u.length)=m.drop (q+j*c+u.length)++l2:=by
     rw[el,List.drop_append,List.drop_of_length_le (by omega),List.nil_append,show base+j*c+u.length-l1.length=q+j*c+u.length by omega,List.drop_append_of_le_length (by omega)]
    rw[e1,e2,List.append_assoc]
    refine cellsRel_append k2 ⟨_,l2,?_,mkRow_rel g2 g3,k3⟩
    simp only[List.append_assoc]
   ·simp at h
  ·simp at h
 ·simp at h
theorem s_store (hc:Ctx w0 id ρ B w) {t:TypeId} {x y:Operand} {vs:List SV} (hd:(P.info? t).isSome=true) (h:xStore P t vs B=some out) (hp:∀ p∈out.pre,p) (hv:valsRel ρ vs [a.eval x,a.eval y]):Sound1 P id B ⟨dst,.store t x y,ty,pos,af,gd⟩ out ρ a w:=by
 obtain⟨inf,hinf⟩:=Option.isSome_iff_exists.1 hd
 have hadd:Instr.storeAt t (a.eval x) (a.eval y)=(do storeVar t (<- Instr.sureAddr (a.eval x)) (a.eval y)):=rfl
 unfold xStore at h
 split at h
 ·rename_i i off z
  obtain⟨z1,z2,e,hz1,hz2⟩:=valsRel_two hv
  simp only[List.cons.injEq,and_true] at e;obtain⟨rfl,rfl⟩:=e
  obtain⟨b,hb,e⟩:=rel_ptr hz1
  split at h
  ·rename_i c cs hcs hsz
   have hsz:=beq_true hsz
   have put:∀ {o:Out},storePut i (c::cs) off z.cells=some o->Sound1 P id B ⟨dst,.store t x y,ty,pos,af,gd⟩ o ρ a w:=by
    intro o h
    unfold storePut at h
    split at h
    ·rename_i cs' hcs'
     simp at h;subst h
     obtain⟨l,hblk,hr⟩:=hc.blks _ _ hcs (by simp) b hb
     obtain⟨u,hu,hur⟩:=TV.rel_cells (x:=z) hz2
     obtain⟨hr',hle⟩:=putC_rel hcs' hr hur
     have hul:=cellsRel_length hur
     obtain⟨w',g1,g2,g3,g4,g5,g6,g7⟩:=run_storeVar hinf hu (by rw[hul,hsz]) hblk hle (cellsRel_one hur)
     exact sound_store hc hb hcs (by simp) (run_u rfl (by rw[hadd,e];simp[Instr.sureAddr,g1])) g2 hr' g3 g4 g5 g6 g7
    ·simp at h
   have inn:∀ {o:Out},storeIn i (c::cs) off 0 (segW (c::cs) off) z.cells=some o->(∀ p∈o.pre,p)->Sound1 P id B ⟨dst,.store t x y,ty,pos,af,gd⟩ o ρ a w:=by
    intro o h hp
    exact storeIn_sound hc hd h hp hsz hz2 hb hcs (by simp) (by rw[e,Nat.zero_mul,Nat.add_zero])
   unfold storePtr at h
   split at h
   ·split at h
    ·rename_i o ho
     simp at h;subst h
     exact inn ho hp
    ·exact put h
   ·split at h
    ·rename_i o ho
     simp at h;subst h
     exact put ho
    ·exact inn h hp
  ·simp at h
 ·rename_i i base j c z
  obtain⟨z1,z2,e,hz1,hz2⟩:=valsRel_two hv
  simp only[List.cons.injEq,and_true] at e;obtain⟨rfl,rfl⟩:=e
  obtain⟨b,hb,e⟩:=rel_pe hz1
  split at h
  ·rename_i c cs hcs hsz
   exact storeIn_sound hc hd h hp (beq_true hsz) hz2 hb hcs (by simp) e
  ·simp at h
 ·simp at h
theorem fieldOf_some {t:TypeId} {f:Nat} {fd:Field} (h:fieldOf P t f=some fd):∃ fs,P.underlying t=some (.struct fs)/\fs[f]?=some fd:=by
 unfold fieldOf at h
 split at h
 ·rename_i fs hfs;exact⟨fs,hfs,h⟩
 ·simp at h
theorem run_fieldAt {t:TypeId} {f:Nat} {fd:Field} {b off:Nat} (h:fieldOf P t f=some fd) (hi:(P.info? fd.type).isSome=true) (hz:Nat.beq (P.cellsOf fd.type) 0=false) :
  (Instr.fieldAt t (.pointer (some ⟨b,off,none⟩)) f).run P w=.ok (.pointer (some ⟨b,off+fd.offset,none⟩)) w:=by
 obtain⟨fs,hfs,hf⟩:=fieldOf_some h
 obtain⟨inf,hinf⟩:=Option.isSome_iff_exists.1 hi
 have hne:P.cellsOf fd.type≠0:=by
  intro e;rw[e] at hz;cases hz
 unfold Instr.fieldAt fieldPlace
 simp only[Sem.run_bind,underlying_run hfs,Result.andThen_ok,hf,Instr.sureAddr,Sem.run_pure,sizeOf_run hinf,if_neg hne,add_off,Sem.run_ite]
theorem s_fieldAddr (hc:Ctx w0 id ρ B w) {t:TypeId} {x:Operand} {f:Nat} {vs:List SV} (hi:∀ fd,fieldOf P t f=some fd->(P.info? fd.type).isSome=true) (h:xFieldAddr P t f vs=some out) (hv:valsRel ρ vs [a.eval x]):Sound1 P id B ⟨dst,.fieldAddr t x f,ty,pos,af,gd⟩ out ρ a w:=by
 unfold xFieldAddr at h
 split at h
 ·rename_i fd hfd
  split at h
  ·rename_i i off hz
   obtain⟨z,e,hz1⟩:=valsRel_one hv
   simp at e;subst e
   obtain⟨b,hb,e⟩:=rel_ptr hz1
   simp[ret] at h;subst h
   exact sound_val hc (run_v rfl (by rw[e];exact run_fieldAt hfd (hi _ hfd) hz)) (mk_ptr hb)
  ·rename_i i base j c hz
   obtain⟨z,e,hz1⟩:=valsRel_one hv
   simp at e;subst e
   obtain⟨b,hb,e⟩:=rel_pe hz1
   simp[ret] at h;subst h
   exact sound_val hc (run_v rfl (by rw[e];exact run_fieldAt hfd (hi _ hfd) hz)) (mk_pe hb (by omega))
  ·rename_i e0 xs i off hz
   obtain⟨z,e,hz1⟩:=valsRel_one hv
   simp at e;subst e
   obtain⟨b,o,hrow,hlt,e⟩:=rel_rp hz1
   simp[ret] at h;subst h
   exact sound_val hc (run_v rfl (by rw[e];exact run_fieldAt hfd (hi _ hfd) hz)) (mk_rp hrow hlt (by omega))
  ·simp at h
 ·simp at h
theorem s_nil (hc:Ctx w0 id ρ B w) {x:Operand} {vs:List SV} (h:xNil vs=some out) (hv:valsRel ρ vs [a.eval x]):Sound1 P id B ⟨dst,.nilCheck x,ty,pos,af,gd⟩ out ρ a w:=by
 unfold xNil at h
 split at h
 ·rename_i c
  split at h
  ·rename_i hp
   simp[ret] at h;subst h
   obtain⟨z,e,hz1⟩:=valsRel_one hv
   simp at e;subst e
   have hpt:∃ ad,a.eval x=.pointer (some ad):=by
    cases c<;>simp[isPt] at hp
    ·obtain⟨b,_,e⟩:=rel_ptr hz1;exact⟨_,e⟩
    ·obtain⟨b,_,e⟩:=rel_pe hz1;exact⟨_,e⟩
    ·obtain⟨b,o,_,_,e⟩:=rel_rp hz1;exact⟨_,e⟩
   obtain⟨ad,e⟩:=hpt
   refine sound_val hc (v:=a.eval x) ?_ hz1
   simp[execOp,e]
  ·simp at h
 ·simp at h
theorem s_arr (hc:Ctx w0 id ρ B w) {t:TypeId} {x:Operand} {vs:List SV} (h:xArr P t vs=some out) (hp:∀ p∈out.pre,p) (hv:valsRel ρ vs [a.eval x]):Sound1 P id B ⟨dst,.sliceToArrayPointer t x,ty,pos,af,gd⟩ out ρ a w:=by
 unfold xArr at h
 split at h
 ·rename_i n e b base off len c hu
  split at h
  ·rename_i hb
   simp only[Bool.and_eq_true] at hb
   have h0:=blt_true hb.1
   simp at h;subst h
   have hle:n<=len:=hp _ (by simp)
   obtain⟨z,e1,hz1⟩:=valsRel_one hv
   simp at e1;subst e1
   rcases rel_sl hz1 with ⟨hl0,_⟩|⟨b',o,cap,hb',hl,ho,hn,ex⟩
   ·omega
   ·have ho:o=base+off*c:=by
     rcases ho with ho|ho
     ·exact ho
     ·omega
    refine sound_val hc (v:=.pointer (some ⟨b',o,none⟩)) (run_v rfl ?_) (mk_pe hb' ho)
    rw[ex]
    unfold Instr.arrayAt
    simp only[Sem.run_bind,underlying_run hu,Result.andThen_ok,if_neg (show ¬ len<n by omega),Sem.run_pure]
  ·simp at h
 ·rename_i n e e' xs hu
  split at h
  ·rename_i hb
   simp only[Bool.and_eq_true] at hb
   have h0:=blt_true hb.1
   simp at h;subst h
   have hle:n<=xs.length:=hp _ (by simp)
   obtain⟨z,e1,hz1⟩:=valsRel_one hv
   simp at e1;subst e1
   rcases rel_ro hz1 with ⟨hl0,_⟩|⟨b',o,cap,ex,hl,hrow⟩
   ·subst hl0;simp at hle;omega
   ·refine sound_val hc (v:=.pointer (some ⟨b',o,none⟩)) (run_v rfl ?_) (mk_rp hrow (by omega) (by omega))
    rw[ex]
    unfold Instr.arrayAt
    simp only[Sem.run_bind,underlying_run hu,Result.andThen_ok,if_neg (show ¬ xs.length<n by omega),Sem.run_pure]
  ·simp at h
 ·simp at h
end
end Go.Eng
namespace Go.Eng
open Go Go.RowKit Cr
section
variable {P:Program} (w:World)
def valOf (P:Program) (t:TypeId) (xs:List IV):Value :=
 match isAggT P t with
 | true=>.agg ⟨xs.map iv⟩
 | false=>iv (xs.getD 0 (.u8,0))
theorem run_part {t:TypeId} {d:TypeDesc} (hd:P.underlying t=some d) (h1:isAggT P t=false->P.cellsOf t=1) (xs:List IV) (off:Nat) (hle:off+P.cellsOf t<=xs.length) :
  (part t ⟨xs.map iv⟩ off).run P w=.ok (valOf P t ((xs.drop off).take (P.cellsOf t))) w:=by
 obtain⟨i,hi⟩:=underlying_info hd
 unfold part valOf
 simp only[Sem.run_bind,isAgg_run hd,Result.andThen_ok]
 cases hag:isAggT P t with
 | true =>
  simp only[if_true,Sem.run_bind,sizeOf_run hi,Result.andThen_ok,Sem.run_pure]
  congr 2
  simp
 | false =>
  have h1:=h1 hag
  simp only[Bool.false_eq_true,if_false]
  have hlt:off<xs.length:=by omega
  simp[hlt,h1]
theorem beq_lists {α:Type} [DecidableEq α] {xs ys:List α} {n:Nat}:∀ (o:Nat),(decide ((xs.drop o).take n=(ys.drop o).take n)&&decide (xs.drop (o+n)=ys.drop (o+n)))=decide (xs.drop o=ys.drop o):=by
 intro o
 rw[Bool.eq_iff_iff]
 simp only[Bool.and_eq_true,decide_eq_true_eq]
 constructor
 ·rintro⟨h1,h2⟩
  rw[<- List.take_append_drop n (xs.drop o),<- List.take_append_drop n (ys.drop o),h1]
  simp only[List.drop_drop]
  rw[h2]
 ·intro h
  rw[h]
  refine⟨rfl,?_⟩
  rw[<- List.drop_drop,<- List.drop_drop,h]
def SameK (xs ys:List IV):Prop:=xs.map Prod.fst=ys.map Prod.fst
theorem SameK.part {xs ys:List IV} (h:SameK xs ys) (o n:Nat):SameK ((xs.drop o).take n) ((ys.drop o).take n):=by
 have:=congrArg (fun l=>(l.drop o).take n) h
 simpa[SameK,List.map_take,List.map_drop] using this
theorem intShape_one:∀ (d:Nat) (t:TypeId),intShape P d t=true->(∃ ds,P.underlying t=some ds)/\(isAggT P t=false->P.cellsOf t=1):=by
 intro d t h
 cases d with
 | zero=>simp[intShape] at h
 | succ d =>
  unfold intShape at h
  split at h
  ·rename_i k' hk
   exact⟨⟨_,hk⟩,fun _=>beq_true h⟩
  ·rename_i n e he
   exact⟨⟨_,he⟩,fun hf=>by simp[isAggT,he] at hf⟩
  ·rename_i fs hf
   exact⟨⟨_,hf⟩,fun hf'=>by simp[isAggT,hf] at hf'⟩
  ·simp at h
theorem run_eqFields {sh:TypeId->Bool} {D:Nat}
  (hsh:∀ t,sh t=true->(∃ ds,P.underlying t=some ds)/\(isAggT P t=false->P.cellsOf t=1))
  (ih:∀ t,sh t=true->∀ (xs ys:List IV) (w:World),SameK xs ys->xs.length=P.cellsOf t->ys.length=P.cellsOf t->(Op.equalIn D t (valOf P t xs) (valOf P t ys)).run P w=.ok (decide (xs=ys)) w) :
  ∀ (fs:List Field) (o n:Nat) (xs ys:List IV),fieldsOk P sh o n fs=true->SameK xs ys->xs.length=n->ys.length=n ->
   (Op.eqFields D ⟨xs.map iv⟩ ⟨ys.map iv⟩ fs).run P w=.ok (decide (xs.drop o=ys.drop o)) w:=by
 intro fs
 induction fs with
 | nil =>
  intro o n xs ys h _ hx hy
  have:=beq_true h
  subst this
  simp[Op.eqFields,List.drop_of_length_le (Nat.le_of_eq hx),List.drop_of_length_le (Nat.le_of_eq hy)]
 | cons f fs ihf =>
  intro o n xs ys h hk hx hy
  simp only[fieldsOk,Bool.and_eq_true,bne_iff_ne,ne_eq] at h
  obtain⟨⟨⟨h1,h2⟩,h3⟩,h4⟩:=h
  have h3:=beq_true h3
  have hle:∀ (fs:List Field) (o n:Nat),fieldsOk P sh o n fs=true->o<=n:=by
   intro fs
   induction fs with
   | nil=>intro o n h;have:=beq_true h;omega
   | cons g gs ihg =>
    intro o n h
    simp only[fieldsOk,Bool.and_eq_true] at h
    have:=ihg _ _ h.2
    omega
  have hle:=hle _ _ _ h4
  obtain⟨⟨ds,hds⟩,hone⟩:=hsh _ h2
  unfold Op.eqFields
  rw[if_pos (by simpa using h1)]
  simp only[Sem.run_bind,h3,run_part w hds hone xs o (by omega),Result.andThen_ok,run_part w hds hone ys o (by omega)]
  rw[ih _ h2 _ _ w (hk.part _ _) (by simp;omega) (by simp;omega)]
  simp only[Result.andThen_ok]
  rw[<- beq_lists (n:=P.cellsOf f.type) o]
  cases hdq:decide ((xs.drop o).take (P.cellsOf f.type)=(ys.drop o).take (P.cellsOf f.type)) with
  | false=>simp
  | true =>
   simp only[Bool.not_true,Bool.false_eq_true,if_false,Bool.true_and]
   exact ihf _ _ xs ys h4 hk hx hy
theorem run_eqArray {e:TypeId} {D:Nat} {ds:TypeDesc} (hds:P.underlying e=some ds) (hone:isAggT P e=false->P.cellsOf e=1)
  (ih:∀ (xs ys:List IV) (w:World),SameK xs ys->xs.length=P.cellsOf e->ys.length=P.cellsOf e->(Op.equalIn D e (valOf P e xs) (valOf P e ys)).run P w=.ok (decide (xs=ys)) w)
  (xs ys:List IV) (hk:SameK xs ys):∀ (m i n:Nat),i+m=n->xs.length=n*P.cellsOf e->ys.length=n*P.cellsOf e ->
   (do
    let r <- forIn (List.range' i m) (none,()) (fun (i:Nat) (_:Option Bool × Unit)=>do
     let r <- Op.equalIn D e (<- part e ⟨xs.map iv⟩ (i*P.cellsOf e)) (<- part e ⟨ys.map iv⟩ (i*P.cellsOf e))
     if (!r)=true then pure (ForInStep.done (some false,())) else pure (ForInStep.yield (none,())))
    match r.1 with
     | some r=>pure r
     | none=>(pure true:Sem Bool)).run P w=.ok (decide (xs.drop (i*P.cellsOf e)=ys.drop (i*P.cellsOf e))) w:=by
 intro m
 induction m with
 | zero =>
  intro i n h hx hy
  have:i=n:=by omega
  subst this
  simp[List.drop_of_length_le (Nat.le_of_eq hx),List.drop_of_length_le (Nat.le_of_eq hy)]
 | succ m ihm =>
  intro i n h hx hy
  have hle:i*P.cellsOf e+P.cellsOf e<=n*P.cellsOf e:=by
   have:(i+1)*P.cellsOf e<=n*P.cellsOf e:=Nat.mul_le_mul_right _ (by omega)
   rw[Nat.succ_mul] at this;exact this
  have hi:=ihm (i+1) n (by omega) hx hy
  simp only[List.range'_succ,List.forIn_cons,Sem.run_bind,run_part w hds hone xs _ (by omega:i*P.cellsOf e+P.cellsOf e<=xs.length),Result.andThen_ok,run_part w hds hone ys _ (by omega:i*P.cellsOf e+P.cellsOf e<=ys.length)] at hi ⊢
  rw[ih _ _ w (hk.part _ _) (by simp;omega) (by simp;omega)]
  simp only[Result.andThen_ok]
  rw[<- beq_lists (n:=P.cellsOf e) (i*P.cellsOf e)]
  rw[show (i+1)*P.cellsOf e=i*P.cellsOf e+P.cellsOf e from Nat.succ_mul _ _] at hi
  cases hdq:decide ((xs.drop (i*P.cellsOf e)).take (P.cellsOf e)=(ys.drop (i*P.cellsOf e)).take (P.cellsOf e)) with
  | false=>simp
  | true =>
   simp only[Bool.not_true,Bool.false_eq_true,if_false,Bool.true_and,Sem.run_pure,Result.andThen_ok]
   exact hi
theorem run_equalIn_ints:∀ (d:Nat) (t:TypeId),intShape P d t=true->∀ (D:Nat),d<=D->∀ (xs ys:List IV) (w:World),SameK xs ys->xs.length=P.cellsOf t->ys.length=P.cellsOf t ->
  (Op.equalIn D t (valOf P t xs) (valOf P t ys)).run P w=.ok (decide (xs=ys)) w:=by
 intro d
 induction d with
 | zero=>intro t h;simp[intShape] at h
 | succ d ih =>
  intro t h D hD xs ys w hk hx hy
  obtain⟨D,rfl⟩:∃ D',D=D'+1:=⟨D-1,by omega⟩
  unfold intShape at h
  split at h
  ·rename_i k' hk'
   have hb:=beq_true h
   have hag:isAggT P t=false:=by simp[isAggT,hk']
   rw[hb] at hx hy
   match xs,ys,hx,hy with
   | [(k,x)],[(k2,y)],_,_ =>
    have e:k=k2:=by simpa[SameK] using hk
    subst e
    simp only[valOf,hag]
    refine (run_equalIn_int w D t k k' _ _ hk').trans ?_
    congr 1
    rw[Bool.eq_iff_iff];simp
  ·rename_i n e he
   split at h
   ·rename_i hb
    have hb:=beq_true hb
    obtain⟨⟨ds,hds⟩,hone⟩:=intShape_one d e h
    obtain⟨ie,hie⟩:=underlying_info hds
    have hag:isAggT P t=true:=by simp[isAggT,he]
    simp only[valOf,hag]
    have:=run_eqArray (D:=D) w hds hone (fun xs ys w=>ih e h D (by omega) xs ys w) xs ys hk n 0 n (by omega) (by omega) (by omega)
    simp only[Nat.zero_mul,List.drop_zero] at this
    unfold Op.equalIn
    simp only[Sem.run_bind,underlying_run he,Result.andThen_ok,sizeOf_run hie,Std.Legacy.Range.forIn_eq_forIn_range',Std.Legacy.Range.size] at this ⊢
    simp at this ⊢
    refine Eq.trans (congrArg (Result.andThen _) (funext fun a=>funext fun w'=>?_)) this
    obtain⟨a1,a2⟩:=a
    cases a1<;>rfl
   ·simp at h
  ·rename_i fs hf
   simp only[Bool.and_eq_true,Bool.not_eq_true'] at h
   have hag:isAggT P t=true:=by simp[isAggT,hf]
   have hfo:P.fieldsOf t=fs:=by simp[Program.fieldsOf,hf]
   simp only[valOf,hag]
   rw[run_equalIn_struct w D t _ _ (by rw[hfo];exact hf) h.2,hfo]
   have:=run_eqFields (D:=D) w (fun t ht=>intShape_one d t ht) (fun t ht xs ys w=>ih t ht D (by omega) xs ys w) fs.toList 0 _ xs ys h.1 hk hx hy
   simpa using this
  ·simp at h
end
end Go.Eng
namespace Go.Eng
open Go Go.RowKit
section
variable {P:Program} {w0:Base} {id:Nat} {ρ:Rho} {B:Blks} {w:World} {a:Act} {dst:Option Tmp} {ty:TypeId} {pos:String} {af:Array Edge} {gd:Option (Nat × Bool)} {out:Out}
theorem run_indexAt_array {t e:TypeId} {n b off:Nat} {k:IntKind} {i:Int} (h:P.underlying t=some (.array n e)) (he:(P.info? e).isSome=true) (hi:0<=i/\i<(n:Int)) :
  (Instr.indexAt t (.pointer (some ⟨b,off,none⟩)) (.int k i)).run P w=.ok (.pointer (some ⟨b,off+i.toNat*P.cellsOf e,none⟩)) w:=by
 obtain⟨ie,hie⟩:=Option.isSome_iff_exists.1 he
 unfold Instr.indexAt
 simp only[Sem.run_bind,asIntOf,Sem.run_pure,Result.andThen_ok,underlying_run h,Instr.sureAddr,Sem.run_ite,if_pos hi,sizeOf_run hie,add_off]
theorem run_indexAt_slice {t e:TypeId} {len cap b off:Nat} {k:IntKind} {i:Int} (h:P.underlying t=some (.slice e)) (he:(P.info? e).isSome=true) (hi:0<=i/\i<(len:Int)) :
  (Instr.indexAt t (.slice (some ⟨b,off,none⟩) len cap) (.int k i)).run P w=.ok (.pointer (some ⟨b,off+i.toNat*P.cellsOf e,none⟩)) w:=by
 obtain⟨ie,hie⟩:=Option.isSome_iff_exists.1 he
 unfold Instr.indexAt
 simp only[Sem.run_bind,asIntOf,Sem.run_pure,Result.andThen_ok,underlying_run h,Sem.run_ite,if_pos hi,sizeOf_run hie,add_off]
theorem typeOk_spec {t:TypeId} (h:typeOk P t=true):(P.info? t).isSome=true/\(P.underlying t).isSome=true/\(isAggT P t=false->P.cellsOf t=1):=by
 simp only[typeOk,Bool.and_eq_true,Bool.or_eq_true] at h
 obtain⟨⟨h1,h2⟩,h3⟩:=h
 refine⟨h1,h2,fun hf=>?_⟩
 rcases h3 with h3|h3
 ·rw[h3] at hf;cases hf
 ·exact beq_true h3
theorem elemsOk_elem {t e:TypeId} {n:Nat} (h:elemsOk P t=true) (ht:P.underlying t=some (.array n e)\/P.underlying t=some (.slice e)) :
  (P.info? e).isSome=true/\(P.underlying e).isSome=true/\(isAggT P e=false->P.cellsOf e=1):=by
 refine typeOk_spec ?_
 rcases ht with ht|ht<;>simpa[elemsOk,ht] using h
theorem elemsOk_field {t:TypeId} {f:Nat} {fd:Field} (h:elemsOk P t=true) (hf:fieldOf P t f=some fd) :
  (P.info? fd.type).isSome=true/\(P.underlying fd.type).isSome=true/\(isAggT P fd.type=false->P.cellsOf fd.type=1):=by
 obtain⟨fs,hfs,hg⟩:=fieldOf_some hf
 simp only[elemsOk,hfs,Array.all_eq_true'] at h
 exact typeOk_spec (h fd (Array.mem_of_getElem? hg))
theorem ltN_spec {i:Int} {n:Nat} (h:ltN i n=true):0<=i/\i<(n:Int):=by
 unfold ltN at h
 split at h
 ·rename_i m
  have:m<n:=by simpa[Nat.blt_eq] using h
  exact⟨Int.natCast_nonneg _,by simp;exact this⟩
 ·cases h
theorem s_indexAddr (hc:Ctx w0 id ρ B w) {t:TypeId} {x y:Operand} {l:Bool} {vs:List SV} (hel:elemsOk P t=true) (h:xIndexAddr P t l vs=some out) (hp:∀ p∈out.pre,p) (hv:valsRel ρ vs [a.eval x,a.eval y]):Sound1 P id B ⟨dst,.indexAddr t x y,ty,pos,af,gd⟩ out ρ a w:=by
 unfold xIndexAddr at h
 split at h
 ·rename_i n e b off k i hu
  obtain⟨z1,z2,e1,hz1,hz2⟩:=valsRel_two hv
  simp only[List.cons.injEq,and_true] at e1;obtain⟨rfl,rfl⟩:=e1
  obtain⟨b',hb,ex⟩:=rel_ptr hz1
  have ey:=rel_v hz2
  obtain⟨q1,q2,q3⟩:=elemsOk_elem hel (.inl hu)
  split at h
  ·split at h
   ·rename_i hlt
    simp[ret] at h;subst h
    exact sound_val hc (run_v rfl (by rw[ex,ey];exact run_indexAt_array hu q1 (ltN_spec hlt))) (mk_ptr hb)
   ·simp at h
  ·simp at h;subst h
   exact sound_val hc (run_v rfl (by rw[ex,ey];exact run_indexAt_array hu q1 (hp _ (by simp)))) (mk_pe hb rfl)
 ·rename_i n e b base j c k i hu
  obtain⟨z1,z2,e1,hz1,hz2⟩:=valsRel_two hv
  simp only[List.cons.injEq,and_true] at e1;obtain⟨rfl,rfl⟩:=e1
  obtain⟨b',hb,ex⟩:=rel_pe hz1
  have ey:=rel_v hz2
  obtain⟨q1,q2,q3⟩:=elemsOk_elem hel (.inl hu)
  split at h
  ·rename_i hlt
   simp[ret] at h;subst h
   exact sound_val hc (run_v rfl (by rw[ex,ey];exact run_indexAt_array hu q1 (ltN_spec hlt))) (mk_pe hb (by omega))
  ·simp at h
 ·rename_i n e e' xs j off k i hu
  obtain⟨z1,z2,e1,hz1,hz2⟩:=valsRel_two hv
  simp only[List.cons.injEq,and_true] at e1;obtain⟨rfl,rfl⟩:=e1
  obtain⟨b,o,hrow,hlt,ex⟩:=rel_rp hz1
  have ey:=rel_v hz2
  obtain⟨q1,q2,q3⟩:=elemsOk_elem hel (.inl hu)
  split at h
  ·split at h
   ·rename_i hlt'
    simp[ret] at h;subst h
    exact sound_val hc (run_v rfl (by rw[ex,ey];exact run_indexAt_array hu q1 (ltN_spec hlt'))) (mk_rp hrow hlt (by omega))
   ·simp at h
  ·split at h
   ·rename_i c hrp
    simp at h;subst h
    have hi:0<=i/\i<(n:Int):=hp _ (by simp)
    cases e' with
    | arr m e2 =>
     simp only[rpIn] at hrp
     split at hrp
     ·rename_i hb
      simp only[Bool.and_eq_true] at hb
      have h1:=beq_true hb.1.1
      have h2:=beq_true hb.1.2
      have h3:=Nat.le_of_ble_eq_true hb.2
      simp only[Option.some.injEq] at hrp;subst hrp
      subst h1
      obtain⟨L,hM,hL,hR⟩:=hrow
      have hg:=RdL_get (fun _ _=>Rd_len) hR hlt ([]:List (Car e2))
      obtain⟨hg1,hg2⟩:=hg
      have hjm:j*width (.arr m e2)+width (.arr m e2)<=xs.length*width (.arr m e2):=by
       rw[<- Nat.succ_mul];exact Nat.mul_le_mul_right _ (by omega)
      refine sound_val hc (run_v rfl (by rw[ex,ey];exact run_indexAt_array hu q1 hi)) ⟨b,o+j*width (.arr m e2),⟨L,hM,?_,?_⟩,by rw[hg1];omega,?_⟩
      ·rw[hg1];simp only[width] at hL hjm ⊢;omega
      ·rw[hg1]
       rw[List.drop_take,List.take_take,List.drop_drop] at hg2
       rw[Nat.min_eq_left (by omega)] at hg2
       exact hg2
      ·rw[h2];simp only[Nat.add_zero,Nat.add_assoc]
     ·simp at hrp
    | _=>simp[rpIn] at hrp
   ·simp at h
 ·rename_i e b base off len c k i hu
  obtain⟨z1,z2,e1,hz1,hz2⟩:=valsRel_two hv
  simp only[List.cons.injEq,and_true] at e1;obtain⟨rfl,rfl⟩:=e1
  have ey:=rel_v hz2
  obtain⟨q1,q2,q3⟩:=elemsOk_elem (n:=0) hel (.inr hu)
  split at h
  ·rename_i hcc
   have hcc:=beq_true hcc
   simp at h;subst h
   have hpp:0<=i/\i<(len:Int):=hp _ (by simp)
   rcases rel_sl hz1 with ⟨h0,_⟩|⟨b',o,cap,hb,hl,ho,_,ex⟩
   ·omega
   have ho:o=base+off*c:=by
    rcases ho with ho|ho
    ·exact ho
    ·omega
   subst ho
   exact sound_val hc (run_v rfl (by rw[ex,ey];exact run_indexAt_slice hu q1 hpp)) (mk_pe hb (by rw[addN_eq,Nat.add_mul,hcc];omega))
  ·simp at h
 ·rename_i e e' xs k i hu
  obtain⟨z1,z2,e1,hz1,hz2⟩:=valsRel_two hv
  simp only[List.cons.injEq,and_true] at e1;obtain⟨rfl,rfl⟩:=e1
  have ey:=rel_v hz2
  obtain⟨q1,q2,q3⟩:=elemsOk_elem (n:=0) hel (.inr hu)
  split at h
  ·rename_i hcc
   have hcc:=beq_true hcc
   simp at h;subst h
   have hpp:0<=i/\i<(xs.length:Int):=hp _ (by simp)
   rcases rel_ro hz1 with ⟨h0,_⟩|⟨b',o,cap,ex,hl,hrow⟩
   ·subst h0;simp at hpp;omega
   ·exact sound_val hc (run_v rfl (by rw[ex,ey];exact run_indexAt_slice hu q1 hpp)) (mk_rp hrow (by omega) (by rw[hcc];omega))
  ·simp at h
 ·simp at h
theorem run_partC {t:TypeId} {ds:TypeDesc} (hds:P.underlying t=some ds) (q3:isAggT P t=false->P.cellsOf t=1) {l:List Value} {off:Nat} {x:TV}
  (h1:isAggT P t=true->x.rel ρ (.agg ⟨(l.drop off).take (P.cellsOf t)⟩)) (h2:isAggT P t=false->∃ v,(l.drop off).take (P.cellsOf t)=[v]/\x.rel ρ v):∃ v,(part t ⟨l⟩ off).run P w=.ok v w/\x.rel ρ v:=by
 obtain⟨inf,hinf⟩:=underlying_info hds
 cases hag:isAggT P t with
 | true =>
  refine⟨_,?_,h1 hag⟩
  unfold part
  simp only[Sem.run_bind,isAgg_run hds,Result.andThen_ok,hag,if_true,sizeOf_run hinf,Sem.run_pure]
  congr 2
  simp
 | false =>
  obtain⟨v,hv1,hv2⟩:=h2 hag
  refine⟨v,?_,hv2⟩
  unfold part
  simp only[Sem.run_bind,isAgg_run hds,Result.andThen_ok,hag,Bool.false_eq_true,if_false]
  rw[q3 hag] at hv1
  have:=congrArg (fun l:List Value=>l[0]?) hv1
  have h0:l[off]?=some v:=by simpa[List.getElem?_take] using this
  simp[h0]
theorem s_index (hc:Ctx w0 id ρ B w) {t:TypeId} {x y:Operand} {lit:Bool} {vs:List SV} (hel:elemsOk P t=true) (h:xIndex P t lit vs=some out) (hp:∀ p∈out.pre,p) (hv:valsRel ρ vs [a.eval x,a.eval y]):Sound1 P id B ⟨dst,.index t x y,ty,pos,af,gd⟩ out ρ a w:=by
 unfold xIndex at h
 split at h
 ·rename_i n e cs k' i hu
  obtain⟨z1,z2,e1,hz1,hz2⟩:=valsRel_two hv
  simp only[List.cons.injEq,and_true] at e1;obtain⟨rfl,rfl⟩:=e1
  have ey:=rel_v hz2
  obtain⟨l,ex,hr⟩:=hz1
  obtain⟨q1,q2,q3⟩:=elemsOk_elem hel (.inl hu)
  obtain⟨ds,hds⟩:=Option.isSome_iff_exists.1 q2
  obtain⟨ie,hie⟩:=Option.isSome_iff_exists.1 q1
  have run:0<=i/\i<(n:Int)->∀ (v:Value),(part e ⟨l⟩ (i.toNat*P.cellsOf e)).run P w=.ok v w ->
    (Instr.index t (a.eval x) (a.eval y)).run P w=.ok v w:=by
   intro hi v hv
   rw[ex,ey]
   unfold Instr.index
   simp only[Sem.run_bind,asIntOf,Sem.run_pure,Result.andThen_ok,underlying_run hu,Sem.run_ite,if_pos hi,sizeOf_run hie]
   exact hv
  split at h
  ·split at h
   ·rename_i m hlt hm
    split at h
    ·rename_i z hz
     simp[ret] at h;subst h
     obtain⟨k1,k2⟩:=subC_rel hm hr
     obtain⟨g1,g2⟩:=ofCells_rel hz k1 (fun h=>by rw[q3 h] at k2 ⊢;simp;omega)
     obtain⟨v,hv1,hv2⟩:=run_partC (w:=w) hds q3 g1 g2
     exact sound_val hc (run_v rfl (run (ltN_spec hlt) v hv1)) hv2
    ·simp at h
   ·simp at h
  ·split at h
   ·rename_i c
    split at h
    ·rename_i e' m xs hrow
     split at h
     ·rename_i z hb hz
      simp only[Bool.and_eq_true] at hb
      have hb1:=beq_true hb.1
      have hb2:=Nat.le_of_ble_eq_true hb.2
      simp at h;subst h
      have hi:0<=i/\i<(n:Int):=hp _ (by simp)
      obtain⟨k1,k2,k3⟩:=asRow_rel hrow (cellsRel_one1_inv hr)
      simp only at k1 k2 k3
      have hml:=RdL_len (fun _ _=>Rd_len) k2
      have hg:=RdL_get (fun _ _=>Rd_len) k2 (i:=i.toNat) (by omega) (zeroOf e')
      rw[hb1] at hg hml
      have hle:i.toNat*P.cellsOf e+P.cellsOf e<=l.length:=by
       rw[hml,<- Nat.succ_mul];exact Nat.mul_le_mul_right _ (by omega)
      obtain⟨g1,g2⟩:=ofCells_rel hz (cellsOf_rel hg) (fun h=>by rw[q3 h] at hle ⊢;simp;omega)
      obtain⟨v,hv1,hv2⟩:=run_partC (w:=w) hds q3 g1 g2
      exact sound_val hc (run_v rfl (run hi v hv1)) hv2
     ·simp at h
    ·simp at h
   ·simp at h
 ·rename_i sx k' i hu
  obtain⟨z1,z2,e1,hz1,hz2⟩:=valsRel_two hv
  simp only[List.cons.injEq,and_true] at e1;obtain⟨rfl,rfl⟩:=e1
  have ex:=rel_v hz1
  have ey:=rel_v hz2
  simp only[Option.some.injEq] at h;subst h
  have hi:0<=i/\i<(sx.size:Int):=hp _ (by simp)
  have hlt:i.toNat<sx.size:=by omega
  have hb:(sbytes sx).getD i.toNat 0=((sx[i.toNat]'hlt).toNat:Int):=by
   have hl:i.toNat<sx.data.toList.length:=by simpa using hlt
   simp only[sbytes,List.getD_eq_getElem?_getD,List.getElem?_map,List.getElem?_eq_getElem hl,Option.map_some,Option.getD_some]
   rfl
  refine sound_val hc (run_v rfl ?_) (mk_v rfl)
  rw[ex,ey,run_index_string w t sx k' i hu,dif_pos hi,hb]
 ·simp at h
theorem s_field (hc:Ctx w0 id ρ B w) {t:TypeId} {x:Operand} {f:Nat} {vs:List SV} (hel:elemsOk P t=true) (h:xField P t f vs=some out) (hv:valsRel ρ vs [a.eval x]):Sound1 P id B ⟨dst,.field t x f,ty,pos,af,gd⟩ out ρ a w:=by
 unfold xField at h
 split at h
 ·rename_i fd cs hfd
  obtain⟨z,e,hz1⟩:=valsRel_one hv
  simp at e;subst e
  obtain⟨l,ex,hr⟩:=hz1
  obtain⟨q1,q2,q3⟩:=elemsOk_field hel hfd
  obtain⟨ds,hds⟩:=Option.isSome_iff_exists.1 q2
  obtain⟨inf,hinf⟩:=Option.isSome_iff_exists.1 q1
  obtain⟨fs,hfs,hf⟩:=fieldOf_some hfd
  split at h
  ·rename_i m hm
   obtain⟨hrm,hle⟩:=subC_rel hm hr
   split at h
   ·rename_i y hy
    simp[ret] at h;subst h
    obtain⟨k1,k2⟩:=ofCells_rel hy hrm (fun h=>by rw[q3 h];simp;rw[q3 h] at hle;omega)
    cases hag:isAggT P fd.type with
    | true =>
     refine sound_val hc (v:=.agg ⟨(l.drop fd.offset).take (P.cellsOf fd.type)⟩) (run_v rfl ?_) (k1 hag)
     rw[ex]
     unfold Instr.field part
     simp only[Sem.run_bind,underlying_run hfs,Result.andThen_ok,hf,asAgg,Sem.run_pure,isAgg_run hds,hag,if_true,sizeOf_run hinf]
     congr 2
     simp
    | false =>
     obtain⟨v,hv1,hv2⟩:=k2 hag
     refine sound_val hc (v:=v) (run_v rfl ?_) hv2
     rw[ex]
     unfold Instr.field part
     simp only[Sem.run_bind,underlying_run hfs,Result.andThen_ok,hf,asAgg,Sem.run_pure,isAgg_run hds,hag,Bool.false_eq_true,if_false]
     rw[q3 hag] at hv1
     have:=congrArg (fun l:List Value=>l[0]?) hv1
     have h0:l[fd.offset]?=some v:=by simpa[List.getElem?_take] using this
     simp[h0]
   ·simp at h
  ·simp at h
 ·simp at h
theorem tupRel_get:∀ {l:List TV} {vs:List Value} {i:Nat} {x:TV},tupRel ρ l vs->l[i]?=some x->∃ v,vs[i]?=some v/\x.rel ρ v:=by
 intro l
 induction l with
 | nil=>intro vs i x _ h;simp at h
 | cons t ts ih =>
  intro vs i x hr h
  obtain⟨y,ys,rfl,h1,h2⟩:=hr
  cases i with
  | zero=>simp at h;subst h;exact⟨y,rfl,h1⟩
  | succ i=>simp at h;simpa using ih h2 h
theorem s_extract (hc:Ctx w0 id ρ B w) {x:Operand} {i:Nat} {vs:List SV} (h:xExtract i vs=some out) (hv:valsRel ρ vs [a.eval x]):Sound1 P id B ⟨dst,.extract x i,ty,pos,af,gd⟩ out ρ a w:=by
 unfold xExtract at h
 split at h
 ·rename_i l
  obtain⟨z,e,hz1⟩:=valsRel_one hv
  simp at e;subst e
  obtain⟨us,ex,hr⟩:=hz1
  split at h
  ·rename_i y hy
   simp[ret] at h;subst h
   obtain⟨v,hv1,hv2⟩:=tupRel_get hr hy
   refine sound_val hc (v:=v) (run_v rfl ?_) hv2
   rw[ex]
   simp[Instr.extract,hv1]
  ·simp at h
 ·simp at h
theorem run_intBin {op:BinOp} {t:TypeId} {k:IntKind} {i j:Int} {v:Value} {p:List Prop} (hs:isShift op=false) (h:intBin op k i j=some (v,p)) (hp:∀ q∈p,q) :
  (binOp op t (.int k i) (.int k j)).run P w=.ok v w/\v.oneCell'=true:=by
 cases op<;>simp[isShift] at hs<;>simp[intBin] at h<;>obtain⟨rfl,rfl⟩:=h<;>refine⟨?_,rfl⟩ <;>
  first
   | (simp[binOp,Op.intArith];done)
   | (simp[binOp,Op.intBits,bitOp];done)
   | (simp[binOp,Op.intCmp];done)
   | (have h0:=hp _ (List.mem_singleton.2 rfl);simp[binOp,Op.intDiv,h0];done)
theorem run_shiftV {op:BinOp} {t:TypeId} {k k':IntKind} {i j:Int} {v:Value} (h:shiftV op k i j=some v) (hj:0<=j) :
  (binOp op t (.int k i) (.int k' j)).run P w=.ok v w/\v.oneCell'=true:=by
 have hn:¬ j<0:=by omega
 cases op<;>simp[shiftV] at h<;>subst h<;>refine⟨?_,rfl⟩<;>simp[binOp,Op.shift,hn]
theorem run_eqGuard_int {op:BinOp} {t:TypeId} {x y:Operand} {k k':IntKind} {i j:Int}:(eqGuard op t x y (.int k i) (.int k' j)).run P w=.ok () w:=by
 cases op<;>simp[eqGuard]
theorem run_eqGuard_bool {op:BinOp} {t:TypeId} {x y:Operand} {i j:Bool}:(eqGuard op t x y (.bool i) (.bool j)).run P w=.ok () w:=by
 cases op<;>simp[eqGuard]
theorem boolOf_rel {c:Cell} {b:Bool} {v:Value} (h:boolOf c=some b) (hr:(SV.is (.one c)).rel ρ v):v=.bool b:=by
 cases c with
 | T=>simp[boolOf] at h;subst h;have:[v]=_:=hr;simpa using this
 | F=>simp[boolOf] at h;subst h;have:[v]=_:=hr;simpa using this
 | v x =>
  cases x<;>simp[boolOf] at h
  subst h
  exact rel_v hr
 | _=>simp[boolOf] at h
theorem xEq_sound {t:TypeId} {ng:Bool} {cs ds:List Cell} {u v:Value} (h:xEq P t ng cs ds=some out) (hp:∀ p∈out.pre,p) (hu:(SV.is (.agg cs)).rel ρ u) (hv:(SV.is (.agg ds)).rel ρ v) (x y:Operand) :
  ∃ r p,out={ val:=.is (.one (.v (.bool r))),pre:=p }/\(do eqGuard (bif ng then .neq else .eql) t x y u v;binOp (bif ng then .neq else .eql) t u v).run P w=.ok (.bool r) w:=by
 unfold xEq at h
 split at h
 ·rename_i κ hk hκ
  split at h
  ·rename_i xx ps yy qs hx hy hg
   simp at h
   subst h
   refine⟨_,_,rfl,?_⟩
   simp only[Bool.and_eq_true,Bool.not_eq_true'] at hg
   obtain⟨⟨⟨hfl,hag⟩,hg⟩,hw⟩:=hg
   have hw:=beq_true hw
   obtain⟨l1,e1,r1⟩:=hu
   obtain⟨l2,e2,r2⟩:=hv
   obtain⟨u1,u2,f1,f2,f3⟩:=pOne_rel (sees_noB ρ) _ _ _ _ _ _ hx (fun p hp'=>hp p (List.mem_append_left _ hp')) r1
   obtain⟨v1,v2,g1,g2,g3⟩:=pOne_rel (sees_noB ρ) _ _ _ _ _ _ hy (fun p hp'=>hp p (List.mem_append_right _ hp')) r2
   have f3:u2=[]:=f3
   have g3:v2=[]:=g3
   subst f3 g3
   rw[List.append_nil] at f1 g1
   subst f1 g1
   obtain⟨el1,kk1⟩:=Rd_fl hfl f2
   obtain⟨el2,kk2⟩:=Rd_fl hfl g2
   have n1:(fl κ xx).length=P.cellsOf t:=by rw[<- hw,<- Rd_len f2,el1];simp
   have n2:(fl κ yy).length=P.cellsOf t:=by rw[<- hw,<- Rd_len g2,el2];simp
   have key:=run_equalIn_ints (P:=P) 20 t hk 10000 (by omega) (fl κ xx) (fl κ yy) w (kk1.trans kk2.symm) n1 n2
   have hb:decide (fl κ xx=fl κ yy)=eqC κ xx yy:=by
    rw[Bool.eq_iff_iff,decide_eq_true_iff,eqC_iff]
    exact⟨fl_inj hfl f2 g2,fun h=>by rw[h]⟩
   rw[hb] at key
   simp only[valOf,hag] at key
   rw[e1,e2,el1,el2]
   cases ng with
   | true=>simp only[cond_true,Sem.run_bind,run_eqGuard_agg w _ t x y _ _ hg,Result.andThen_ok,run_neq_struct,key]
   | false=>simp only[cond_false,Sem.run_bind,run_eqGuard_agg w _ t x y _ _ hg,Result.andThen_ok,run_eql_struct,key]
  ·simp at h
 ·simp at h
theorem run_eqGuard_pt {op:BinOp} {t:TypeId} {x y:Operand} {p q:Option Addr}:(eqGuard op t x y (.pointer p) (.pointer q)).run P w=.ok () w:=by
 cases op<;>simp[eqGuard]
theorem run_equal_pt {t pt:TypeId} (hu:P.underlying t=some (.pointer pt)) {ad:Option Addr}:(Op.equal t (.pointer ad) (.pointer none)).run P w=.ok ad.isNone w:=by
 unfold Op.equal Op.maxDepth
 rw[show (10000:Nat)=9999+1 from rfl,Op.equalIn]
 cases ad<;>simp only[Sem.run_bind,underlying_run hu,Result.andThen_ok,Sem.run_pure]<;>rfl
theorem isNilPt_rel {c:Cell} {v:Value} (h:isNilPt c=true) (hr:(SV.is (.one c)).rel ρ v):v=.pointer none:=by
 unfold isNilPt at h
 split at h
 ·exact rel_v hr
 ·cases h
theorem isPt_rel {c:Cell} {v:Value} (h:isPt c=true) (hr:(SV.is (.one c)).rel ρ v):∃ ad,v=.pointer (some ad):=by
 cases c<;>simp[isPt] at h
 ·obtain⟨b,_,e⟩:=rel_ptr hr;exact⟨_,e⟩
 ·obtain⟨b,_,e⟩:=rel_pe hr;exact⟨_,e⟩
 ·obtain⟨b,o,_,_,e⟩:=rel_rp hr;exact⟨_,e⟩
theorem s_bin (hc:Ctx w0 id ρ B w) {op:BinOp} {t t':TypeId} {x y:Operand} {vs:List SV} (h:xBin P op t vs=some out) (hp:∀ p∈out.pre,p) (hv:valsRel ρ vs [a.eval x,a.eval y]):Sound1 P id B ⟨dst,.binOp op t x y t',ty,pos,af,gd⟩ out ρ a w:=by
 unfold xBin at h
 split at h
 ·rename_i k i k' j
  obtain⟨z1,z2,e1,hz1,hz2⟩:=valsRel_two hv
  simp only[List.cons.injEq,and_true] at e1;obtain⟨rfl,rfl⟩:=e1
  have ex:=rel_v hz1
  have ey:=rel_v hz2
  split at h
  ·split at h
   ·rename_i v hv'
    simp at h;subst h
    obtain⟨g1,g2⟩:=run_shiftV (P:=P) (w:=w) (t:=t) (k':=k') hv' (hp _ (by simp))
    exact sound_val hc (run_v rfl (by rw[ex,ey];simp only[Sem.run_bind,run_eqGuard_int,Result.andThen_ok];exact g1)) (mk_v g2)
   ·simp at h
  ·rename_i hs
   split at h
   ·rename_i v p hkk hb
    simp at hkk
    subst hkk
    simp at h;subst h
    obtain⟨g1,g2⟩:=run_intBin (P:=P) (w:=w) (t:=t) hs hb hp
    exact sound_val hc (run_v rfl (by rw[ex,ey];simp only[Sem.run_bind,run_eqGuard_int,Result.andThen_ok];exact g1)) (mk_v g2)
   ·simp at h
 ·rename_i cs ds
  obtain⟨z1,z2,e1,hz1,hz2⟩:=valsRel_two hv
  simp only[List.cons.injEq,and_true] at e1;obtain⟨rfl,rfl⟩:=e1
  split at h
  ·obtain⟨r,p,rfl,hr⟩:=xEq_sound (w:=w) h hp hz1 hz2 x y
   exact sound_val hc (run_v rfl hr) (mk_v rfl)
  ·obtain⟨r,p,rfl,hr⟩:=xEq_sound (w:=w) h hp hz1 hz2 x y
   exact sound_val hc (run_v rfl hr) (mk_v rfl)
  ·simp at h
 ·rename_i c d _
  obtain⟨z1,z2,e1,hz1,hz2⟩:=valsRel_two hv
  simp only[List.cons.injEq,and_true] at e1;obtain⟨rfl,rfl⟩:=e1
  split at h
  ·rename_i hu
   split at h
   ·rename_i p q hp1 hq1
    have ex:=boolOf_rel hp1 hz1
    have ey:=boolOf_rel hq1 hz2
    simp[retV] at h;subst h
    exact sound_val hc (run_v rfl (by rw[ex,ey];simp only[Sem.run_bind,run_eqGuard_bool,Result.andThen_ok,binOp,run_equal_bool w t p q hu,Sem.run_pure])) (mk_v rfl)
   ·rename_i p q hp1 hq1
    have ex:=boolOf_rel hp1 hz1
    have ey:=boolOf_rel hq1 hz2
    simp[retV] at h;subst h
    exact sound_val hc (run_v rfl (by rw[ex,ey];simp only[Sem.run_bind,run_eqGuard_bool,Result.andThen_ok,binOp,run_equal_bool w t p q hu,Sem.run_pure])) (mk_v rfl)
   ·simp at h
  ·rename_i pt hu
   split at h
   ·rename_i hn
    have ey:=isNilPt_rel hn hz2
    split at h
    ·rename_i hb
     obtain⟨ad,ex⟩:=isPt_rel hb hz1
     simp[ret] at h;subst h
     refine sound_val hc (v:=.bool false) (run_v rfl ?_) rfl
     rw[ex,ey]
     simp only[Sem.run_bind,run_eqGuard_pt,Result.andThen_ok,binOp,run_equal_pt hu,Sem.run_pure,Option.isNone_some]
    ·rename_i hb
     obtain⟨ad,ex⟩:=isPt_rel hb hz1
     simp[ret] at h;subst h
     refine sound_val hc (v:=.bool true) (run_v rfl ?_) rfl
     rw[ex,ey]
     simp only[Sem.run_bind,run_eqGuard_pt,Result.andThen_ok,binOp,run_equal_pt hu,Sem.run_pure,Option.isNone_some,Bool.not_false]
    ·split at h
     ·obtain⟨⟨p,ex,hx⟩,_⟩:=hz1
      simp only[List.cons.injEq,and_true] at ex
      simp[retV] at h;subst h
      refine sound_val hc (run_v rfl ?_) (mk_v rfl)
      rw[ex,ey]
      simp only[Sem.run_bind,run_eqGuard_pt,Result.andThen_ok,binOp,run_equal_pt hu,Sem.run_pure]
      rw[<- hx];cases p<;>rfl
     ·have ex:=rel_v hz1
      simp[ret] at h;subst h
      refine sound_val hc (v:=.bool true) (run_v rfl ?_) rfl
      rw[ex,ey]
      simp only[Sem.run_bind,run_eqGuard_pt,Result.andThen_ok,binOp,run_equal_pt hu,Sem.run_pure,Option.isNone_none]
     ·simp at h
    ·split at h
     ·obtain⟨⟨p,ex,hx⟩,_⟩:=hz1
      simp only[List.cons.injEq,and_true] at ex
      simp[retV] at h;subst h
      refine sound_val hc (run_v rfl ?_) (mk_v rfl)
      rw[ex,ey]
      simp only[Sem.run_bind,run_eqGuard_pt,Result.andThen_ok,binOp,run_equal_pt hu,Sem.run_pure]
      rw[<- hx];cases p<;>rfl
     ·have ex:=rel_v hz1
      simp[ret] at h;subst h
      refine sound_val hc (v:=.bool false) (run_v rfl ?_) rfl
      rw[ex,ey]
      simp only[Sem.run_bind,run_eqGuard_pt,Result.andThen_ok,binOp,run_equal_pt hu,Sem.run_pure,Option.isNone_none,Bool.not_true]
     ·simp at h
    ·simp at h
   ·simp at h
  ·simp at h
 ·simp at h
theorem s_un (hc:Ctx w0 id ρ B w) {op:UnOp} {t:TypeId} {x:Operand} {vs:List SV} (h:xUn op vs=some out) (hv:valsRel ρ vs [a.eval x]):Sound1 P id B ⟨dst,.unOp op t x,ty,pos,af,gd⟩ out ρ a w:=by
 unfold xUn at h
 split at h
 ·obtain⟨z,e,hz1⟩:=valsRel_one hv
  simp at e;subst e
  have ex:=boolOf_rel (c:=.T) rfl hz1
  simp[ret] at h;subst h
  exact sound_val hc (v:=.bool false) (run_v rfl (by rw[ex];simp[Op.unary])) (show [Value.bool false]=_ from rfl)
 ·obtain⟨z,e,hz1⟩:=valsRel_one hv
  simp at e;subst e
  have ex:=boolOf_rel (c:=.F) rfl hz1
  simp[ret] at h;subst h
  exact sound_val hc (v:=.bool true) (run_v rfl (by rw[ex];simp[Op.unary])) (show [Value.bool true]=_ from rfl)
 ·obtain⟨z,e,hz1⟩:=valsRel_one hv
  simp at e;subst e
  have ex:=rel_v hz1
  simp[retV] at h;subst h
  exact sound_val hc (run_v rfl (by rw[ex];simp[Op.unary])) (mk_v rfl)
 ·obtain⟨z,e,hz1⟩:=valsRel_one hv
  simp at e;subst e
  have ex:=rel_v hz1
  simp[retV] at h;subst h
  exact sound_val hc (run_v rfl (by rw[ex];simp[Op.unary,Op.intArith])) (mk_v rfl)
 ·obtain⟨z,e,hz1⟩:=valsRel_one hv
  simp at e;subst e
  have ex:=rel_v hz1
  simp[retV] at h;subst h
  exact sound_val hc (run_v rfl (by rw[ex];rfl)) (mk_v rfl)
 ·simp at h
end
end Go.Eng
namespace Go.Eng
open Go Go.RowKit
theorem foldl_set (off:Nat):∀ (u:List Value) (s:Nat) (l:List Value),off+s+u.length<=l.length ->
  (u.zipIdx s).foldl (fun (cs:Array Value) (p:Value × Nat)=>cs.setIfInBounds (off+p.2) p.1) ⟨l⟩=⟨l.take (off+s)++(u++l.drop (off+s+u.length))⟩:=by
 intro u
 induction u with
 | nil=>intro s l _;simp
 | cons x u ih =>
  intro s l h
  simp only[List.zipIdx_cons,List.foldl_cons]
  have hi:off+s<l.length:=by simp at h;omega
  rw[show (⟨l⟩:Array Value).setIfInBounds (off+s) x=⟨l.set (off+s) x⟩ from by simp]
  rw[ih (s+1) _ (by simp at h ⊢;omega)]
  have e1:(l.set (off+s) x).take (off+(s+1))=l.take (off+s)++[x]:=by
   rw[show off+(s+1)=(off+s)+1 from by omega,List.take_succ_eq_append_getElem (by simpa using hi)]
   simp[List.take_set_of_le]
  have e2:(l.set (off+s) x).drop (off+(s+1)+u.length)=l.drop (off+s+(x::u).length):=by
   rw[List.drop_set_of_lt (by omega)];congr 1;simp;omega
  rw[e1,e2]
  simp
def partsRel (ρ:Rho):List (Nat × SV)->List (Nat × Value)->Prop
 | [],us=>us=[]
 | p::ps,us=>∃ x xs,us=(p.1,x)::xs/\p.2.rel ρ x/\partsRel ρ ps xs
theorem partsRel_zip {ρ:Rho}:∀ (is:List Nat) (vs:List SV) (us:List Value),is.length=vs.length->valsRel ρ vs us->partsRel ρ (is.zip vs) (is.zip us):=by
 intro is
 induction is with
 | nil=>intro vs us h hv;cases vs<;>simp at h;rfl
 | cons i is ih =>
  intro vs us h hv
  cases vs with
  | nil=>simp at h
  | cons v vs =>
   obtain⟨x,xs,rfl,h1,h2⟩:=hv
   exact⟨x,is.zip xs,rfl,h1,ih vs xs (by simpa using h) h2⟩
theorem fill_rel {ρ:Rho} {place:Nat->Option (Nat × Nat)}:∀ (ps:List (Nat × SV)) (us:List (Nat × Value)) (cs cs':List Cell) (l:List Value),
  partsRel ρ ps us->fillC place cs ps=some cs'->cellsRel ρ cs l->∃ l',Instr.fill place ⟨l⟩ us=some ⟨l'⟩/\cellsRel ρ cs' l':=by
 intro ps
 induction ps with
 | nil =>
  intro us cs cs' l hp h hr
  have:us=[]:=hp
  subst this
  simp[fillC] at h;subst h
  exact⟨l,rfl,hr⟩
 | cons p ps ih =>
  intro us cs cs' l hp h hr
  obtain⟨x,xs,rfl,h1,h2⟩:=hp
  obtain⟨i,v⟩:=p
  cases v with
  | is tv =>
   simp only[fillC] at h
   split at h
   ·rename_i off sz hpl
    split at h
    ·rename_i hsz
     split at h
     ·rename_i cs2 hput
      obtain⟨u,hu,hur⟩:=TV.rel_cells h1
      obtain⟨hr2,hle⟩:=putC_rel hput hr hur
      obtain⟨l',g1,g2⟩:=ih xs cs2 cs' _ h2 h hr2
      refine⟨l',?_,g2⟩
      unfold Instr.fill
      have hul:u.length=sz:=by rw[cellsRel_length hur];exact beq_true hsz
      simp only[hpl,hu]
      rw[if_neg (by simp;omega)]
      have:=foldl_set off u 0 l (by omega)
      simp only[Nat.add_zero] at this
      rw[show (Array.zipIdx ⟨u⟩:Array (Value × Nat))=⟨u.zipIdx⟩ from by simp]
      rw[show (⟨u.zipIdx⟩:Array (Value × Nat)).foldl (fun (cs:Array Value) (p:Value × Nat)=>cs.setIfInBounds (off+p.2) p.1) ⟨l⟩=u.zipIdx.foldl (fun (cs:Array Value) (p:Value × Nat)=>cs.setIfInBounds (off+p.2) p.1) ⟨l⟩ from by simp]
      rw[this]
      exact g1
     ·simp at h
    ·simp at h
   ·simp at h
  | _=>simp[fillC] at h
section
variable {P:Program} {w0:Base} {id:Nat} {ρ:Rho} {B:Blks} {w:World} {a:Act} {dst:Option Tmp} {ty:TypeId} {pos:String} {af:Array Edge} {gd:Option (Nat × Bool)} {out:Out}
theorem run_places:∀ (fs:List Field),(∀ f∈fs,(P.info? f.type).isSome=true) ->
  (fs.mapM fun (f:Field)=>(do pure (f.offset,<- Go.sizeOf f.type):Sem (Nat × Nat))).run P w=.ok (fs.map fun (f:Field)=>(f.offset,P.cellsOf f.type)) w:=by
 intro fs
 induction fs with
 | nil=>intro _;simp
 | cons f fs ih =>
  intro h
  obtain⟨i,hi⟩:=Option.isSome_iff_exists.1 (h f (by simp))
  simp only[List.mapM_cons,Sem.run_bind,sizeOf_run hi,Result.andThen_ok,Sem.run_pure,ih (fun g hg=>h g (by simp[hg]))]
  simp
theorem map_zip_parts (ps:List (Nat × Operand)):(ps.map fun p=>(p.1,a.eval p.2))=(ps.map (·.1)).zip (ps.map fun p=>a.eval p.2):=by
 induction ps with
 | nil=>rfl
 | cons p ps ih=>simp;exact ih
theorem canonN_rel {e:TypeId} {n:Nat} {cs:List Cell} {l:List Value} (hp:∀ p∈(canonN P e n cs).2,p) (hr:cellsRel ρ cs l):cellsRel ρ (canonN P e n cs).1 l:=by
 unfold canonN at hp ⊢
 split
 ·rename_i κ hκ
  simp only[hκ] at hp
  split
  ·rename_i xs ps hq
   simp only[hq] at hp
   obtain⟨l1,l2,e1,k1,k2,k3⟩:=pN_rel (R:=Rd ρ.M κ) (fun cs x ps r l=>pOne_rel (sees_noB ρ) κ cs x ps r l) _ _ _ _ _ _ hq hp hr
   have k3:l2=[]:=k3
   subst k3
   rw[List.append_nil] at e1
   subst e1
   exact cellsRel_one1 (mkRow_rel k1 k2)
  ·exact hr
 ·exact hr
theorem canonA_rel {t:TypeId} {cs:List Cell} {l:List Value} (hp:∀ p∈(canonA P t cs).2,p) (hr:cellsRel ρ cs l):cellsRel ρ (canonA P t cs).1 l:=by
 unfold canonA at hp ⊢
 split
 ·rename_i n e hu
  simp only[hu] at hp
  exact canonN_rel hp hr
 ·exact hr
theorem s_build (hc:Ctx w0 id ρ B w) {t:TypeId} {ps:Array (Nat × Operand)} {vs:List SV} (hel:elemsOk P t=true) (h:xBuild P t (ps.toList.map (·.1)) vs=some out) (hp:∀ p∈out.pre,p) (hv:valsRel ρ vs (ps.toList.map fun p=>a.eval p.2)):Sound1 P id B ⟨dst,.build t ps,ty,pos,af,gd⟩ out ρ a w:=by
 unfold xBuild at h
 split at h
 ·rename_i cs hag hlen hz
  split at h
  ·rename_i cs' hf
   simp at h;subst h
   have hlen:=beq_true hlen
   obtain⟨i,z,hi,hz1,hr⟩:=zeroC_rel (ρ:=ρ) hz
   have hpr:=partsRel_zip _ vs _ hlen hv
   rw[<- map_zip_parts] at hpr
   obtain⟨l',g1,g2⟩:=fill_rel _ _ _ _ _ hpr hf hr
   refine sound_val hc (v:=.agg ⟨l'⟩) (run_v (s:=Instr.build t (ps.map fun p=>(p.1,a.eval p.2))) rfl ?_) ⟨l',rfl,canonA_rel hp g2⟩
   unfold Instr.build zeroValue
   simp only[Sem.run_bind,typeInfo_run hi,Result.andThen_ok,hz1,Sem.run_pure]
   unfold isAggT at hag
   split at hag
   ·rename_i fs hfs
    simp only[underlying_run hfs,Result.andThen_ok]
    have hall:∀ f∈fs.toList,(P.info? f.type).isSome=true:=by
     intro f hf'
     simp only[elemsOk,hfs,Array.all_eq_true'] at hel
     exact (typeOk_spec (hel f (Array.mem_toList_iff.1 hf'))).1
    rw[Array.mapM_eq_mapM_toList]
    simp only[Sem.run_bind,Sem.run_map,run_places _ hall,Result.andThen_ok]
    have hplace:(fun (x:Nat)=>(fs.toList.map fun f=>(f.offset,P.cellsOf f.type)).toArray[x]?)=litPlace P t:=by
     funext x
     simp only[litPlace,hfs]
     simp
     cases fs[x]? <;> rfl
    simp only[hplace]
    rw[show ((ps.map fun p=>(p.1,a.eval p.2)).toList)=ps.toList.map fun p=>(p.1,a.eval p.2) from by simp]
    rw[show z.cells=⟨z.cells.toList⟩ from rfl,g1]
    simp
   ·rename_i n e he
    obtain⟨q1,q2,q3⟩:=elemsOk_elem hel (.inl he)
    obtain⟨ie,hie⟩:=Option.isSome_iff_exists.1 q1
    simp only[underlying_run he,Result.andThen_ok,Sem.run_bind,sizeOf_run hie]
    have hplace:(fun (i:Nat)=>some (i*P.cellsOf e,P.cellsOf e))=litPlace P t:=by
     funext x
     simp only[litPlace,he]
    simp only[hplace]
    rw[show ((ps.map fun p=>(p.1,a.eval p.2)).toList)=ps.toList.map fun p=>(p.1,a.eval p.2) from by simp]
    rw[show z.cells=⟨z.cells.toList⟩ from rfl,g1]
    simp
   ·simp at hag
  ·simp at h
 ·simp at h
theorem cellsRel_rep {cs:List Cell} {l:List Value} (h:cellsRel ρ cs l):∀ n,cellsRel ρ (rep n cs) (rep n l):=by
 intro n
 induction n with
 | zero=>rfl
 | succ n ih=>exact cellsRel_append h ih
theorem rep_range (l:List Value) (hl:l≠[]):∀ n,(Array.range (n*l.length)).map (fun i=>(⟨l⟩:Array Value)[i%(⟨l⟩:Array Value).size]!)=⟨rep n l⟩:=by
 intro n
 have hpos:0<l.length:=by cases l<;>simp_all
 apply Array.ext'
 simp only[Array.toList_map,Array.toList_range]
 induction n with
 | zero=>simp[rep]
 | succ n ih =>
  rw[Nat.succ_mul,List.range_add,List.map_append,ih]
  have:∀ n,rep n l++l=rep (n+1) l:=by
   intro n
   induction n with
   | zero=>simp[rep]
   | succ n ih=>rw[rep,List.append_assoc,ih];simp[rep]
  rw[<- this n]
  congr 1
  apply List.ext_getElem
  ·simp
  ·intro i h1 h2
   simp at h1
   simp only[List.getElem_map,List.getElem_range]
   have hm:(n*l.length+i)%l.length=i:=by
    rw[Nat.add_comm,Nat.add_mul_mod_self_right,Nat.mod_eq_of_lt h1]
   simp only[List.size_toArray,hm]
   simp[h1]
end
end Go.Eng
namespace Go.Eng
open Go Go.RowKit
section
variable {P:Program} {w0:Base} {id:Nat} {ρ:Rho} {B:Blks} {w:World} {a:Act} {dst:Option Tmp} {ty:TypeId} {pos:String} {af:Array Edge} {gd:Option (Nat × Bool)} {out:Out}
theorem rep_length {α:Type} (l:List α):∀ n,(rep n l).length=n*l.length:=by
 intro n
 induction n with
 | zero=>simp[rep]
 | succ n ih=>simp[rep,ih,Nat.succ_mul,Nat.add_comm]
theorem splitC_size:∀ (cs:List Cell) (n:Nat) (a b:List Cell),splitC cs n=some (a,b)->cellsSize a=n/\n+cellsSize b=cellsSize cs:=by
 intro cs
 induction cs with
 | nil =>
  intro n a b h
  cases n with
  | zero=>simp only[splitC,Option.some.injEq,Prod.mk.injEq] at h;obtain⟨rfl,rfl⟩:=h;simp[cellsSize]
  | succ n=>simp[splitC] at h
 | cons c cs ih =>
  intro n a b h
  cases n with
  | zero=>simp only[splitC,Option.some.injEq,Prod.mk.injEq] at h;obtain⟨rfl,rfl⟩:=h;simp[cellsSize]
  | succ n =>
   simp only[splitC] at h
   split at h
   ·rename_i e m xs hc
    have hsz:c.size=m*width e:=by
     cases c<;>simp[asRow] at hc
     ·obtain⟨rfl,hc⟩:=hc;obtain⟨rfl,_⟩:=(by simpa using hc);simp[Cell.size,width]
     ·obtain⟨rfl,hc⟩:=hc;obtain⟨rfl,_⟩:=(by simpa using hc);rfl
    split at h
    ·rename_i hb
     have hb:=blt_true hb
     split at h
     ·rename_i hd
      have hd:=beq_true hd
      simp only[Option.some.injEq,Prod.mk.injEq] at h
      obtain⟨rfl,rfl⟩:=h
      simp only[cellsSize,mkRow_size,hsz,Nat.sub_mul]
      generalize (n+1)/width e*width e=q at *
      omega
     ·simp at h
    ·rename_i hb
     have hb:=blt_false hb
     split at h
     ·rename_i a' b' hq
      simp only[Option.some.injEq,Prod.mk.injEq] at h
      obtain⟨rfl,rfl⟩:=h
      obtain⟨k1,k2⟩:=ih _ _ _ hq
      simp only[cellsSize,hsz];omega
     ·simp at h
   ·rename_i hc
    have hs:c.size=1:=by cases c<;>simp[asRow] at hc<;>rfl
    split at h
    ·rename_i a' b' hq
     simp only[Option.some.injEq,Prod.mk.injEq] at h
     obtain⟨rfl,rfl⟩:=h
     obtain⟨k1,k2⟩:=ih _ _ _ hq
     simp only[cellsSize,hs];omega
    ·simp at h
theorem cellsSize_append (a b:List Cell):cellsSize (a++b)=cellsSize a+cellsSize b:=by
 induction a with
 | nil=>simp[cellsSize]
 | cons c cs ih=>simp[cellsSize,ih,Nat.add_assoc]
theorem putC_size {cs new cs':List Cell} {off:Nat} (h:putC cs off new=some cs'):cellsSize cs'=cellsSize cs:=by
 unfold putC at h
 cases hq:splitC cs off with
 | none=>rw[hq] at h;simp at h
 | some p =>
  obtain⟨a,r⟩:=p
  rw[hq] at h
  simp only at h
  cases hq2:splitC r (cellsSize new) with
  | none=>rw[hq2] at h;simp at h
  | some p2 =>
   obtain⟨m',r'⟩:=p2
   rw[hq2] at h
   simp only[Option.some.injEq] at h
   subst h
   have h1:=splitC_size _ _ _ _ hq
   have h2:=splitC_size _ _ _ _ hq2
   simp only[cellsSize_append];omega
theorem fillC_size {place:Nat->Option (Nat × Nat)}:∀ {ps:List (Nat × SV)} {cs cs':List Cell},fillC place cs ps=some cs'->cellsSize cs'=cellsSize cs:=by
 intro ps
 induction ps with
 | nil=>intro cs cs' h;simp[fillC] at h;rw[h]
 | cons p ps ih =>
  intro cs cs' h
  obtain⟨i,x⟩:=p
  cases x with
  | is x =>
   simp only[fillC] at h
   split at h
   ·split at h
    ·split at h
     ·rename_i hq
      rw[ih h,putC_size hq]
     ·simp at h
    ·simp at h
   ·simp at h
  | _=>simp[fillC] at h
theorem s_buildSlice (hc:Ctx w0 id ρ B w) {t:TypeId} {len:Nat} {ps:Array (Nat × Operand)} {vs:List SV} (hel:elemsOk P t=true) (h:xBuildSlice P id t len (ps.toList.map (·.1)) vs=some out) (hp:∀ p∈out.pre,p) (hv:valsRel ρ vs (ps.toList.map fun p=>a.eval p.2)):Sound1 P id B ⟨dst,.buildSlice t len ps,ty,pos,af,gd⟩ out ρ a w:=by
 unfold xBuildSlice at h
 split at h
 ·rename_i e hu hlen
  split at h
  ·rename_i cs hz hb
   simp only[Bool.and_eq_true] at hb
   have hb1:len*P.cellsOf e<16777217:=by simpa[Nat.blt_eq] using hb.1.1
   have hb2:0<P.cellsOf e:=by simpa[Nat.blt_eq] using hb.1.2
   split at h
   ·rename_i cs' hf
    split at h
    ·simp at h
    rename_i d ds hcan
    simp at h;subst h
    have hlen:=beq_true hlen
    obtain⟨i,z,hi,hz1,hr⟩:=zeroC_rel (ρ:=ρ) hz
    have hpr:=partsRel_zip _ vs _ hlen hv
    rw[<- map_zip_parts] at hpr
    obtain⟨l',g1,g2⟩:=fill_rel _ _ _ _ _ hpr hf (cellsRel_rep hr len)
    obtain⟨q1,q2,q3⟩:=elemsOk_elem (n:=0) hel (.inr hu)
    have hsz:z.cells.toList.length=P.cellsOf e:=by
     rw[cellsRel_length hr]
     have:=beq_true hb.2
     simpa[hz] using this
    have hl':len*P.cellsOf e=l'.length:=by
     rw[cellsRel_length g2,fillC_size hf,<- cellsRel_length (cellsRel_rep hr len),rep_length,hsz]
    have ex:execOp a.eval ⟨dst,.buildSlice t len ps,ty,pos,af,gd⟩=(do pure (.value (<- Instr.buildSlice t len (ps.map fun (i,x)=>(i,a.eval x))))):=rfl
    have efun:(fun (i,x)=>(i,a.eval x):Nat × Operand->Nat × Value)=fun p=>(p.1,a.eval p.2):=rfl
    rw[efun] at ex
    refine sound_alloc hc (l:=l') (t:=e) (v:=.slice (some ⟨w.heap.size,0,none⟩) len len) (run_v ex ?_) (by rw[<- hcan];exact canonN_rel hp g2) (fun ρ' h hn=>.inr ⟨_,0,len,h,Nat.le_refl _,.inl (by simp),by rw[hn];simp[hl'],rfl⟩)
    unfold Instr.buildSlice zeroValue
    simp only[Sem.run_bind,underlying_run hu,Result.andThen_ok,sizeOf_run hi,Sem.run_ite]
    rw[if_neg (by omega)]
    have hrange:((Array.range (len*P.cellsOf e)).map fun i=>z.cells[i%z.cells.size]!)=⟨rep len z.cells.toList⟩:=by
     have:=rep_range z.cells.toList (by intro h0;rw[h0] at hsz;simp at hsz;omega) len
     rw[hsz] at this
     exact this
    have hps:(ps.map fun p=>(p.1,a.eval p.2)).toList=ps.toList.map fun p=>(p.1,a.eval p.2):=by simp
    by_cases hl0:len*P.cellsOf e=0
    ·have hlen0:len=0:=by
      rcases Nat.mul_eq_zero.1 hl0 with h|h
      ·exact h
      ·omega
     subst hlen0
     simp only[hl0,if_true,Sem.run_pure,Result.andThen_ok]
     rw[hps]
     simp only[rep] at g1
     rw[show (Array.map (fun i=>(#[]:Array Value)[i%(#[]:Array Value).size]!) (Array.range 0))=⟨[]⟩ from by simp,g1]
     simp only[newRow,Sem.run_bind,run_newObj,Result.andThen_ok,Sem.run_pure]
     rfl
    ·simp only[hl0,if_false,typeInfo_run hi,Result.andThen_ok,hz1,Sem.run_pure]
     rw[hrange,hps,g1]
     simp only[newRow,Sem.run_bind,run_newObj,Result.andThen_ok,Sem.run_pure]
     rfl
   ·simp at h
  ·simp at h
 ·simp at h
end
end Go.Eng
