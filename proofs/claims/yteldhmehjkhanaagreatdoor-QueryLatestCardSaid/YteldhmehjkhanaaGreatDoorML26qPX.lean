import Derived.WalkKit
import Derived.WalkSpells
import Derived.LoopTactic
import Derived.Lib.Builder
import Derived.Maps.OwnSet
import Derived.Maps.RangeRun
import Derived.LoopN
import Derived.Handy
import Derived.StringKeys
import Derived.Deep.RegionWith
import Derived.Test.YteldhmehjkhanaaGreatDoorML26qPW
set_option maxRecDepth 100000
namespace Cr
section
variable {M:Int} [Md M]
theorem times_enc (x y:Zm M):lim (Md.n M) (val (enc x)*val (enc y)*Md.rinv M%M)=enc (x*y):=by
 rw[<- enc_mul,dec_enc,dec_enc]
theorem val_enc_lt (x:Zm M):0<=val (enc x)/\val (enc x)<M:=⟨val_nonneg (enc_ws x),(enc_canon x).2.2⟩
theorem val_lim_of {n:Nat} {a:Int} (h0:0<=a) (h1:a<pw n):val (lim n a)=a:=by
 rw[val_lim,Int.emod_eq_of_lt h0 h1]
theorem add_enc (x y:Zm M):(if val (lim (Md.n M) (val (enc x)+val (enc y)))<M then lim (Md.n M) (val (enc x)+val (enc y)) else lim (Md.n M) (val (lim (Md.n M) (val (enc x)+val (enc y)))-M))=enc (x+y):=by
 have hx:=val_enc_lt x
 have hy:=val_enc_lt y
 have hb:=Md.big (M:=M)
 have e:enc (x+y)=lim (Md.n M) ((val (enc x)+val (enc y))%M):=by rw[<- enc_add,dec_enc,dec_enc]
 rw[val_lim_of (by omega) (by omega),e]
 split
 ·rename_i h;rw[Int.emod_eq_of_lt (by omega) h]
 ·rename_i h;rw[<- Int.sub_emod_right,Int.emod_eq_of_lt (by omega) (by omega)]
theorem lim_mod (n:Nat) (a:Int):lim n (a%pw n)=lim n a:=by
 have h1:=val_lim n a
 have h2:=val_lim n (a%pw n)
 rw[Int.emod_emod] at h2
 exact val_inj (lim_ws _ _) (lim_ws _ _) (by rw[lim_length,lim_length]) (by rw[h1,h2])
theorem sub_enc_lt {x y:Zm M} (h:val (enc x)<val (enc y)):lim (Md.n M) (val (lim (Md.n M) (val (enc x)-val (enc y)))+M)=enc (x-y):=by
 have hx:=val_enc_lt x
 have hy:=val_enc_lt y
 have e:enc (x-y)=lim (Md.n M) ((val (enc x)-val (enc y))%M):=by rw[<- enc_sub,dec_enc,dec_enc]
 rw[e,val_lim,<- lim_mod _ (_+M),Int.emod_add_emod,lim_mod]
 congr 1
 rw[<- Int.add_emod_right,Int.emod_eq_of_lt (by omega) (by omega)]
theorem sub_enc_ge {x y:Zm M} (h:¬ val (enc x)<val (enc y)):lim (Md.n M) (val (enc x)-val (enc y))=enc (x-y):=by
 have hx:=val_enc_lt x
 have hy:=val_enc_lt y
 have e:enc (x-y)=lim (Md.n M) ((val (enc x)-val (enc y))%M):=by rw[<- enc_sub,dec_enc,dec_enc]
 rw[e,Int.emod_eq_of_lt (by omega) (by omega)]
theorem plain_enc (x:Zm M) {u:List Int} (hu:val u=1):lim (Md.n M) (val (enc x)*val u*Md.rinv M%M)=lim (Md.n M) x.v:=by
 congr 1
 rw[hu,Int.mul_one,val_enc]
 show ((x.v*(pw (Md.n M)%M))%M)*Md.rinv M%M=_
 have h:=Md.inv (M:=M)
 have:(x.v*(pw (Md.n M)%M)%M)*Md.rinv M%M=x.v*(pw (Md.n M)*Md.rinv M)%M:=by
  rw[Int.mul_emod,Int.emod_emod,<- Int.mul_emod,Int.mul_assoc,Int.mul_emod,Int.mul_emod (pw (Md.n M)%M),Int.emod_emod,<- Int.mul_emod (pw (Md.n M)),<- Int.mul_emod]
 rw[this,Int.mul_emod,h,Int.mul_one,Int.emod_emod,v_mod]
theorem shift_enc {ys:List Int}:lim (Md.n M) (val (enc (R2:Zm M))*val ys*Md.rinv M%M)=enc (zm (val ys):Zm M):=by
 rw[enc_zm,val_enc]
 congr 1
 have h:=Md.inv (M:=M)
 show ((pw (Md.n M)%M)*(pw (Md.n M)%M)%M)*val ys*Md.rinv M%M=_
 rw[<- Int.mul_emod]
 have e:(pw (Md.n M)*pw (Md.n M)%M)*val ys*Md.rinv M%M=(pw (Md.n M)*pw (Md.n M))*(val ys*Md.rinv M)%M:=by
  rw[Int.mul_assoc,Int.mul_emod,Int.emod_emod,<- Int.mul_emod]
 rw[e,show pw (Md.n M)*pw (Md.n M)*(val ys*Md.rinv M)=(val ys*pw (Md.n M))*(pw (Md.n M)*Md.rinv M) by
  rw[Int.mul_assoc,Int.mul_comm (val ys) (pw (Md.n M)),Int.mul_assoc,Int.mul_left_comm (pw (Md.n M)) (val ys)],Int.mul_emod,h,Int.mul_one,Int.emod_emod]
end
end Cr
namespace Cr
def Bs (l:List Int):Prop:=∀ x∈l,0<=x/\x<256
def num (l:List Int):Int:=l.foldl (fun a b=>a*256+b) 0
def p256:Nat->Int
 | 0=>1
 | n+1=>256*p256 n
theorem p256_pos (n:Nat):0<p256 n:=by
 induction n with
 | zero=>decide
 | succ n ih=>simp only[p256];omega
theorem p256_add (m n:Nat):p256 (m+n)=p256 m*p256 n:=by
 induction m with
 | zero=>simp[p256]
 | succ m ih=>rw[Nat.succ_add];simp only[p256,ih,Int.mul_assoc]
theorem p256_8 (n:Nat):p256 (8*n)=pw n:=by
 induction n with
 | zero=>rfl
 | succ n ih =>
  rw[Nat.mul_succ,Nat.add_comm,p256_add,ih]
  rfl
theorem num_snoc (l:List Int) (b:Int):num (l++[b])=num l*256+b:=by simp[num]
theorem foldl_num (l:List Int):∀ a:Int,l.foldl (fun a b=>a*256+b) a=a*p256 l.length+num l:=by
 induction l with
 | nil=>intro a;simp[num,p256]
 | cons b l ih =>
  intro a
  simp only[List.foldl_cons,List.length_cons,p256,num]
  rw[ih,ih (0*256+b)]
  simp only[Int.add_mul,Int.zero_mul,Int.zero_add]
  rw[show a*256*p256 l.length=a*(256*p256 l.length) from Int.mul_assoc _ _ _]
  omega
theorem num_append (l m:List Int):num (l++m)=num l*p256 m.length+num m:=by
 show (l++m).foldl _ 0=_
 rw[List.foldl_append,foldl_num]
 rfl
theorem num_bd {l:List Int} (h:Bs l):0<=num l/\num l<p256 l.length:=by
 induction l with
 | nil=>simp[num,p256]
 | cons b l ih =>
  have hb:=h b (by simp)
  have hi:=ih (fun x hx=>h x (by simp[hx]))
  have e:num (b::l)=b*p256 l.length+num l:=num_append [b] l▸by simp[num]
  rw[e,List.length_cons]
  simp only[p256]
  have hp:=p256_pos l.length
  have h1:=Int.mul_nonneg hb.1 (Int.le_of_lt hp)
  have h2:b*p256 l.length<=255*p256 l.length:=Int.mul_le_mul_of_nonneg_right (by omega) (Int.le_of_lt hp)
  omega
theorem Bs_take {l:List Int} (h:Bs l) (n:Nat):Bs (l.take n):=fun x hx=>h x (List.mem_of_mem_take hx)
theorem Bs_drop {l:List Int} (h:Bs l) (n:Nat):Bs (l.drop n):=fun x hx=>h x (List.mem_of_mem_drop hx)
theorem num_take_succ {l:List Int} {k:Nat} (h:k<l.length):num (l.take (k+1))=num (l.take k)*256+l.getD k 0:=by
 rw[List.take_succ_eq_append_getElem h,num_snoc]
 congr 1
 simp[h]
theorem lim_set:∀ (n j:Nat) (A d:Int),j<n->0<=d->(lim n A).getD j 0+d<18446744073709551616 ->
  (lim n A).set j ((lim n A).getD j 0+d)=lim n (A+d*pw j):=by
 intro n
 induction n with
 | zero=>intro j A d h;omega
 | succ n ih =>
  intro j A d hj hd hlt
  cases j with
  | zero =>
   simp only[lim,List.getD_cons_zero,List.set_cons_zero,pw,Int.mul_one] at hlt ⊢
   have h1:(A+d)%18446744073709551616=A%18446744073709551616+d:=by omega
   have h2:(A+d)/18446744073709551616=A/18446744073709551616:=by omega
   rw[h1,h2]
  | succ j =>
   simp only[lim,List.getD_cons_succ,List.set_cons_succ,pw] at hlt ⊢
   rw[ih j _ d (by omega) hd hlt]
   have e:d*(18446744073709551616*pw j)=18446744073709551616*(d*pw j):=by rw[Int.mul_left_comm]
   have h1:(A+18446744073709551616*(d*pw j))%18446744073709551616=A%18446744073709551616:=by omega
   have h2:(A+18446744073709551616*(d*pw j))/18446744073709551616=A/18446744073709551616+d*pw j:=by omega
   rw[e,h1,h2]
theorem lim_get:∀ (n j:Nat) (A:Int),j<n->(lim n A).getD j 0=A/pw j%18446744073709551616:=by
 intro n
 induction n with
 | zero=>intro j A h;omega
 | succ n ih =>
  intro j A hj
  cases j with
  | zero=>simp[lim,pw]
  | succ j =>
   simp only[lim,List.getD_cons_succ,pw]
   rw[ih j _ (by omega),Int.ediv_ediv_of_nonneg (by decide)]
theorem p256_pow (n:Nat):p256 n=((2^(8*n):Nat):Int):=by
 induction n with
 | zero=>rfl
 | succ n ih=>rw[p256,ih,Nat.mul_succ,Nat.pow_add];simp;omega
theorem word_at (N:Int) (q:Nat):(N*p256 (q+1))/pw (q/8)%18446744073709551616=N*p256 (q%8+1)%18446744073709551616:=by
 have e:N*p256 (q+1)=N*p256 (q%8+1)*pw (q/8):=by
  rw[<- p256_8,Int.mul_assoc,<- p256_add]
  congr 2;omega
 rw[e,Int.mul_ediv_cancel _ (by have:=pw_pos (q/8);omega)]
theorem p256_dvd {m:Nat} (h:m<=8):∃ c:Int,(18446744073709551616:Int)=c*p256 m/\0<c:=by
 refine⟨p256 (8-m),?_,p256_pos _⟩
 rw[<- p256_add,Nat.sub_add_cancel h];rfl
theorem or_word {N v:Int} {q:Nat} (hv0:0<=v) (hv:v<256) (hq:q<8) :
  ∃ c:Nat,N*p256 (q+1)%18446744073709551616=((c*2^(8*(q+1)):Nat):Int)/\v*p256 q<p256 (q+1)/\0<=v*p256 q/\N*p256 (q+1)%18446744073709551616+v*p256 q<18446744073709551616:=by
 obtain⟨c,hc,hc0⟩:=p256_dvd (m:=q+1) (by omega)
 have hp:=p256_pos (q+1)
 have e:N*p256 (q+1)%18446744073709551616=(N%c)*p256 (q+1):=by
  rw[hc,Int.mul_comm N,Int.mul_comm c,Int.mul_emod_mul_of_pos _ _ hp,Int.mul_comm]
 have hn0:=Int.emod_nonneg N (show c≠0 by omega)
 have hn1:=Int.emod_lt_of_pos N hc0
 have hvb:v*p256 q<p256 (q+1):=by
  show _<256*p256 q
  exact Int.mul_lt_mul_of_pos_right hv (p256_pos q)
 have hvn:0<=v*p256 q:=Int.mul_nonneg hv0 (Int.le_of_lt (p256_pos q))
 refine⟨(N%c).toNat,?_,hvb,hvn,?_⟩
 ·rw[e,p256_pow]
  rw[Int.natCast_mul,Int.toNat_of_nonneg hn0]
 ·rw[e,hc]
  have:(N%c)*p256 (q+1)+p256 (q+1)<=c*p256 (q+1):=by
   have:=Int.mul_le_mul_of_nonneg_right (show N%c+1<=c by omega) (Int.le_of_lt hp)
   rw[Int.add_mul,Int.one_mul] at this
   exact this
  omega
def bytesN (n:Nat) (N:Int):List Int:=(List.range n).map fun i=>N/p256 (n-1-i)%256
theorem bytesN_length (n:Nat) (N:Int):(bytesN n N).length=n:=by simp[bytesN]
theorem bytesN_Bs (n:Nat) (N:Int):Bs (bytesN n N):=by
 intro x hx
 simp[bytesN] at hx
 obtain⟨i,_,rfl⟩:=hx
 omega
theorem byte_at {n:Nat} {N:Int} {i:Nat} (hi:i<8*n):((lim n N).getD (n-1-i/8) 0)/p256 (7-i%8)%256=N/p256 (8*n-1-i)%256:=by
 rw[lim_get _ _ _ (by omega)]
 obtain⟨c,hc,hc0⟩:=p256_dvd (m:=7-i%8+1) (by omega)
 have e1:p256 (8*n-1-i)=pw (n-1-i/8)*p256 (7-i%8):=by
  rw[<- p256_8,<- p256_add];congr 1;omega
 rw[e1,<- Int.ediv_ediv_of_nonneg (Int.le_of_lt (pw_pos _))]
 generalize N/pw (n-1-i/8)=A
 have hp:=p256_pos (7-i%8)
 rw[hc,show p256 (7-i%8+1)=256*p256 (7-i%8) from rfl]
 generalize p256 (7-i%8)=P at *
 have h1:A%(c*(256*P))=A%(P*(256*c)):=by congr 1;rw[Int.mul_comm c,Int.mul_comm 256 P,Int.mul_assoc]
 rw[h1]
 have h2:A%(P*(256*c))/P=(A/P)%(256*c):=by
  rw[Int.emod_def,Int.emod_def,Int.mul_assoc,<- Int.sub_mul_ediv_left _ _ (show P≠0 by omega),<- Int.ediv_ediv_of_nonneg (Int.le_of_lt hp)]
 rw[h2,Int.emod_emod_of_dvd _ ⟨c,rfl⟩]
end Cr
namespace Go.Proofs.YteldhmehjkhanaaGreatDoor
open Go Go.Eng Cr
abbrev bsl:Kd:=.sl (.int .u8)
abbrev preB (b:List Int):Prop:=Bs b/\List.length b<=281474976710656
abbrev preI (x:Int):Prop:=-9223372036854775808<=x/\x<9223372036854775808
end Go.Proofs.YteldhmehjkhanaaGreatDoor
namespace Go.Proofs.YteldhmehjkhanaaGreatDoor.qry
noncomputable section
open Go Go.Eng Go.RowKit Cr Go.Qry
abbrev iK:Kd:=.int .i64
theorem mixed:Tryz.prog.follows .mixedOrders=true:=by kernel_rfl
def cntO (s:ByteArray):Int:=((List.count 32 s.data.toList:Nat):Int)
def ixO (s:ByteArray):Int:=Lib.indexByte s.data.toList 32
def itO (n:Int):ByteArray:=bs (Lib.decDigits (Int.toNat n))
def jnO (xs:List ByteArray) (sep:ByteArray):ByteArray:=opq (bs (Lib.join (List.map (fun x=>x.data.toList) xs) sep.data.toList))
def sBlank:ByteArray:=⟨#[32]⟩
theorem str_in {M:Mem} {s:ByteArray} {u:Value} (h:valRd M .str s u):u=.string s:=by
 have h:[u]=[Value.string s]:=h
 simpa using h
theorem ent_count:enters Tryz.prog 84 Tryz.f84:=ek
theorem fn_count:FnOk Tryz.prog 84 [.str,.str] [.val iK] noG (fun (_,p,_)=>p=sBlank) (fun (s,_)=>(cntO s,())):=by
 intro w M us xs _ _ hin hp
 obtain⟨s,p,⟨⟩⟩:=xs
 obtain⟨u,us',rfl,h1,u2,us2,rfl,h2,h3⟩:=hin
 have h3:us2=[]:=h3
 have h1:=str_in h1
 have h2:=str_in h2
 have hp:p=sBlank:=hp
 subst h1 h2 h3 hp
 refine .inl ⟨ent_count.2 _ _,(Any.strings_Count_one Tryz.lays138 s 32 w).mono ?_⟩
 rintro e w' ⟨rfl,rfl⟩
 exact⟨_,rfl,[.int .i64 _],none,rfl,⟨_,[],rfl,rfl,rfl⟩,Below.refl _ _⟩
theorem ent_index:enters Tryz.prog 85 Tryz.f85:=ek
theorem fn_index:FnOk Tryz.prog 85 [.str,.str] [.val iK] noG (fun (_,p,_)=>p=sBlank) (fun (s,_)=>(ixO s,())):=by
 intro w M us xs _ _ hin hp
 obtain⟨s,p,⟨⟩⟩:=xs
 obtain⟨u,us',rfl,h1,u2,us2,rfl,h2,h3⟩:=hin
 have h3:us2=[]:=h3
 have h1:=str_in h1
 have h2:=str_in h2
 have hp:p=sBlank:=hp
 subst h1 h2 h3 hp
 refine .inl ⟨ent_index.2 _ _,(Any.strings_Index_one Tryz.lays143 s 32 w).mono ?_⟩
 rintro e w' ⟨rfl,rfl⟩
 exact⟨_,rfl,[.int .i64 _],none,rfl,⟨_,[],rfl,rfl,rfl⟩,Below.refl _ _⟩
theorem ent_itoa:enters Tryz.prog 48 Tryz.f48:=ek
theorem fn_itoa:FnOk Tryz.prog 48 [iK] [.val .str] noG (fun (n,_)=>0<=(n:Int)/\(n:Int)<100) (fun (n,_)=>(itO n,())):=by
 intro w M us xs _ _
 obtain⟨n,⟨⟩⟩:=xs
 revert n
 intro (n:Int) hin (hp:0<=n/\n<100)
 obtain⟨p0,p1⟩:=hp
 obtain⟨u,us',rfl,h1,h3⟩:=hin
 have h3:us'=[]:=h3
 have h1:[u]=[Value.int .i64 n]:=h1
 simp only[List.cons.injEq,and_true] at h1
 subst h1 h3
 have hn:n=((Int.toNat n:Nat):Int):=by omega
 have h:=Any.strconv_Itoa_small Tryz.lays171 (Int.toNat n) (by omega) w
 rw[<- hn] at h
 refine .inl ⟨ent_itoa.2 _ _,h.mono ?_⟩
 rintro e w' ⟨rfl,rfl⟩
 exact⟨_,rfl,[.string _],none,rfl,⟨_,[],rfl,rfl,rfl⟩,Below.refl _ _⟩
def spCount:Nat × Eng.Spec:=(84,fnSpec [.str,.str] [.val iK] (fun (_,p,_)=>p=sBlank) (fun (s,_)=>(cntO s,())))
def spIndex:Nat × Eng.Spec:=(85,fnSpec [.str,.str] [.val iK] (fun (_,p,_)=>p=sBlank) (fun (s,_)=>(ixO s,())))
def spItoa:Nat × Eng.Spec:=(48,fnSpec [iK] [.val .str] (fun (n,_)=>0<=(n:Int)/\(n:Int)<100) (fun (n,_)=>(itO n,())))
theorem rdl_str {M:Mem}:∀ {xs:List ByteArray} {vs:List Value},RdL (Rd M .str) xs vs->vs=xs.map Value.string:=by
 intro xs
 induction xs with
 | nil=>intro vs h;exact h
 | cons x xs ih =>
  intro vs ⟨v1,v2,e,h1,h2⟩
  have h1:v1=[Value.string x]:=h1
  rw[e,h1,ih h2];rfl
def joinP (xs:List ByteArray) (sep:ByteArray):Prop:=(0<List.length xs/\List.length xs<=1000)/\List.length (Lib.join (List.map (fun x=>x.data.toList) xs) sep.data.toList)<=140737488355328
abbrev preJoin:HL [.sl .str,.str]->Prop:=fun (xs,sep,_)=>joinP xs sep
theorem ent_join:enters Tryz.prog 50 Tryz.f50:=ek
theorem fn_join:FnOk Tryz.prog 50 [.sl .str,.str] [.val .str] noG preJoin (fun (xs,sep,_)=>(jnO xs sep,())):=by
 intro w M us xs hM _
 obtain⟨xs,sep,⟨⟩⟩:=xs
 revert xs sep
 intro (xs:List ByteArray) (sep:ByteArray) hin hp
 obtain⟨⟨p0,p1⟩,p2⟩:=hp
 obtain⟨u,us',rfl,h1,u2,us2,rfl,h2,h3⟩:=hin
 have h3:us2=[]:=h3
 have h2:=str_in h2
 subst h2 h3
 have h1:Rd M (.sl .str) xs [u]:=h1
 rcases h1 with ⟨h,_⟩|⟨b,o,cap,e,hc,l,hl,hn,hr⟩
 ·have h:xs=[]:=h
  subst h;exact absurd p0 (by decide)
 simp only[List.cons.injEq,and_true] at e
 subst e
 have hr:=rdl_str hr
 have hn:o+xs.length*1<=l.length:=hn
 rw[Nat.mul_one] at hn
 have hr:(l.drop o).take (xs.length*1)=xs.map Value.string:=hr
 rw[Nat.mul_one] at hr
 have hne:l≠[]:=by intro e;rw[e,List.length_nil] at hn;omega
 obtain⟨el,fr,hh⟩:=memOf_inv (hM _ _ (hl hne))
 rw[objOf_cells hne] at hh
 have hb:b<w.heap.size:=by
  rcases Nat.lt_or_ge b w.heap.size with h'|h'
  ·exact h'
  ·rw[Array.getElem?_eq_none h'] at hh;cases hh
 refine .inl ⟨ent_join.2 _ _,(Any.strings_Join Tryz.lays156 Tryz.Builder_Extra_156 b o cap xs sep w ?_ hb (by omega) hc p2).mono ?_⟩
 ·intro j x hj
  have hjl:j<xs.length:=by
   rcases Nat.lt_or_ge j xs.length with h'|h'
   ·exact h'
   ·rw[List.getElem?_eq_none h'] at hj;cases hj
  have:=congrArg (fun q:List Value=>q[j]?) hr
  simp only[List.getElem?_take,List.getElem?_drop,List.getElem?_map,hj,if_pos hjl,Option.map_some] at this
  simp only[World.cell?,hh]
  simpa using this
 ·rintro e w' ⟨rfl,hw⟩
  refine⟨_,rfl,[.string (jnO xs sep)],none,?_,⟨_,[],rfl,rfl,rfl⟩,hw⟩
  show Value.string _=Value.string (jnO xs sep)
  rw[jnO,opq_eq];rfl
def spJoin:Nat × Eng.Spec:=(50,fnSpec [.sl .str,.str] [.val .str] preJoin (fun (xs,sep,_)=>(jnO xs sep,())))
end
end Go.Proofs.YteldhmehjkhanaaGreatDoor.qry
namespace Go.Proofs.YteldhmehjkhanaaGreatDoor.qry
noncomputable section
open Go Go.Eng Go.RowKit Cr Go.Qry
theorem cnt_wds (s:ByteArray):((wds s).length:Int)=cntO s+1:=by
 rw[wds,List.length_map,pcs_count,cntO];omega
theorem cnt_le (s:ByteArray):0<=cntO s/\cntO s<=s.size:=by
 have h:=List.count_le_length (a:=(32:UInt8)) (l:=s.data.toList)
 have e:s.data.toList.length=s.size:=Array.length_toList
 rw[cntO];omega
theorem blank_ne:decide (sBlank=⟨#[]⟩)=false:=by kernel_rfl
theorem pcs_last {l:List UInt8} (h:(pcs l).length=1):pcs l=[l]:=by
 refine pcs_no l fun c hc e=>?_
 subst e
 rw[pcs_count] at h
 have:=List.count_pos_iff.2 hc
 omega
theorem gs_min (s:ByteArray) (hs:s.size<=1048576):(if IntKind.i64.wrap ((s.size:Int)+1)<IntKind.i64.wrap (cntO s+1) then IntKind.i64.wrap ((s.size:Int)+1) else IntKind.i64.wrap (cntO s+1))=cntO s+1:=by
 obtain⟨c0,c1⟩:=cnt_le s
 rw[wrap_i64' (by omega) (by omega),wrap_i64' (by omega) (by omega)]
 split<;>omega
def gsA (s:ByteArray) (n:Int):St:=mkSt Tryz.f60.ntmps 104 [(0,.is (.one (.v (.string s)))),(1,.is (.one (.v (.string sBlank)))),(2,sI .i64 0),(3,sI .i64 n)] []
def gsB (m:Int) (L:Nat) (g:ByteArray × Int × List ByteArray):St:=mkSt Tryz.f60.ntmps 160 [(0,.is (.one (.v (.string g.1)))),(1,.is (.one (.v (.string sBlank)))),(2,sI .i64 0),(3,sI .i64 m),(9,.is (.one (.sl 112 0 0 L 1))),(10,sI .i64 g.2.1)] [(112,[.row .str L g.2.2])]
def gsJ (s:ByteArray) (L:Nat) (g:ByteArray × Int × List ByteArray):Prop:=(0<=g.2.1/\g.2.1<L)/\g.2.2.length=L/\g.1.size<=s.size/\((g.2.2.take g.2.1.toNat).map fun x=>x.data.toList)++pcs g.1.data.toList=pcs s.data.toList
def gsO (s:ByteArray) (L:Nat) (g:ByteArray × Int × List ByteArray):Prop:=gsJ s L g/\pcs g.1.data.toList=[g.1.data.toList]
theorem take_set1 {α:Type}:∀ (ys:List α) (i:Nat) (x:α),i<ys.length->(ys.set i x).take (i+1)=ys.take i++[x]
 | [],_,_,h=>absurd h (by simp)
 | y::ys,0,x,_=>by simp
 | y::ys,i+1,x,h=>by
  have:=take_set1 ys i x (by simpa using h)
  simp[this]
theorem gs_len {s:ByteArray} {L:Nat} {g:ByteArray × Int × List ByteArray} (hJ:gsJ s L g) (hL:(L:Int)=cntO s+1):g.2.1.toNat+(pcs g.1.data.toList).length=L:=by
 obtain⟨⟨i0,i1⟩,hyl,hsz,hpc⟩:=hJ
 have h:=congrArg List.length hpc
 rw[List.length_append,List.length_map,List.length_take,hyl,pcs_count s.data.toList] at h
 rw[cntO] at hL
 omega
theorem gs_step {s cur:ByteArray} {i:Int} {ys:List ByteArray} {L q:Nat} (hJ:gsJ s L (cur,i,ys)) (hq:q<cur.data.toList.length) (hno:∀ c∈cur.data.toList.take q,c≠32) (hc:cur.data.toList.getD q 0=32) (hi:i+1<L) :
  gsJ s L (cur.extract (q+1) cur.size,i+1,ys.set i.toNat (cur.extract 0 q)):=by
 obtain⟨⟨i0,i1⟩,hyl,hsz,hpc⟩:=hJ
 have i0:0<=i:=i0
 have i1:i<L:=i1
 have hyl:ys.length=L:=hyl
 have hcs:cur.data.toList.length=cur.size:=Array.length_toList
 have e1:(cur.extract (q+1) cur.size).data.toList=cur.data.toList.drop (q+1):=by
  rw[ext_list,List.take_of_length_le]
  rw[List.length_drop];omega
 have e2:(cur.extract 0 q).data.toList=cur.data.toList.take q:=by
  rw[ext_list,List.drop_zero,Nat.sub_zero]
 refine⟨⟨by show 0<=i+1;omega,by show i+1<(L:Int);omega⟩,by show (ys.set _ _).length=L;rw[List.length_set];exact hyl,?_,?_⟩
 ·show (cur.extract (q+1) cur.size).size<=s.size
  have h3:(cur.extract (q+1) cur.size).data.toList.length=(cur.extract (q+1) cur.size).size:=Array.length_toList
  rw[e1,List.length_drop] at h3
  have hsz:cur.size<=s.size:=hsz
  omega
 ·show ((ys.set i.toNat (cur.extract 0 q)).take (i+1).toNat).map (fun x=>x.data.toList)++pcs (cur.extract (q+1) cur.size).data.toList=pcs s.data.toList
  have hpc:(ys.take i.toNat).map (fun x=>x.data.toList)++pcs cur.data.toList=pcs s.data.toList:=hpc
  rw[show (i+1).toNat=i.toNat+1 by omega,take_set1 ys i.toNat _ (by omega),List.map_append,e1,List.map_cons,List.map_nil,e2,<- hpc,pcs_step hq hno hc,List.append_assoc]
  rfl
theorem gs_out {s cur:ByteArray} {i:Int} {ys:List ByteArray} {L:Nat} (hJ:gsO s L (cur,i,ys)):(ys.set i.toNat cur).take (i.toNat+1)=wds s:=by
 obtain⟨⟨⟨i0,i1⟩,hyl,hsz,hpc⟩,hl⟩:=hJ
 have i0:0<=i:=i0
 have i1:i<L:=i1
 have hyl:ys.length=L:=hyl
 have hpc:(ys.take i.toNat).map (fun x=>x.data.toList)++pcs cur.data.toList=pcs s.data.toList:=hpc
 have hl:pcs cur.data.toList=[cur.data.toList]:=hl
 refine wds_of ?_
 rw[take_set1 ys i.toNat cur (by omega),List.map_append,List.map_cons,List.map_nil,<- hpc,hl]
theorem ent_gen:enters Tryz.prog 60 Tryz.f60:=ek
theorem fn_gen:FnOk Tryz.prog 60 [.str,.str,iK,iK] [.own .str] noG (fun (s,p,k,n,_)=>(p=sBlank/\(k:Int)=0/\(n:Int)=-1)/\ByteArray.size s<=1048576) (fun (s,_)=>(wds s,())):=by
 have hsp:SpecsOk Tryz.prog (sps [spCount,spIndex]):=spk (fok fn_count) (spk (fok fn_index) snl)
 refine fn_of_tr (sp:=sps [spCount,spIndex]) ent_gen (by decide) (by decide) (by kernel_rfl) ?_
 rintro w M0 ⟨s,p,k,n,⟨⟩⟩
 revert s p k n
 intro (s:ByteArray) (p:ByteArray) (k:Int) (n:Int) _ hp
 obtain⟨⟨rfl,rfl,rfl⟩,hs⟩:=hp
 show Tr _ _ _ _ _ _ _
 obtain⟨c0,c1⟩:=cnt_le s
 have hcw:=cnt_wds s
 refine tr_cutF hsp mixed 8 (fun σ=>rdS iK 3 σ) (gsA s) (fun n=>n=cntO s+1) ?_ ?_
 ·refine vcx (X:=((((-1:Int)==(0:Int))=true->([],())=(wds s,()))/\(((-1:Int)==(0:Int))=false->(decide (sBlank=(ByteArray.mk (#[] )))=true->False)/\(decide (sBlank=(ByteArray.mk (#[] )))=false->(decide ((-1:Int)<(0:Int))=true->sBlank=sBlank/\(gsA s (if IntKind.i64.wrap ((↑s.size:Int)+(1:Int))<IntKind.i64.wrap ((cntO s,()).fst+(1:Int)) then IntKind.i64.wrap ((↑s.size:Int)+(1:Int)) else IntKind.i64.wrap ((cntO s,()).fst+(1:Int)))).triv ((if IntKind.i64.wrap ((↑s.size:Int)+(1:Int))<IntKind.i64.wrap (cntO s+(1:Int)) then IntKind.i64.wrap ((↑s.size:Int)+(1:Int)) else IntKind.i64.wrap (cntO s+(1:Int)))=cntO s+(1:Car iK)))/\(decide ((-1:Int)<(0:Int))=false->(gsA s (if IntKind.i64.wrap ((↑s.size:Int)+(1:Int))<(-1:Int) then IntKind.i64.wrap ((↑s.size:Int)+(1:Int)) else (-1:Int))).triv ((if IntKind.i64.wrap ((↑s.size:Int)+(1:Int))<(-1:Int) then IntKind.i64.wrap ((↑s.size:Int)+(1:Int)) else (-1:Int))=cntO s+(1:Car iK))))))) (by kernel_rfl) ?_
  refine⟨fun h=>absurd h (by decide),fun _=>⟨fun h=>absurd (h.symm.trans blank_ne) (by decide),fun _=>⟨fun _=>⟨rfl,tvi (gs_min s hs)⟩,fun h=>absurd (show (-1:Int)<0 by omega) (of_decide_eq_false h)⟩⟩⟩
 intro (n:Int) hn
 have hn:n=cntO s+1:=hn
 refine tr_cutF hsp mixed 3 (fun σ=>(rdS iK 3 σ,rdL 9 σ,rdR .str 112 σ)) (fun g=>gsB g.1 g.2.1 (s,0,g.2.2)) (fun g=>g.1=n-1/\(g.2.1:Int)=n/\List.length g.2.2=g.2.1) ?_ ?_
 ·refine vcx (X:=(((0:Int)<=n/\n<=n/\(↑(16:Nat):Int)*n<=(281474976710656:Int)/\n<=(9223372036854775807:Int))/\(gsB (IntKind.i64.wrap (n-(1:Int)),n.toNat,List.replicate n.toNat ByteArray.empty).fst (IntKind.i64.wrap (n-(1:Int)),n.toNat,List.replicate n.toNat ByteArray.empty).snd.fst (s,(0:Int),(IntKind.i64.wrap (n-(1:Int)),n.toNat,List.replicate n.toNat ByteArray.empty).snd.snd)).triv (IntKind.i64.wrap (n-(1:Int))=n-(1:Car iK)/\(↑n.toNat:Int)=n/\(List.replicate n.toNat ByteArray.empty).length=n.toNat))) (by kernel_rfl) ?_
  refine⟨⟨by omega,Int.le_refl _,by omega,by omega⟩,tvi ⟨wrap_i64' (by omega) (by omega),by omega,List.length_replicate⟩⟩
 rintro⟨m,L,xs⟩ ⟨hm,hL,hxl⟩
 revert m xs
 intro (m:Int) (xs:List ByteArray) (hm:m=n-1) hL (hxl:xs.length=L)
 have hL:(L:Int)=n:=hL
 have hsz:s.data.toList.length=s.size:=Array.length_toList
 refine tr_while hsp mixed (fun σ=>[]) (fun σ=>(rdS .str 0 σ,rdS iK 10 σ,rdR .str 112 σ)) (gsB m L) (gsJ s L) (fun g=>L-g.2.1.toNat)
  (fun σ=>(rdS .str 0 σ,rdS iK 10 σ,rdR .str 112 σ)) (gsB m L) (gsO s L) (s,0,xs) (c:=nthC (codeOf Tryz.f60) 11) (by kernel_rfl) (by kernel_rfl) (le_of_proj (by kernel_rfl) (by kernel_rfl) ?_) ?_ ?_
 ·exact⟨⟨Int.le_refl _,by show (0:Int)<L;omega⟩,hxl,Nat.le_refl _,rfl⟩
 ·rintro⟨cur,i,ys⟩ hj
  revert cur i ys
  intro (cur:ByteArray) (i:Int) (ys:List ByteArray) hj
  refine vcx (X:=((decide (i<m)=true->sBlank=sBlank/\(decide (ixO cur<(0:Int))=true->(gsB m L (cur,i,ys)).triv (gsO s L (cur,i,ys)))/\(decide (ixO cur<(0:Int))=false->((0:Int)<=IntKind.i64.wrap (ixO cur+(0:Int))/\IntKind.i64.wrap (ixO cur+(0:Int))<=(↑cur.size:Int))/\((0:Int)<=i/\i<(↑L:Int))/\i.toNat<L/\((0:Int)<=IntKind.i64.wrap (ixO cur+(↑sBlank.size:Int))/\IntKind.i64.wrap (ixO cur+(↑sBlank.size:Int))<=(↑cur.size:Int))/\(gsB m L (cur.extract (IntKind.i64.wrap ((ixO cur,()).fst+(↑sBlank.size:Int))).toNat (↑cur.size:Int).toNat,IntKind.i64.wrap (i+(1:Int)),ys.set i.toNat (cur.extract (0:Nat) (IntKind.i64.wrap ((ixO cur,()).fst+(0:Int))).toNat))).triv (gsJ s L (cur.extract (IntKind.i64.wrap (ixO cur+(↑sBlank.size:Int))).toNat (↑cur.size:Int).toNat,IntKind.i64.wrap (i+(1:Int)),ys.set i.toNat (cur.extract (0:Nat) (IntKind.i64.wrap (ixO cur+(0:Int))).toNat))/\L-(IntKind.i64.wrap (i+(1:Int))).toNat<L-i.toNat)))/\(decide (i<m)=false->(gsB m L (cur,i,ys)).triv (gsO s L (cur,i,ys))))) (by kernel_rfl) ?_
  have hJ:=hj
  obtain⟨⟨i0,i1⟩,hyl,hcz,hpc⟩:=hj
  have i0:0<=i:=i0
  have i1:i<L:=i1
  have hcz:cur.size<=s.size:=hcz
  have hcs:cur.data.toList.length=cur.size:=Array.length_toList
  have hlen:i.toNat+(pcs cur.data.toList).length=L:=gs_len hJ (by omega)
  have hb:(sBlank.size:Int)=1:=rfl
  refine⟨fun hlt=>⟨rfl,fun hx=>tvi ⟨hJ,?_⟩,fun hx=>?_⟩,fun hge=>tvi ⟨hJ,?_⟩⟩
  ·have hx:=of_decide_eq_true hx
   rcases ix_spec cur.data.toList with ⟨_,h⟩|⟨q,h,_⟩
   ·exact pcs_no _ h
   ·rw[ixO,h] at hx;omega
  ·have hx:=of_decide_eq_false hx
   have hlt:=of_decide_eq_true hlt
   rcases ix_spec cur.data.toList with ⟨h,_⟩|⟨q,h,h1,h2,h3⟩
   ·rw[ixO,h] at hx;exact absurd (by decide) hx
   have hq:ixO cur=(q:Int):=h
   have w0:IntKind.i64.wrap ((q:Int)+0)=(q:Int):=by rw[Int.add_zero];exact wrap_i64' (by omega) (by omega)
   have w1:IntKind.i64.wrap ((q:Int)+1)=(q:Int)+1:=wrap_i64' (by omega) (by omega)
   have w2:IntKind.i64.wrap (i+1)=i+1:=wrap_i64' (by omega) (by omega)
   have t1:((q:Int)+1).toNat=q+1:=by omega
   have hp1:0<(pcs cur.data.toList).length:=List.length_pos_iff.2 (pcs_ne _)
   rw[hq,hb,w0,w1,w2]
   refine⟨⟨by omega,by omega⟩,⟨i0,by omega⟩,by omega,⟨by omega,by omega⟩,tvi ⟨?_,by omega⟩⟩
   have:=gs_step hJ h1 h2 h3 (by omega)
   rw[Int.toNat_natCast,Int.toNat_natCast,t1]
   exact this
  ·have hge:=of_decide_eq_false hge
   show pcs cur.data.toList=[cur.data.toList]
   exact pcs_last (by omega)
 ·rintro⟨cur,i,ys⟩ hj
  revert cur i ys
  intro (cur:ByteArray) (i:Int) (ys:List ByteArray) hj
  refine tr_vc hsp mixed _ _ ?_
  refine vcx (X:=(((0:Int)<=i/\i<(↑L:Int))/\i.toNat<L/\((0:Int)<=IntKind.i64.wrap (i+(1:Int))/\IntKind.i64.wrap (i+(1:Int))<=(↑L:Int))/\(0:Nat)+(IntKind.i64.wrap (i+(1:Int))-(0:Int)).toNat<=L/\(List.take (IntKind.i64.wrap (i+(1:Int))-(0:Int)).toNat (ys.set i.toNat cur),())=(wds s,()))) (by kernel_rfl) ?_
  have hO:=hj
  obtain⟨⟨⟨i0,i1⟩,hyl,hcz,hpc⟩,hlast⟩:=hj
  have i0:0<=i:=i0
  have i1:i<L:=i1
  have w2:IntKind.i64.wrap (i+1)=i+1:=wrap_i64' (by omega) (by omega)
  rw[w2,show (i+1-0).toNat=i.toNat+1 by omega,gs_out hO]
  exact⟨⟨i0,i1⟩,by omega,⟨by omega,by omega⟩,by omega,rfl⟩
def spGen:Nat × Eng.Spec:=(60,fnSpec [.str,.str,iK,iK] [.own .str] (fun (s,p,k,n,_)=>(p=sBlank/\(k:Int)=0/\(n:Int)=-1)/\ByteArray.size s<=1048576) (fun (s,_)=>(wds s,())))
theorem ent_split:enters Tryz.prog 30 Tryz.f30:=ek
theorem fn_split:FnOk Tryz.prog 30 [.str,.str] [.own .str] noG (fun (s,p,_)=>p=sBlank/\ByteArray.size s<=1048576) (fun (s,_)=>(wds s,())):=by
 refine fn_of_vc (sp:=sps [spGen]) (spk (fok fn_gen) snl) mixed ent_split (by decide) (by decide) ?_
 rintro w M0 ⟨s,p,⟨⟩⟩
 revert s p
 intro (s:ByteArray) (p:ByteArray) _ hp
 obtain⟨rfl,hs⟩:=hp
 refine vcx (X:=(((sBlank=sBlank/\(0:Int)=(0:Int)/\(-1:Int)=(-1:Int))/\s.size<=(1048576:Nat))/\(0:Nat)+(wds s).length<=(wds s).length/\(List.take (wds s).length (wds s),())=(wds s,()))) (by kernel_rfl) ?_
 exact⟨⟨⟨rfl,rfl,rfl⟩,hs⟩,by omega,by rw[List.take_length]⟩
def spSplit:Nat × Eng.Spec:=(30,fnSpec [.str,.str] [.own .str] (fun (s,p,_)=>p=sBlank/\ByteArray.size s<=1048576) (fun (s,_)=>(wds s,())))
end
end Go.Proofs.YteldhmehjkhanaaGreatDoor.qry
namespace Go.Proofs.YteldhmehjkhanaaGreatDoor.qry
noncomputable section
open Go Go.Eng Go.RowKit Cr Go.Qry
def numP (w:ByteArray):Int × Bool:=match numO (sbytes w) with
 | none=>(0,false)
 | some n=>(n,true)
theorem numP_none {w:ByteArray} (h:numO (sbytes w)=none):numP w=(0,false):=by rw[numP,h]
theorem numP_some {w:ByteArray} {n:Int} (h:numO (sbytes w)=some n):numP w=(n,true):=by rw[numP,h]
theorem size_pos {s:ByteArray} (h:¬ s=⟨#[]⟩):0<s.size:=by
 rcases Nat.eq_zero_or_pos s.size with h0|h0
 ·exact absurd (size_zero h0) h
 ·exact h0
theorem sb_drop {s:ByteArray} {k:Nat} (h:k<s.size):(sbytes s).drop k=(sbytes s).getD k 0::(sbytes s).drop (k+1):=by
 have hl:k<(sbytes s).length:=by rw[sbytes_len];exact h
 rw[List.drop_eq_getElem_cons hl,List.getD_eq_getElem?_getD,List.getElem?_eq_getElem hl]
 rfl
theorem dgw {n c:Int} (h0:0<=n) (h1:n<=10000000000000) (h2:48<=c) (h3:c<=57):IntKind.i64.wrap (IntKind.i64.wrap (10*n)+IntKind.i64.wrap (IntKind.u8.wrap (c-48)))=10*n+(c-48):=by
 have e:IntKind.u8.wrap (c-48)=c-48:=by
  have:IntKind.u8.wrap (c-48)=(c-48)%256:=by simp[IntKind.wrap,IntKind.signed,IntKind.bits]
  rw[this];omega
 rw[e,wrap_i64' (a:=10*n) (by omega) (by omega),wrap_i64' (a:=c-48) (by omega) (by omega),wrap_i64' (a:=10*n+(c-48)) (by omega) (by omega)]
def nuA (s:ByteArray):St:=mkSt Tryz.f31.ntmps 96 [(0,.is (.one (.v (.string s)))),(2,sI .i64 0),(3,.is (.one .F)),(4,sI .i64 0)] []
def nuB (s:ByteArray) (g:Int × Int):St:=mkSt Tryz.f31.ntmps 128 [(0,.is (.one (.v (.string s)))),(2,sI .i64 0),(3,.is (.one .F)),(4,sI .i64 g.1),(20,.is (.one (.sl 104 0 0 s.size 1))),(21,sI .i64 s.size),(22,sI .i64 g.2)] [(104,[.ints .u8 s.size (sbytes s)])]
def nuC (g:Int):St:=mkSt Tryz.f31.ntmps 128 [(2,sI .i64 0),(3,.is (.one .F)),(4,sI .i64 g)] []
def nuJ (s:ByteArray) (g:Int × Int):Prop:=(0<=g.2/\g.2<=s.size)/\(0<=g.1/\g.1<=1099511627776)/\numL ((sbytes s).drop g.2.toNat) g.1=numL (sbytes s) 0
theorem ent_num:enters Tryz.prog 31 Tryz.f31:=ek
theorem fn_num:FnOk Tryz.prog 31 [.str] [.val iK,.val .bool] noG (fun (s,_)=>ByteArray.size s<=1048576) (fun (s,_)=>((numP s).1,(numP s).2,())):=by
 have hsp:SpecsOk Tryz.prog (sps []):=snl
 refine fn_of_tr (sp:=sps []) ent_num (by decide) (by decide) (by kernel_rfl) ?_
 rintro w M0 ⟨s,⟨⟩⟩
 revert s
 intro (s:ByteArray) _ (hs:s.size<=1048576)
 show Tr _ _ _ _ _ _ _
 refine tr_cut hsp mixed 4 (nuA s) (numO (sbytes s)=numL (sbytes s) 0) ?_ (fun hno=>?_)
 ·refine vcx (X:=((decide (s=(ByteArray.mk (#[] )))=true->((0:Int),false,())=((numP s).fst,(numP s).snd,()))/\(decide (s=(ByteArray.mk (#[] )))=false->((0:Int)<=(0:Int)/\(0:Int)<(↑s.size:Int))/\(((sbytes s).getD (0:Nat) (0:Int)==(48:Int))=true->(decide ((↑s.size:Int)>(1:Int))=true->((0:Int),false,())=((numP s).fst,(numP s).snd,()))/\(decide ((↑s.size:Int)>(1:Int))=false->(nuA s).triv (numO (sbytes s)=numL (sbytes s) (0:Int))))/\(((sbytes s).getD (0:Nat) (0:Int)==(48:Int))=false->(nuA s).triv (numO (sbytes s)=numL (sbytes s) (0:Int)))))) (by kernel_rfl) ?_
  have hl:=sbytes_len s
  refine⟨fun h=>?_,fun h=>?_⟩
  ·have h:=of_decide_eq_true h
   rw[numP_none (by rw[numO,if_pos (.inl (by rw[hl,h];rfl))])]
  ·have hp:=size_pos (of_decide_eq_false h)
   refine⟨⟨Int.le_refl _,by omega⟩,fun h48=>⟨fun h1=>?_,fun h1=>tvi ?_⟩,fun h48=>tvi ?_⟩
   ·rw[numP_none (by rw[numO,if_pos (.inr ⟨eq_of_beq h48,by have:=of_decide_eq_true h1;rw[hl];omega⟩)])]
   ·have:=of_decide_eq_false h1
    rw[numO,if_neg (fun h=>h.elim (fun h=>by omega) (fun h=>by omega))]
   ·rw[numO,if_neg (fun h=>h.elim (fun h=>by omega) (fun h=>by rw[h.1] at h48;cases h48))]
 refine tr_cut hsp mixed 1 (nuB s (0,0)) True ?_ (fun _=>?_)
 ·refine vcx (X:=((nuB s ((0:Int),(0:Int))).triv True)) (by kernel_rfl) ?_
  exact tvi trivial
 refine tr_while hsp mixed (fun σ=>[]) (fun σ=>(rdS iK 4 σ,rdS iK 22 σ)) (nuB s) (nuJ s) (fun g=>s.size-g.2.toNat)
  (fun σ=>rdS iK 4 σ) nuC (fun n=>numL (sbytes s) 0=some n) (0,0) (c:=nthC (codeOf Tryz.f31) 5) (by kernel_rfl) (by kernel_rfl) (le_of_proj (by kernel_rfl) (by kernel_rfl) ?_) ?_ ?_
 ·exact⟨⟨Int.le_refl _,by show (0:Int)<=(s.size:Int);omega⟩,⟨Int.le_refl _,by show (0:Int)<=1099511627776;omega⟩,rfl⟩
 ·rintro⟨n,k⟩ hj
  revert n k
  intro (n:Int) (k:Int) hj
  refine vcx (X:=((decide (k<(↑s.size:Int))=true->((0:Int)<=k/\k<(↑s.size:Int))/\k.toNat<s.size/\(decide ((sbytes s).getD k.toNat (0:Int)<(48:Int))=true->((0:Int),false,())=((numP s).fst,(numP s).snd,()))/\(decide ((sbytes s).getD k.toNat (0:Int)<(48:Int))=false->(decide ((sbytes s).getD k.toNat (0:Int)>(57:Int))=true->((0:Int),false,())=((numP s).fst,(numP s).snd,()))/\(decide ((sbytes s).getD k.toNat (0:Int)>(57:Int))=false->(decide (IntKind.i64.wrap (IntKind.i64.wrap ((10:Int)*n)+IntKind.i64.wrap (IntKind.u8.wrap ((sbytes s).getD k.toNat (0:Int)-(48:Int))))>(1099511627776:Int))=true->((0:Int),false,())=((numP s).fst,(numP s).snd,()))/\(decide (IntKind.i64.wrap (IntKind.i64.wrap ((10:Int)*n)+IntKind.i64.wrap (IntKind.u8.wrap ((sbytes s).getD k.toNat (0:Int)-(48:Int))))>(1099511627776:Int))=false->(nuB s (IntKind.i64.wrap (IntKind.i64.wrap ((10:Int)*n)+IntKind.i64.wrap (IntKind.u8.wrap ((sbytes s).getD k.toNat (0:Int)-(48:Int)))),IntKind.i64.wrap (k+(1:Int)))).triv (nuJ s (IntKind.i64.wrap (IntKind.i64.wrap ((10:Int)*n)+IntKind.i64.wrap (IntKind.u8.wrap ((sbytes s).getD k.toNat (0:Int)-(48:Int)))),IntKind.i64.wrap (k+(1:Int)))/\s.size-(IntKind.i64.wrap (k+(1:Int))).toNat<s.size-k.toNat)))))/\(decide (k<(↑s.size:Int))=false->(nuC n).triv (numL (sbytes s) (0:Int)=some n)))) (by kernel_rfl) ?_
  obtain⟨⟨k0,k1⟩,⟨n0,n1⟩,hnl⟩:=hj
  have k0:0<=k:=k0
  have k1:k<=s.size:=k1
  have n0:0<=n:=n0
  have n1:n<=1099511627776:=n1
  have hnl:numL ((sbytes s).drop k.toNat) n=numL (sbytes s) 0:=hnl
  refine⟨fun hk=>?_,fun hk=>tvi ?_⟩
  ·have hk:=of_decide_eq_true hk
   have hkn:k.toNat<s.size:=by omega
   rw[sb_drop hkn] at hnl
   have bad:(((sbytes s).getD k.toNat 0)<48\/((sbytes s).getD k.toNat 0)>57)\/¬ (((sbytes s).getD k.toNat 0)<48\/((sbytes s).getD k.toNat 0)>57)/\10*n+(((sbytes s).getD k.toNat 0)-48)>1099511627776->((0:Int),false,())=((numP s).1,(numP s).2,()):=by
    intro h
    have:numL (((sbytes s).getD k.toNat 0)::(sbytes s).drop (k.toNat+1)) n=none:=by
     rw[numL]
     rcases h with h|⟨h,h'⟩
     ·rw[if_pos h]
     ·rw[if_neg h,if_pos h']
    rw[this] at hnl
    rw[numP_none (hno.trans hnl.symm)]
   refine⟨⟨k0,hk⟩,hkn,fun h=>bad (.inl (.inl (of_decide_eq_true h))),fun h=>⟨fun h'=>bad (.inl (.inr (of_decide_eq_true h'))),fun h'=>?_⟩⟩
   have h:=of_decide_eq_false h
   have h':=of_decide_eq_false h'
   rw[dgw n0 (by omega) (by omega) (by omega),wrap_i64' (a:=k+1) (by omega) (by omega)]
   refine⟨fun hb=>bad (.inr ⟨by omega,of_decide_eq_true hb⟩),fun hb=>tvi ⟨⟨⟨by show 0<=k+1;omega,by show k+1<=(s.size:Int);omega⟩,⟨by show 0<=10*n+(((sbytes s).getD k.toNat 0)-48);omega,by show 10*n+(((sbytes s).getD k.toNat 0)-48)<=1099511627776;have:=of_decide_eq_false hb;omega⟩,?_⟩,by omega⟩⟩
   have hb:=of_decide_eq_false hb
   show numL ((sbytes s).drop (k+1).toNat) (10*n+(((sbytes s).getD k.toNat 0)-48))=_
   rw[numL,if_neg (by omega),if_neg hb] at hnl
   rw[show (k+1).toNat=k.toNat+1 by omega]
   exact hnl
  ·have hk:=of_decide_eq_false hk
   rw[<- hnl,List.drop_of_length_le (by rw[sbytes_len];omega)]
   rfl
 ·intro (n:Int) hn
  refine tr_vc hsp mixed _ _ ?_
  refine vcx (X:=((n,true,())=((numP s).fst,(numP s).snd,()))) (by kernel_rfl) ?_
  rw[numP_some (hno.trans hn)]
def spNum:Nat × Eng.Spec:=(31,fnSpec [.str] [.val iK,.val .bool] (fun (s,_)=>ByteArray.size s<=1048576) (fun (s,_)=>((numP s).1,(numP s).2,())))
end
end Go.Proofs.YteldhmehjkhanaaGreatDoor.qry
namespace Go.Proofs.YteldhmehjkhanaaGreatDoor.qry
noncomputable section
open Go Go.Eng Go.RowKit Cr Go.Qry
abbrev u8K:Kd:=.sl (.int .u8)
abbrev diskK:Kd:=.pair iK (.pair .mp (.pair iK (.pair iK .bool)))
abbrev fileK:Kd:=.pair u8K iK
abbrev linkK:Kd:=.pair iK (.arr 96 (.int .u8))
abbrev chainK:Kd:=.pair .pq (.pair (.sl linkK) .bool)
def sChain:ByteArray:=⟨#[99,104,97,105,110]⟩
def noFile:List Int × Int:=([],0)
def noBytes:List Int:=[]
def noChain:Bool × List (Int × List Int) × Bool:=(true,[],false)
def roomO (r:Int):Int:=if 4194304<(if 0>r then 0 else r) then 4194304 else (if 0>r then 0 else r)
theorem ent_dnew:enters Tryz.prog 9 Tryz.f9:=ek
theorem fn_dnew:FnOk Tryz.prog 9 [iK] [.box diskK] noG (fun _=>True) (fun (r,_)=>((roomO r,(),0,0,false),())):=by
 refine fn_of_vc (sp:=sps []) snl mixed ent_dnew (by decide) (by decide) ?_
 rintro w M0 ⟨r,⟨⟩⟩
 revert r
 intro (r:Int) _ _
 refine vcx (X:=(((if (4194304:Int)<if (0:Int)>r then (0:Int) else r then (4194304:Int) else if (0:Int)>r then (0:Int) else r,(),(0:Int),(0:Int),false),())=((roomO r,(),(0:Int),(0:Int),false),()))) (by kernel_rfl) ?_
 rfl
def spDnew:Nat × Eng.Spec:=(9,fnSpec [iK] [.box diskK] (fun _=>True) (fun (r,_)=>((roomO r,(),0,0,false),())))
theorem ri_rng (k:Nat) (h:k<5):97<=(sbytes sChain).getD k 0/\(sbytes sChain).getD k 0<=122:=by
 have:∀ k:Fin 5,97<=(sbytes sChain).getD k.val 0/\(sbytes sChain).getD k.val 0<=122:=by decide
 exact this ⟨k,h⟩
def riI (k:Int):St:=mkSt Tryz.f82.ntmps 80 [(0,.is (.one (.v (.string sChain)))),(14,sI .i64 5),(15,sI .i64 k)] []
theorem ent_right:enters Tryz.prog 82 Tryz.f82:=ek
theorem fn_right:FnOk Tryz.prog 82 [.str] [.val .bool] noG (fun (s,_)=>s=sChain) (fun _=>(true,())):=by
 have hsp:SpecsOk Tryz.prog (sps []):=snl
 refine fn_of_tr (sp:=sps []) ent_right (by decide) (by decide) (by kernel_rfl) ?_
 rintro w M0 ⟨s,⟨⟩⟩
 revert s
 intro (s:ByteArray) _ (hs:s=sChain)
 subst hs
 show Tr _ _ _ _ _ _ _
 refine tr_cut hsp mixed 4 (riI 0) True ?_ (fun _=>?_)
 ·refine vcx (X:=((decide ((↑sChain.size:Int)<(1:Int))=true->(false,())=(true,()))/\(decide ((↑sChain.size:Int)<(1:Int))=false->(decide ((↑sChain.size:Int)>(24:Int))=true->(false,())=(true,()))/\(decide ((↑sChain.size:Int)>(24:Int))=false->(riI (0:Int)).triv True)))) (by kernel_rfl) ?_
  have hz:(sChain.size:Int)=5:=rfl
  rw[hz]
  exact⟨fun h=>absurd (of_decide_eq_true h) (by omega),fun _=>⟨fun h=>absurd (of_decide_eq_true h) (by omega),fun _=>tvi trivial⟩⟩
 refine tr_while hsp mixed (fun σ=>[]) (fun σ=>rdS iK 15 σ) riI (fun k=>0<=k/\k<=5) (fun k=>5-k.toNat)
  (fun σ=>rdS iK 15 σ) riI (fun _=>True) 0 (c:=nthC (codeOf Tryz.f82) 4) (by kernel_rfl) (by kernel_rfl) (le_of_proj (by kernel_rfl) (by kernel_rfl) ?_) ?_ ?_
 ·exact⟨Int.le_refl _,by show (0:Int)<=5;omega⟩
 ·intro (k:Int) ⟨k0,k5⟩
  refine vcx (X:=((decide (k<(5:Int))=true->((0:Int)<=k/\k<(↑sChain.size:Int))/\(decide ((sbytes sChain).getD k.toNat (0:Int)>=(97:Int))=true->(decide ((sbytes sChain).getD k.toNat (0:Int)<=(122:Int))=true->(riI (IntKind.i64.wrap (k+(1:Int)))).triv (((0:Car iK)<=IntKind.i64.wrap (k+(1:Int))/\IntKind.i64.wrap (k+(1:Int))<=(5:Car iK))/\(5:Nat)-(IntKind.i64.wrap (k+(1:Int))).toNat<(5:Nat)-k.toNat))/\(decide ((sbytes sChain).getD k.toNat (0:Int)<=(122:Int))=false->(decide ((sbytes sChain).getD k.toNat (0:Int)>=(48:Int))=true->(decide ((sbytes sChain).getD k.toNat (0:Int)<=(57:Int))=true->(riI (IntKind.i64.wrap (k+(1:Int)))).triv (((0:Car iK)<=IntKind.i64.wrap (k+(1:Int))/\IntKind.i64.wrap (k+(1:Int))<=(5:Car iK))/\(5:Nat)-(IntKind.i64.wrap (k+(1:Int))).toNat<(5:Nat)-k.toNat))/\(decide ((sbytes sChain).getD k.toNat (0:Int)<=(57:Int))=false->((!(sbytes sChain).getD k.toNat (0:Int)==(45:Int))=true->(false,())=(true,()))/\((!(sbytes sChain).getD k.toNat (0:Int)==(45:Int))=false->(riI (IntKind.i64.wrap (k+(1:Int)))).triv (((0:Car iK)<=IntKind.i64.wrap (k+(1:Int))/\IntKind.i64.wrap (k+(1:Int))<=(5:Car iK))/\(5:Nat)-(IntKind.i64.wrap (k+(1:Int))).toNat<(5:Nat)-k.toNat))))/\(decide ((sbytes sChain).getD k.toNat (0:Int)>=(48:Int))=false->((!(sbytes sChain).getD k.toNat (0:Int)==(45:Int))=true->(false,())=(true,()))/\((!(sbytes sChain).getD k.toNat (0:Int)==(45:Int))=false->(riI (IntKind.i64.wrap (k+(1:Int)))).triv (((0:Car iK)<=IntKind.i64.wrap (k+(1:Int))/\IntKind.i64.wrap (k+(1:Int))<=(5:Car iK))/\(5:Nat)-(IntKind.i64.wrap (k+(1:Int))).toNat<(5:Nat)-k.toNat)))))/\(decide ((sbytes sChain).getD k.toNat (0:Int)>=(97:Int))=false->(decide ((sbytes sChain).getD k.toNat (0:Int)>=(48:Int))=true->(decide ((sbytes sChain).getD k.toNat (0:Int)<=(57:Int))=true->(riI (IntKind.i64.wrap (k+(1:Int)))).triv (((0:Car iK)<=IntKind.i64.wrap (k+(1:Int))/\IntKind.i64.wrap (k+(1:Int))<=(5:Car iK))/\(5:Nat)-(IntKind.i64.wrap (k+(1:Int))).toNat<(5:Nat)-k.toNat))/\(decide ((sbytes sChain).getD k.toNat (0:Int)<=(57:Int))=false->((!(sbytes sChain).getD k.toNat (0:Int)==(45:Int))=true->(false,())=(true,()))/\((!(sbytes sChain).getD k.toNat (0:Int)==(45:Int))=false->(riI (IntKind.i64.wrap (k+(1:Int)))).triv (((0:Car iK)<=IntKind.i64.wrap (k+(1:Int))/\IntKind.i64.wrap (k+(1:Int))<=(5:Car iK))/\(5:Nat)-(IntKind.i64.wrap (k+(1:Int))).toNat<(5:Nat)-k.toNat))))/\(decide ((sbytes sChain).getD k.toNat (0:Int)>=(48:Int))=false->((!(sbytes sChain).getD k.toNat (0:Int)==(45:Int))=true->(false,())=(true,()))/\((!(sbytes sChain).getD k.toNat (0:Int)==(45:Int))=false->(riI (IntKind.i64.wrap (k+(1:Int)))).triv (((0:Car iK)<=IntKind.i64.wrap (k+(1:Int))/\IntKind.i64.wrap (k+(1:Int))<=(5:Car iK))/\(5:Nat)-(IntKind.i64.wrap (k+(1:Int))).toNat<(5:Nat)-k.toNat)))))/\(decide (k<(5:Int))=false->(riI k).triv True))) (by kernel_rfl) ?_
  have k0:0<=k:=k0
  have k5:k<=5:=k5
  have hz:(sChain.size:Int)=5:=rfl
  rw[hz]
  refine⟨fun hk=>?_,fun _=>tvi trivial⟩
  have hk:=of_decide_eq_true hk
  have hc:97<=(sbytes sChain).getD k.toNat 0/\(sbytes sChain).getD k.toNat 0<=122:=ri_rng k.toNat (by omega)
  have w1:IntKind.i64.wrap (k+1)=k+1:=wrap_i64' (by omega) (by omega)
  rw[w1]
  exact⟨⟨k0,hk⟩,fun _=>⟨fun _=>tvi ⟨⟨by show 0<=k+1;omega,by show k+1<=5;omega⟩,by omega⟩,fun h=>absurd hc.2 (of_decide_eq_false h)⟩,fun h=>absurd hc.1 (of_decide_eq_false h)⟩
 ·intro (k:Int) _
  refine tr_vc hsp mixed _ _ ?_
  refine vcx (X:=((true,())=(true,()))) (by kernel_rfl) ?_
  rfl
def spRight:Nat × Eng.Spec:=(82,fnSpec [.str] [.val .bool] (fun (s,_)=>s=sChain) (fun _=>(true,())))
abbrev preDisk:HL [.ptr diskK,.str]->Prop:=fun ((_,_,_,_,d),s,_)=>(d:Bool)=false/\s=sChain
theorem ent_find:enters Tryz.prog 54 Tryz.f54:=ek
theorem fn_find:FnOk Tryz.prog 54 [.ptr diskK,.str] [.val fileK,.val iK] noG preDisk (fun _=>(noFile,41,())):=by
 refine fn_of_vc (sp:=sps [spRight]) (spk (fok fn_right) snl) mixed ent_find (by decide) (by decide) ?_
 rintro w M0 ⟨⟨r,mm,st,fu,d⟩,s,⟨⟩⟩
 revert r mm st fu d s
 intro (r:Int) (mm:Unit) (st:Int) (fu:Int) (d:Bool) (s:ByteArray) _ hp
 obtain⟨hd,hs⟩:=hp
 have hd:d=false:=hd
 have hs:s=sChain:=hs
 subst hd hs
 refine vcx (X:=((0:Nat)<[(r,mm,st,fu,false)].length/\(false=true->(([],(0:Int)),(2:Int),())=(noFile,(41:Int),()))/\(false=false->sChain=sChain/\((!true)=true->(([],(0:Int)),(40:Int),())=(noFile,(41:Int),()))/\((!true)=false->(0:Nat)<[(r,mm,st,fu,false)].length/\(([],(0:Int)),(41:Int),())=(noFile,(41:Int),()))))) (by kernel_rfl) ?_
 exact⟨Nat.zero_lt_one,fun h=>(nomatch h),fun _=>⟨rfl,fun h=>(nomatch h),fun _=>⟨Nat.zero_lt_one,rfl⟩⟩⟩
def spFind:Nat × Eng.Spec:=(54,fnSpec [.ptr diskK,.str] [.val fileK,.val iK] preDisk (fun _=>(noFile,41,())))
theorem ent_dread:enters Tryz.prog 26 Tryz.f26:=ek
theorem fn_dread:FnOk Tryz.prog 26 [.ptr diskK,.str] [.val u8K,.val iK] noG preDisk (fun _=>(noBytes,41,())):=by
 refine fn_of_vc (sp:=sps [spFind]) (spk (fok fn_find) snl) mixed ent_dread (by decide) (by decide) ?_
 rintro w M0 ⟨⟨r,mm,st,fu,d⟩,s,⟨⟩⟩
 revert r mm st fu d s
 intro (r:Int) (mm:Unit) (st:Int) (fu:Int) (d:Bool) (s:ByteArray) _ hp
 obtain⟨hd,hs⟩:=hp
 have hd:d=false:=hd
 have hs:s=sChain:=hs
 subst hd hs
 refine vcx (X:=(preDisk ((r,mm,st,fu,false),sChain,())/\(((41:Int) != (0:Int))=true->([],(41:Int),())=(noBytes,(41:Int),()))/\(((41:Int) != (0:Int))=false->False))) (by kernel_rfl) ?_
 exact⟨⟨rfl,rfl⟩,fun _=>rfl,fun h=>(nomatch h)⟩
def spDread:Nat × Eng.Spec:=(26,fnSpec [.ptr diskK,.str] [.val u8K,.val iK] preDisk (fun _=>(noBytes,41,())))
abbrev preOpen:HL [.ptr diskK]->Prop:=fun ((_,_,_,_,d),_)=>(d:Bool)=false
theorem ent_copen:enters Tryz.prog 8 Tryz.f8:=ek
theorem fn_copen:FnOk Tryz.prog 8 [.ptr diskK] [.box chainK,.val iK] noG preOpen (fun _=>(noChain,0,())):=by
 have hsp:SpecsOk Tryz.prog (sps [spDread]):=spk (fok fn_dread) snl
 refine fn_of_tr (sp:=sps [spDread]) ent_copen (by decide) (by decide) (by kernel_rfl) ?_
 rintro w M0 ⟨⟨r,mm,st,fu,d⟩,⟨⟩⟩
 revert r mm st fu d
 intro (r:Int) (mm:Unit) (st:Int) (fu:Int) (d:Bool) _ hp
 have hd:d=false:=hp
 subst hd
 show Tr _ _ _ _ _ _ _
 refine tr_cut hsp mixed 8 (mkSt Tryz.f8.ntmps 0 [] []) False ?_ (fun h=>h.elim)
 refine vcx (X:=(preDisk ((r,mm,st,fu,false),(ByteArray.mk (#[(99:UInt8),(104:UInt8),(97:UInt8),(105:UInt8),(110:UInt8)] )),())/\(((41:Int)==(41:Int))=true->((true,[],false),(0:Int),())=(noChain,(0:Int),()))/\(((41:Int)==(41:Int))=false->(mkSt Tryz.f8.ntmps (0:Nat) [] []).triv False))) (by kernel_rfl) ?_
 exact⟨⟨rfl,rfl⟩,fun _=>rfl,fun h=>(nomatch h)⟩
def spCopen:Nat × Eng.Spec:=(8,fnSpec [.ptr diskK] [.box chainK,.val iK] preOpen (fun _=>(noChain,0,())))
theorem ent_last:enters Tryz.prog 22 Tryz.f22:=ek
theorem fn_last:FnOk Tryz.prog 22 [.ptr chainK] [.val iK] noG (fun _=>True) (fun ((_,ls,_),_)=>(((List.length ls:Nat):Int),())):=by
 refine fn_of_vc (sp:=sps []) snl mixed ent_last (by decide) (by decide) ?_
 rintro w M0 ⟨⟨p,ls,d⟩,⟨⟩⟩
 revert p ls d
 intro (p:Bool) (ls:List (Int × List Int)) (d:Bool) _ _
 refine vcx (X:=((0:Nat)<[(p,ls,d)].length/\((↑ls.length:Int),())=((↑ls.length:Int),()))) (by kernel_rfl) ?_
 exact⟨Nat.zero_lt_one,rfl⟩
def spLast:Nat × Eng.Spec:=(22,fnSpec [.ptr chainK] [.val iK] (fun _=>True) (fun ((_,ls,_),_)=>(((List.length ls:Nat):Int),())))
abbrev preGet:HL [.ptr chainK,iK]->Prop:=fun ((_,ls,_),r,_)=>(r:Int)<1\/(r:Int)>((List.length ls:Nat):Int)
def noLink:Int × List Int:=(0,List.replicate 96 0)
theorem ent_cget:enters Tryz.prog 23 Tryz.f23:=ek
theorem fn_cget:FnOk Tryz.prog 23 [.ptr chainK,iK] [.val linkK,.val .bool] noG preGet (fun _=>(noLink,false,())):=by
 refine fn_of_vc (sp:=sps [spLast]) (spk (fok fn_last) snl) mixed ent_cget (by decide) (by decide) ?_
 rintro w M0 ⟨⟨p,ls,d⟩,r,⟨⟩⟩
 revert p ls d r
 intro (p:Bool) (ls:List (Int × List Int)) (d:Bool) (r:Int) _ hp
 have hp:r<1\/r>(ls.length:Int):=hp
 refine vcx (X:=((decide (r<(1:Int))=true->(((0:Int),[(0:Int),(0:Int),(0:Int),(0:Int),(0:Int),(0:Int),(0:Int),(0:Int),(0:Int),(0:Int),(0:Int),(0:Int),(0:Int),(0:Int),(0:Int),(0:Int),(0:Int),(0:Int),(0:Int),(0:Int),(0:Int),(0:Int),(0:Int),(0:Int),(0:Int),(0:Int),(0:Int),(0:Int),(0:Int),(0:Int),(0:Int),(0:Int),(0:Int),(0:Int),(0:Int),(0:Int),(0:Int),(0:Int),(0:Int),(0:Int),(0:Int),(0:Int),(0:Int),(0:Int),(0:Int),(0:Int),(0:Int),(0:Int),(0:Int),(0:Int),(0:Int),(0:Int),(0:Int),(0:Int),(0:Int),(0:Int),(0:Int),(0:Int),(0:Int),(0:Int),(0:Int),(0:Int),(0:Int),(0:Int),(0:Int),(0:Int),(0:Int),(0:Int),(0:Int),(0:Int),(0:Int),(0:Int),(0:Int),(0:Int),(0:Int),(0:Int),(0:Int),(0:Int),(0:Int),(0:Int),(0:Int),(0:Int),(0:Int),(0:Int),(0:Int),(0:Int),(0:Int),(0:Int),(0:Int),(0:Int),(0:Int),(0:Int),(0:Int),(0:Int),(0:Int),(0:Int)]),false,())=(noLink,false,()))/\(decide (r<(1:Int))=false->True/\(decide (r>(↑ls.length:Int))=true->(((0:Int),[(0:Int),(0:Int),(0:Int),(0:Int),(0:Int),(0:Int),(0:Int),(0:Int),(0:Int),(0:Int),(0:Int),(0:Int),(0:Int),(0:Int),(0:Int),(0:Int),(0:Int),(0:Int),(0:Int),(0:Int),(0:Int),(0:Int),(0:Int),(0:Int),(0:Int),(0:Int),(0:Int),(0:Int),(0:Int),(0:Int),(0:Int),(0:Int),(0:Int),(0:Int),(0:Int),(0:Int),(0:Int),(0:Int),(0:Int),(0:Int),(0:Int),(0:Int),(0:Int),(0:Int),(0:Int),(0:Int),(0:Int),(0:Int),(0:Int),(0:Int),(0:Int),(0:Int),(0:Int),(0:Int),(0:Int),(0:Int),(0:Int),(0:Int),(0:Int),(0:Int),(0:Int),(0:Int),(0:Int),(0:Int),(0:Int),(0:Int),(0:Int),(0:Int),(0:Int),(0:Int),(0:Int),(0:Int),(0:Int),(0:Int),(0:Int),(0:Int),(0:Int),(0:Int),(0:Int),(0:Int),(0:Int),(0:Int),(0:Int),(0:Int),(0:Int),(0:Int),(0:Int),(0:Int),(0:Int),(0:Int),(0:Int),(0:Int),(0:Int),(0:Int),(0:Int),(0:Int)]),false,())=(noLink,false,()))/\(decide (r>(↑ls.length:Int))=false->(0:Nat)<[(p,ls,d)].length/\((0:Int)<=IntKind.i64.wrap (r-(1:Int))/\IntKind.i64.wrap (r-(1:Int))<(↑ls.length:Int))/\(IntKind.i64.wrap (r-(1:Int))).toNat<ls.length/\(ls.getD (IntKind.i64.wrap (r-(1:Int))).toNat ((0:Int),List.replicate (96:Nat) (0:Int)),true,())=(noLink,false,()))))) (by kernel_rfl) ?_
 refine⟨fun _=>rfl,fun h1=>⟨trivial,fun _=>rfl,fun h2=>?_⟩⟩
 exact absurd hp (fun h=>h.elim (of_decide_eq_false h1) (of_decide_eq_false h2))
def spCget:Nat × Eng.Spec:=(23,fnSpec [.ptr chainK,iK] [.val linkK,.val .bool] preGet (fun _=>(noLink,false,())))
end
end Go.Proofs.YteldhmehjkhanaaGreatDoor.qry
namespace Go.Proofs.YteldhmehjkhanaaGreatDoor.dk
open Go Go.RowKit Go.Eng Go.ChangeMaps
set_option maxHeartbeats 1000000
open qry (sChain)
structure Kept (S:Nat->Prop) (w w':World):Prop where
 os:w'.os=w.os
 tape:w'.tape=w.tape
 output:w'.output=w.output
 size:w.heap.size<=w'.heap.size
 block:∀ k,k<w.heap.size->¬ S k->w'.heap[k]?=w.heap[k]?
abbrev noS:Nat->Prop:=fun _=>False
section
variable {S T:Nat->Prop} {w w' w2:World}
theorem Kept.refl:Kept S w w:=⟨rfl,rfl,rfl,Nat.le_refl _,fun _ _ _=>rfl⟩
theorem Kept.trans (h:Kept S w w') (g:Kept S w' w2):Kept S w w2 :=
 ⟨g.os.trans h.os,g.tape.trans h.tape,g.output.trans h.output,Nat.le_trans h.size g.size,fun k hk hs=>(g.block k (Nat.lt_of_lt_of_le hk h.size) hs).trans (h.block k hk hs)⟩
theorem Kept.mono (h:Kept S w w') (hs:∀ k,S k->T k):Kept T w w':=⟨h.os,h.tape,h.output,h.size,fun k hk hn=>h.block k hk fun q=>hn (hs k q)⟩
theorem Kept.below (h:Below w.heap.size w w'):Kept S w w':=⟨h.os,h.tape,h.output,h.size,fun k hk _=>h.block k hk⟩
theorem Kept.alloc (h:Kept S w w') (o:Obj):Kept S w (w'.alloc o):=h.trans ⟨rfl,rfl,rfl,by simp,fun k hk _=>Below.heap_alloc _ _ _ hk⟩
theorem Kept.alloc' (w:World) (o:Obj):Kept S w (w.alloc o):=Kept.refl.alloc o
theorem Kept.setCell (h:Kept S w w') {a:Addr} (ha:S a.block\/w.heap.size<=a.block) (u:Value):Kept S w (w'.setCell a u) :=
 ⟨h.os,h.tape,h.output,by simpa[World.setCell] using h.size,fun k hk hs=>by
  rw[Below.heap_setCell _ _ _ _ (fun e=>ha.elim (fun q=>hs (by rw[e];exact q)) (fun q=>by omega))];exact h.block k hk hs⟩
theorem Kept.grown {row:Option Nat} (h:Kept S w w') (hg:w'.grownBy w2 row) (hr:∀ k,row=some k->S k\/w.heap.size<=k):Kept S w w2 :=
 ⟨hg.os.trans h.os,hg.tape.trans h.tape,hg.output.trans h.output,Nat.le_trans h.size hg.size,fun k hk hs=>(hg.block k (Nat.lt_of_lt_of_le hk h.size) (fun e=>(hr k e.symm).elim hs (fun q=>by omega))).trans (h.block k hk hs)⟩
theorem Kept.then (h:Kept S w w') (g:Kept T w' w2) (hs:∀ k,T k->S k\/w.heap.size<=k):Kept S w w2 :=
 ⟨g.os.trans h.os,g.tape.trans h.tape,g.output.trans h.output,Nat.le_trans h.size g.size,fun k hk hn=>(g.block k (Nat.lt_of_lt_of_le hk h.size) (fun q=>(hs k q).elim hn (fun q=>by omega))).trans (h.block k hk hn)⟩
theorem Kept.drew (h:Kept S w w'):Kept S w w'.drew:=⟨h.os,h.tape,h.output,h.size,h.block⟩
theorem Kept.old (h:Kept S w w') {b:Nat} {o:Obj} (hb:w.heap[b]?=some o) (hs:¬ S b):w'.heap[b]?=some o:=(h.block b (lt_of_block hb) hs).trans hb
end
theorem calls_of {P:Program} {f:FuncId} {fn:Func} {us:Array Value} {w:World} {R:Value->World->Prop} (hf:enters P f fn) (h:CallOk P f us w R):Calls P f us w fun e w'=>∃ v,e=.returned v/\R v w':=by
 rcases h with ⟨_,h⟩|⟨v,w',h,_⟩
 ·exact h
 ·rw[hf.2] at h;cases h
abbrev ptr (b:Nat):Value:=.pointer (some ⟨b,0,none⟩)
abbrev i64 (x:Int):Value:=.int .i64 x
abbrev dCells (room steps:Int) (m:Nat):Array Value:=#[i64 room,.map (some m),i64 steps,i64 0,.bool false]
abbrev DiskB (w:World) (d m:Nat) (room steps:Int):Prop:=w.heap[d]?=some (.cells (dCells room steps m) 87 (0,0))
theorem right_ok (w:World):Calls Tryz.prog 82 #[.string sChain] w fun e w'=>e=.returned (.bool true)/\Below w.heap.size w w':=by
 have h:=qry.fn_right w (fun _=>none) [.string sChain] (sChain,()) (fun _ _ h=>by cases h) (fun g e x h=>by cases h) ⟨_,[],rfl,rfl,rfl⟩ rfl
 refine (calls_of qry.ent_right h).mono ?_
 rintro e w' ⟨v,rfl,vs,ob,rfl,⟨v,vs',rfl,h1,h2⟩,hb⟩
 have h2:vs'=[]:=h2
 have h1:[v]=[Value.bool true]:=h1
 simp only[List.cons.injEq,and_true] at h1
 subst h1 h2
 exact⟨rfl,hb⟩
theorem find_any (d m:Nat) (room steps:Int) (a:Option Addr) (n c:Nat) (s:Int) (there:Bool) (w:World) (hd:DiskB w d m room steps)
  (hlook:∀ w',Kept noS w w'->(Instr.lookup 85 (.map (some m)) (.string sChain) true).run Tryz.prog w'=.ok (.tuple #[.agg #[.slice a n c,i64 s],.bool there]) w') :
  Calls Tryz.prog 54 #[ptr d,.string sChain] w fun e w'=>e=.returned (.tuple #[if there then .agg #[.slice a n c,i64 s] else .agg #[.slice none 0 0,i64 0],i64 (if there then 0 else 41)])/\Kept noS w w':=by
 have c1:w.cell? ⟨d,1,none⟩=some (.map (some m)):=by rw[Lib.cell_of_heap hd];rfl
 have c4:w.cell? ⟨d,4,none⟩=some (.bool false):=by rw[Lib.cell_of_heap hd];rfl
 have hlt:=lt_of_block hd
 go_enter Tryz.func54,Tryz.ntmps54
 go_wp2_with fail
 refine (right_ok _).mono ?_
 rintro e w2 ⟨rfl,hb⟩
 have K2:Kept noS w w2:=(Kept.alloc' w _).trans (Kept.below hb)
 have hd2:=K2.old hd (fun q=>q)
 have c1:w2.cell? ⟨d,1,none⟩=some (.map (some m)):=by rw[Lib.cell_of_heap hd2];rfl
 have hl2:=hlook w2 K2
 have hk2:w2.heap[w.heap.size]?=some (.cells #[.slice none 0 0,i64 0] 117 (0,0)):=by rw[hb.block w.heap.size (by simp)];exact heap_alloc_new w _
 have e0:w2.cell? ⟨w.heap.size,0,none⟩=some (.slice none 0 0):=by rw[Lib.cell_of_heap hk2];rfl
 have e1:w2.cell? ⟨w.heap.size,1,none⟩=some (i64 0):=by rw[Lib.cell_of_heap hk2];rfl
 have f0:w2.frozen? ⟨w.heap.size,0,none⟩=false:=Lib.frozen_of_heap hk2 0
 have f1:w2.frozen? ⟨w.heap.size,1,none⟩=false:=Lib.frozen_of_heap hk2 1
 have hlt2:=lt_of_block hk2
 have hlt3:=lt_of_block hd2
 cases there
 ·go_wp2
  (try simp only[Exit.inBlock,Exit.then])
  refine bodyPost_ret (v:=_) (by rw[results_cell_tmp rfl];go_simp) rfl ⟨rfl,((K2.setCell (.inr (Nat.le_refl _)) _).setCell (.inr (Nat.le_refl _)) _).alloc _⟩
 ·go_wp2
  (try simp only[Exit.inBlock,Exit.then])
  refine bodyPost_ret (v:=_) (by rw[results_cell_tmp rfl];go_simp) rfl ⟨rfl,((K2.setCell (.inr (Nat.le_refl _)) _).setCell (.inr (Nat.le_refl _)) _).alloc _⟩
theorem step_ok (d m:Nat) (room steps:Int) (w:World) (hd:DiskB w d m room steps) :
  Calls Tryz.prog 57 #[ptr d] w fun e w'=>e=.returned (.bool true)/\(∃ s',DiskB w' d m room s')/\Kept (·=d) w w':=by
 have c3:w.cell? ⟨d,3,none⟩=some (i64 0):=by rw[Lib.cell_of_heap hd];rfl
 have c2:w.cell? ⟨d,2,none⟩=some (i64 steps):=by rw[Lib.cell_of_heap hd];rfl
 have f2:w.frozen? ⟨d,2,none⟩=false:=Lib.frozen_of_heap hd 2
 go_enter Tryz.func57,Tryz.ntmps57
 go_wp2
 go_ret
 refine⟨rfl,⟨wrap64 (steps+1),?_⟩,Kept.setCell (S:=(·=d)) (a:=⟨d,2,none⟩) Kept.refl (.inl rfl) _⟩
 rw[DiskB,heap_setCell_same _ _ _ _ _ _ hd]
 rfl
theorem Kept.setBlock {S:Nat->Prop} {w w':World} {b:Nat} (h:Kept S w w') (hb:S b\/w.heap.size<=b) (o:Obj):Kept S w (ChangeMaps.setBlock w' b o) :=
 ⟨h.os,h.tape,h.output,by simpa[ChangeMaps.setBlock] using h.size,fun k hk hs=>by
  have hne:k≠b:=fun e=>hb.elim (fun q=>hs (by rw[e];exact q)) (fun q=>by omega)
  refine Eq.trans ?_ (h.block k hk hs)
  simp[ChangeMaps.setBlock,Ne.symm hne]⟩
theorem keep_any (d m:Nat) (room steps:Int) (a:Option Addr) (n c:Nat) (s:Int) (es0 es:Array MapEntry) (k0 k:Nat) (w:World) (hd:DiskB w d m room steps) (hm:w.heap[m]?=some (.map es0 k0))
  (hup:∀ w',Kept noS w w'->(Instr.mapUpdate 85 (.map (some m)) (.string sChain) (.agg #[.slice a n c,i64 s])).run Tryz.prog w'=.ok () (ChangeMaps.setBlock w' m (.map es k))) :
  Calls Tryz.prog 58 #[ptr d,.string sChain,.agg #[.slice a n c,i64 s]] w fun e w'=>e=.returned (.tuple #[])/\w'.heap[m]?=some (.map es k)/\Kept (·=m) w w':=by
 have c1:w.cell? ⟨d,1,none⟩=some (.map (some m)):=by rw[Lib.cell_of_heap hd];rfl
 have hlt:=lt_of_block hd
 have heq:=fun w=>run_eql_map_nil (P:=Tryz.prog) w 85 9 117 (some m) Tryz.underlying85
 have K1:Kept (·=m) w (w.alloc (.cells #[.slice a n c,i64 s] 117)):=Kept.alloc' w _
 have hup1:=hup _ (Kept.alloc' w (.cells #[.slice a n c,i64 s] 117)).drew
 have hm1:=(Kept.alloc' (S:=noS) w (.cells #[.slice a n c,i64 s] 117)).old hm (fun q=>q)
 go_enter Tryz.func58,Tryz.ntmps58
 go_wp2
 go_region
 go_end0
 exact⟨rfl,heap_setBlock_same hm1 _,K1.drew.setBlock (.inl rfl) _⟩
abbrev entOf (a:Option Addr) (n c:Nat) (s:Int):MapEntry:=⟨.string sChain,.agg #[.slice a n c,i64 s],0⟩
theorem next_one (ty:TypeId) (w:World) (r m:Nat) (a:Option Addr) (n c:Nat) (s:Int) (hr:w.heap[r]?=some (.mapIter (some m) 1 #[] 1)) (hm:w.heap[m]?=some (.map #[entOf a n c s] 1)) :
  ∃ w2,(Instr.next (ptr r) false ty).run Tryz.prog w=.ok (.tuple #[.bool true,.string sChain,.agg #[.slice a n c,i64 s]]) w2/\w2.heap[r]?=some (.mapIter (some m) 1 #[0] 1)/\Kept (·=r) w w2:=by
 have hl:leftOf #[entOf a n c s] #[]=#[entOf a n c s]:=by simp[leftOf]
 rcases run_next_at (P:=Tryz.prog) w ty r m 1 1 #[] #[entOf a n c s] 1 hr hm (by simp) (by simp) with ⟨h,_⟩|⟨e,he,w1,hw,h⟩
 ·rw[hl] at h;cases h
 ·rw[hl] at he
  have he:e=entOf a n c s:=by simpa using he
  subst he
  have K1:Kept (·=r) w w1:=hw.elim (fun e=>by rw[e];exact Kept.refl) (fun e=>by rw[e];exact Kept.drew Kept.refl)
  have hr1:w1.heap[r]?=some (.mapIter (some m) 1 #[] 1):=by rcases hw with rfl|rfl<;>exact hr
  refine⟨_,h,?_,K1.setBlock (.inl rfl) _⟩
  show (w1.heap.setIfInBounds r _)[r]?=_
  rw[Array.getElem?_setIfInBounds_self_of_lt (lt_of_block hr1)];rfl
theorem next_none (ty:TypeId) (w:World) (r m:Nat) (a:Option Addr) (n c:Nat) (s:Int) (hr:w.heap[r]?=some (.mapIter (some m) 1 #[0] 1)) (hm:w.heap[m]?=some (.map #[entOf a n c s] 1)) :
  (Instr.next (ptr r) false ty).run Tryz.prog w=.ok (.tuple #[.bool false]) w:=by
 have hl:leftOf #[entOf a n c s] #[0]=#[]:=by simp[leftOf]
 rcases run_next_at (P:=Tryz.prog) w ty r m 1 1 #[0] #[entOf a n c s] 1 hr hm (by simp) (by simp) with ⟨_,h⟩|⟨e,he,_⟩
 ·exact h
 ·rw[hl] at he;simp at he
theorem free_one (d m:Nat) (room steps:Int) (a:Option Addr) (n c:Nat) (s:Int) (w:World) (hd:DiskB w d m room steps) (hm:w.heap[m]?=some (.map #[entOf a n c s] 1)) :
  Calls Tryz.prog 59 #[ptr d] w fun e w'=>e=.returned (i64 (wrap64 (room-s)))/\Kept noS w w':=by
 have c0:w.cell? ⟨d,0,none⟩=some (i64 room):=by rw[Lib.cell_of_heap hd];rfl
 have c1:w.cell? ⟨d,1,none⟩=some (.map (some m)):=by rw[Lib.cell_of_heap hd];rfl
 have hlt:=lt_of_block hd
 have hltm:=lt_of_block hm
 have hrg:=run_range_map (P:=Tryz.prog) w 85 9 117 m #[entOf a n c s] 1 Tryz.underlying85 hm
 go_enter Tryz.func59,Tryz.ntmps59
 go_wp2
 have K1:Kept noS w (w.alloc (.mapIter (some m) 1 #[] 1)):=Kept.alloc' w _
 have hr1:(w.alloc (.mapIter (some m) 1 #[] 1)).heap[w.heap.size]?=some (.mapIter (some m) 1 #[] 1):=heap_alloc_new w _
 have hm1:=K1.old hm (fun q=>q)
 obtain⟨w2,hx2,hr2,K2⟩:=next_one 0 (w.alloc (.mapIter (some m) 1 #[] 1)) w.heap.size m a n c s hr1 hm1
 have hm2:w2.heap[m]?=some (.map #[entOf a n c s] 1):=K2.old hm1 (by omega)
 have he2:=run_entry_at (P:=Tryz.prog) w2 w.heap.size m 1 #[] #[entOf a n c s] 1 (entOf a n c s) hr2 hm2 (by simp) (by simp)
 have K3:Kept (·=w.heap.size) w2 (w2.alloc (.cells #[.slice a n c,i64 s] 117)):=Kept.alloc' w2 _
 have hr3:(w2.alloc (.cells #[.slice a n c,i64 s] 117)).heap[w.heap.size]?=some (.mapIter (some m) 1 #[0] 1):=(Kept.alloc' (S:=noS) w2 _).old hr2 (fun q=>q)
 have hm3:(w2.alloc (.cells #[.slice a n c,i64 s] 117)).heap[m]?=some (.map #[entOf a n c s] 1):=K3.old hm2 (by omega)
 have hx3:=next_none 0 (w2.alloc (.cells #[.slice a n c,i64 s] 117)) w.heap.size m a n c s hr3 hm3
 have KK:Kept noS w (w2.alloc (.cells #[.slice a n c,i64 s] 117)):=K1.then (K2.trans K3) (fun k hk=>.inr (by omega))
 go_rounds 2
 go_ret
 exact⟨rfl,KK⟩
end Go.Proofs.YteldhmehjkhanaaGreatDoor.dk
namespace Go.Proofs.YteldhmehjkhanaaGreatDoor.dk
open Go Go.RowKit Go.Eng Go.ChangeMaps
set_option maxHeartbeats 1000000
open qry (sChain)
theorem K9:Maps.Keyed Tryz.prog 9:=Maps.string_keyed Tryz.underlying9
theorem key9:keyOf Tryz.prog 9 (.string sChain)=some (.string sChain.data.toList):=Go.WideMaps.keyOf_string_mk Tryz.underlying9 (by decide)
theorem fk_nil (w:World):(Instr.findKey 9 (.string sChain) []).run Tryz.prog w=.ok none w:=by
 rcases K9.find w key9 [] (by simp) with ⟨h,_⟩|⟨j,e,_,h,_⟩
 ·exact h
 ·simp at h
theorem fk_one (w:World) (e:MapEntry) (he:e.key=.string sChain):(Instr.findKey 9 (.string sChain) [e]).run Tryz.prog w=.ok (some (0,e.val)) w:=by
 rcases K9.find w key9 [e] (by simp[he,key9]) with ⟨_,h⟩|⟨j,e',h,hj,_⟩
 ·exact absurd he (h e (by simp))
 ·match j,hj with
  | 0,hj =>
   have hj:e=e':=by simpa using hj
   subst hj;exact h
  | j+1,hj=>simp at hj
theorem look_none (m:Nat) (w:World) (hm:w.heap[m]?=some (.map #[] 0)) :
  (Instr.lookup 85 (.map (some m)) (.string sChain) true).run Tryz.prog w=.ok (.tuple #[.agg #[.slice none 0 0,i64 0],.bool false]) w:=by
 simp[Instr.lookup,run_underlying Tryz.underlying85,MapKept.run_getObj_map hm,K9.check w _ key9,fk_nil,Result.andThen]
theorem look_one (m:Nat) (a:Option Addr) (n c:Nat) (s:Int) (w:World) (hm:w.heap[m]?=some (.map #[entOf a n c s] 1)) :
  (Instr.lookup 85 (.map (some m)) (.string sChain) true).run Tryz.prog w=.ok (.tuple #[.agg #[.slice a n c,i64 s],.bool true]) w:=by
 simp[Instr.lookup,run_underlying Tryz.underlying85,MapKept.run_getObj_map hm,K9.check w _ key9,fk_one,Result.andThen]
theorem up_first (m:Nat) (a:Option Addr) (n c:Nat) (s:Int) (w:World) (hm:w.heap[m]?=some (.map #[] 0)) :
  (Instr.mapUpdate 85 (.map (some m)) (.string sChain) (.agg #[.slice a n c,i64 s])).run Tryz.prog w=.ok () (setBlock w m (.map #[entOf a n c s] 1)):=by
 simp[Instr.mapUpdate,run_underlying Tryz.underlying85,MapKept.run_getObj_map hm,K9.check w _ key9,MapKept.run_setObj_map _ hm,fk_nil,setBlock,Result.andThen]
theorem up_again (m:Nat) (a a':Option Addr) (n c n' c':Nat) (s s':Int) (w:World) (hm:w.heap[m]?=some (.map #[entOf a n c s] 1)) :
  (Instr.mapUpdate 85 (.map (some m)) (.string sChain) (.agg #[.slice a' n' c',i64 s'])).run Tryz.prog w=.ok () (setBlock w m (.map #[entOf a' n' c' s'] 1)):=by
 simp[Instr.mapUpdate,run_underlying Tryz.underlying85,MapKept.run_getObj_map hm,K9.check w _ key9,MapKept.run_setObj_map _ hm,fk_one,K9.stays w key9,setBlock,Result.andThen]
end Go.Proofs.YteldhmehjkhanaaGreatDoor.dk
namespace Go.Proofs.YteldhmehjkhanaaGreatDoor.dk
open Go Go.RowKit Go.Eng Go.ChangeMaps
set_option maxHeartbeats 1000000
section
variable {P:Program} (w:World)
theorem append_blk (base:Nat) (t ty e:TypeId) (i:TypeInfo) (z:Value) (size bytes:Nat) (ht:P.underlying t=some (.slice e)) (hi:P.info? e=some i) (hz:i.zero=some z)
  (hsize:i.size=size) (hby:i.bytes=bytes) (hsz:0<size)
  (v:Value) (n:Nat) (xs:List Value) (hown:w.ownsRow base e size v n xs)
  (a:Addr) (m c:Nat) (news:List Value) (hl:news.length=m*size) (hnews:∀ j u,news[j]?=some u->w.cell? (a.add j)=some u) (h1:∀ u∈news,u.oneCell'=true)
  (h63:n+m<=maxLen) (hbytes:(n+m)*bytes<=140737488355328) (hm:0<m) {v':Value} {w':World} (hr:(Builtin.append_ #[t,t] ty #[v,.slice (some a) m c]).run P w=.ok v' w') :
  v'.ownBlock=v.ownBlock\/v'.ownBlock=some w.heap.size:=by
 subst hsize
 subst hby
 rcases hown.2 with ⟨rfl,rfl⟩|⟨g,cap,cur,rfl,hbg,hg,hnc,hcm,hcs,htake⟩
 ·have h2:=run_append_nil (P:=P) w t ty e i z ht hi hz a m c news hl hnews (by omega) (by simp only[maxLen] at h63;omega) (by have hb:=hbytes;simp only[Nat.zero_add] at hb;omega)
  rw[h2] at hr
  cases hr
  exact .inr rfl
 ·by_cases hroom:n+m<=cap
  ·have hfit:n*i.size+news.length<=cur.size:=by rw[hl,hcs,<- Nat.add_mul];exact Nat.mul_le_mul_right _ hroom
   have h2:=run_append_room (P:=P) w t ty e i ht hi g n cap cur hg a m c news hl hnews h1 hroom hfit
   rw[h2] at hr
   cases hr
   exact .inl rfl
  ·have holds:∀ j u,xs[j]?=some u->w.cell? ((⟨g,0,none⟩:Addr).add j)=some u:=hown.cells (g:=g) rfl
   have h2:=run_append_grow (P:=P) w t ty e i z ht hi hz ⟨g,0,none⟩ n cap xs hown.1 holds a m c news hl hnews (by omega) (by simp only[maxLen] at h63;omega) (growslice_fits (by omega) hbytes)
   rw[h2] at hr
   cases hr
   exact .inr rfl
theorem wpList_append_own2 {ops:Array Oper} {rest:List Oper} {o:Oper} {a:Act} {Q:Exit->Act->World->Prop} (hgd:o.guard=none) (s x:Operand) (t:TypeId)
  (ho:o.op=.call { callee:=.builtin .append,args:=#[s,x],argTypes:=#[t,t] })
  (base:Nat) (e:TypeId) (i:TypeInfo) (z:Value) (size bytes:Nat) (ht:P.underlying t=some (.slice e)) (hi:P.info? e=some i) (hz:i.zero=some z)
  (hsize:i.size=size) (hby:i.bytes=bytes) (hzs:z.cells.size=size) (hsz:0<size)
  (v:Value) (n:Nat) (xs:List Value) (hs:a.eval s=v) (hown:w.ownsRow base e size v n xs)
  (ad:Addr) (m c:Nat) (news:List Value) (hx:a.eval x=.slice (some ad) m c) (hl:news.length=m*size) (hnews:∀ j u,news[j]?=some u->w.cell? (ad.add j)=some u) (h1:∀ u∈news,u.oneCell'=true)
  (h63:n+m<=maxLen) (hbytes:(n+m)*bytes<=140737488355328) (hbase:base<=w.heap.size) (hm:0<m)
  (h:∀ v' w',w'.ownsRow base e size v' (n+m) (xs++news)->w.grownBy w' v.ownBlock->(∃ a' c',v'=.slice a' (n+m) c')->(v'.ownBlock=v.ownBlock\/v'.ownBlock=some w.heap.size)->wpList P ops Q rest (a.put o.dst v') w'):wpList P ops Q (o::rest) a w:=by
 refine wpList_plain hgd fun _ hK=>?_
 obtain⟨v',w',hr,h2,h3,h4⟩:=run_append_own (P:=P) w base t o.type e i z size bytes ht hi hz hsize hby hzs hsz v n xs hown ad m c news hl hnews h1 h63 hbytes hbase
 have hblk:=append_blk w base t o.type e i z size bytes ht hi hz hsize hby hsz v n xs hown ad m c news hl hnews h1 h63 hbytes hm hr
 unfold Oper.wp execOp
 simp only[ho,resolve,invoke,builtin,Sem.run_bind,Sem.run_pure,Result.andThen_ok,List.map_toArray,List.map_cons,List.map_nil,hs,hx,hr]
 refine hK _ _ (h v' w' h2 h3 ?_ hblk)
 rcases h2.2 with ⟨_,h0⟩|⟨g,cap,cur,hv,_⟩
 ·omega
 ·exact⟨_,_,hv⟩
end
end Go.Proofs.YteldhmehjkhanaaGreatDoor.dk
namespace Go.Proofs.YteldhmehjkhanaaGreatDoor.dk
open Go Go.RowKit Go.Eng Go.ChangeMaps
set_option maxHeartbeats 2000000
open qry (sChain)
theorem info5:(Tryz.prog.info? 5).map (fun i=>(i.zero,i.size,i.bytes))=some (some (.int .u8 0),1,1):=by kernel_rfl
def FileAt (w:World) (m:Nat) (there:Bool) (a:Option Addr) (n c:Nat) (s:Int):Prop :=
 match there with
 | false=>w.heap[m]?=some (.map #[] 0)/\a=none/\n=0/\c=0/\s=0
 | true=>w.heap[m]?=some (.map #[entOf a n c s] 1)
theorem FileAt.blk {w:World} {m:Nat} {there:Bool} {a:Option Addr} {n c:Nat} {s:Int} (h:FileAt w m there a n c s):∃ es k,w.heap[m]?=some (.map es k):=by
 cases there
 ·exact⟨_,_,h.1⟩
 ·exact⟨_,_,h⟩
theorem FileAt.kept {w w':World} {m:Nat} {there:Bool} {a:Option Addr} {n c:Nat} {s:Int} (h:FileAt w m there a n c s) (e:w'.heap[m]?=w.heap[m]?):FileAt w' m there a n c s:=by
 cases there
 ·exact⟨e.trans h.1,h.2⟩
 ·exact e.trans h
theorem FileAt.look {w:World} {m:Nat} {there:Bool} {a:Option Addr} {n c:Nat} {s:Int} (h:FileAt w m there a n c s) :
  (Instr.lookup 85 (.map (some m)) (.string sChain) true).run Tryz.prog w=.ok (.tuple #[.agg #[.slice a n c,i64 s],.bool there]) w:=by
 cases there
 ·obtain⟨h,rfl,rfl,rfl,rfl⟩:=h
  exact look_none m w h
 ·exact look_one m a n c s w h
theorem FileAt.up {w:World} {m:Nat} {there:Bool} {a:Option Addr} {n c:Nat} {s:Int} (h:FileAt w m there a n c s) (a':Option Addr) (n' c':Nat) (s':Int) :
  (Instr.mapUpdate 85 (.map (some m)) (.string sChain) (.agg #[.slice a' n' c',i64 s'])).run Tryz.prog w=.ok () (setBlock w m (.map #[entOf a' n' c' s'] 1)):=by
 cases there
 ·exact up_first m a' n' c' s' w h.1
 ·exact up_again m a a' n c n' c' s s' w h
theorem len_none (m:Nat) (w:World) (hm:w.heap[m]?=some (.map #[] 0)) (ty:TypeId):(Builtin.len_ #[85] ty #[.map (some m)]).run Tryz.prog w=.ok (i64 0) w:=by
 simp[Builtin.len_,run_underlying Tryz.underlying85,MapKept.run_getObj_map hm,goInt,Result.andThen]
theorem find_file (d m:Nat) (room steps:Int) (a:Option Addr) (n c:Nat) (s:Int) (there:Bool) (w:World) (hd:DiskB w d m room steps) (hf:FileAt w m there a n c s) :
  Calls Tryz.prog 54 #[ptr d,.string sChain] w fun e w'=>e=.returned (.tuple #[.agg #[.slice a n c,i64 s],i64 (if there then 0 else 41)])/\Kept noS w w':=by
 obtain⟨es,k,hm⟩:=hf.blk
 refine (find_any d m room steps a n c s there w hd fun w' K=>(hf.kept (K.block m (lt_of_block hm) (fun q=>q))).look).mono ?_
 rintro e w' ⟨rfl,K⟩
 refine⟨?_,K⟩
 cases there
 ·obtain⟨_,rfl,rfl,rfl,rfl⟩:=hf;rfl
 ·rfl
theorem keep_file (d m:Nat) (room steps:Int) (a a':Option Addr) (n c n' c':Nat) (s s':Int) (there:Bool) (w:World) (hd:DiskB w d m room steps) (hf:FileAt w m there a n c s) :
  Calls Tryz.prog 58 #[ptr d,.string sChain,.agg #[.slice a' n' c',i64 s']] w fun e w'=>e=.returned (.tuple #[])/\FileAt w' m true a' n' c' s'/\Kept (·=m) w w':=by
 obtain⟨es,k,hm⟩:=hf.blk
 exact keep_any d m room steps a' n' c' s' es _ k 1 w hd hm fun w' K=>(hf.kept (K.block m (lt_of_block hm) (fun q=>q))).up a' n' c' s'
theorem own_kept {S:Nat->Prop} {w w':World} {base:Nat} {e:TypeId} {size:Nat} {v:Value} {n:Nat} {xs:List Value} (h:w.ownsRow base e size v n xs) (K:Kept S w w') (hs:∀ b,v.ownBlock=some b->¬ S b):w'.ownsRow base e size v n xs:=by
 refine⟨h.1,?_⟩
 rcases h.2 with hn|⟨g,cap,cur,rfl,hb,hg,r⟩
 ·exact .inl hn
 ·exact .inr ⟨g,cap,cur,rfl,hb,K.old hg (hs g rfl),r⟩
theorem cell_kept {S:Nat->Prop} {w w':World} (K:Kept S w w') {a:Addr} (ha:a.block<w.heap.size) (hs:¬ S a.block):w'.cell? a=w.cell? a:=World.cell?_of_block (w:=w) (K.block a.block ha hs)
theorem add_blk (a:Addr) (j:Nat):(a.add j).block=a.block:=by unfold Addr.add;split<;>rfl
theorem own_ne_cells {w:World} {base:Nat} {e T:TypeId} {size:Nat} {v:Value} {n:Nat} {xs:List Value} {b:Nat} {cs:Array Value} {fr:Nat × Nat} (h:w.ownsRow base e size v n xs) (hb:w.heap[b]?=some (.cells cs T fr)) (hT:T≠e):v.ownBlock≠some b:=by
 rcases h.2 with ⟨rfl,_⟩|⟨g,cap,cur,rfl,_,hg,_⟩
 ·simp[Value.ownBlock]
 ·intro q
  simp only[Value.ownBlock,Option.some.injEq] at q
  subst q
  rw[hg] at hb
  cases hb
  exact hT rfl
theorem own_ne_map {w:World} {base:Nat} {e:TypeId} {size:Nat} {v:Value} {n:Nat} {xs:List Value} {b:Nat} {es:Array MapEntry} {k:Nat} (h:w.ownsRow base e size v n xs) (hb:w.heap[b]?=some (.map es k)):v.ownBlock≠some b:=by
 rcases h.2 with ⟨rfl,_⟩|⟨g,cap,cur,rfl,_,hg,_⟩
 ·simp[Value.ownBlock]
 ·intro q
  simp only[Value.ownBlock,Option.some.injEq] at q
  subst q
  rw[hg] at hb
  cases hb
theorem dapp_ok (d m:Nat) (a:Option Addr) (n c:Nat) (xs:List Value) (s:Int) (there:Bool) (ad:Addr) (k cb:Nat) (news:List Value) (steps:Int) (w:World) (hd:DiskB w d m 4194304 steps) (hf:FileAt w m there a n c s)
  (hown:w.ownsRow 0 5 1 (.slice a n c) n xs) (hl:news.length=k) (hk:0<k) (hnk:n+k<=100000) (hnews:∀ j u,news[j]?=some u->w.cell? (ad.add j)=some u) (h1:∀ u∈news,u.oneCell'=true) (hadb:ad.block<w.heap.size) :
  Calls Tryz.prog 75 #[ptr d,.string sChain,.slice (some ad) k cb] w fun e w'=>e=.returned (i64 0) /\
   (∃ a' c' s',FileAt w' m true a' (n+k) c' s/\w'.ownsRow 0 5 1 (.slice a' (n+k) c') (n+k) (xs++news)/\DiskB w' d m 4194304 s'/\((Value.slice a' (n+k) c').ownBlock=(Value.slice a n c).ownBlock\/∃ g,(Value.slice a' (n+k) c').ownBlock=some g/\w.heap.size<=g)) /\
   Kept (fun b=>b=d\/b=m\/(Value.slice a n c).ownBlock=some b) w w':=by
 have hlt:=lt_of_block hd
 obtain⟨i0,hi,hz0,hz1,hz2⟩:=info_parts info5
 have hdm:d≠m:=fun e=>by
  obtain⟨es,k,hm⟩:=hf.blk
  rw[<- e] at hm
  rw[hd] at hm;cases hm
 have fin:∀ (w2:World),Kept noS w w2->∀ (v4:Value) (w4:World),w4.ownsRow 0 5 1 v4 (n+k) (xs++news)->(w2.alloc (.cells #[.slice a n c,i64 s] 117)).grownBy w4 (Value.slice a n c).ownBlock ->
   v4.ownBlock=(Value.slice a n c).ownBlock\/v4.ownBlock=some (w2.heap.size+1) ->
   (w4.heap[w2.heap.size]?=some (.cells #[.slice a n c,i64 s] 117 (0,0))/\DiskB w4 d m 4194304 steps/\FileAt w4 m there a n c s/\Kept (fun b=>b=d\/b=m\/(Value.slice a n c).ownBlock=some b) w w4) /\
   (v4.ownBlock≠some w2.heap.size/\v4.ownBlock≠some d/\v4.ownBlock≠some m)/\(v4.ownBlock=(Value.slice a n c).ownBlock\/∃ g,v4.ownBlock=some g/\w.heap.size<=g):=by
  intro w2 K2 v4 w4 hown4 hg4 hblk4
  obtain⟨es,ck,hm⟩:=hf.blk
  have K3:Kept noS w2 (w2.alloc (.cells #[.slice a n c,i64 s] 117)):=Kept.alloc' w2 _
  have K23:=K2.trans K3
  have hown3:=(own_kept hown K2 (fun b _ q=>q)).alloc (.cells #[.slice a n c,i64 s] 117)
  have hF:(w2.alloc (.cells #[.slice a n c,i64 s] 117)).heap[w2.heap.size]?=some (.cells #[.slice a n c,i64 s] 117 (0,0)):=heap_alloc_new w2 _
  have hd3:=K23.old hd (fun q=>q)
  have hm3:=K23.old hm (fun q=>q)
  have nF:=own_ne_cells hown3 hF (by decide)
  have nd:=own_ne_cells hown3 hd3 (by decide)
  have nm:=own_ne_map hown3 hm3
  have hF4:=(hg4.block _ (lt_of_block hF) (Ne.symm nF)).trans hF
  have hd4:=(hg4.block _ (lt_of_block hd3) (Ne.symm nd)).trans hd3
  have hm4:=(hg4.block _ (lt_of_block hm3) (Ne.symm nm)).trans hm3
  refine⟨⟨hF4,hd4,(hf.kept (hm4.trans hm.symm)),(K23.mono (fun k q=>q.elim)).grown hg4 (fun b hb=>.inl (.inr (.inr hb)))⟩,⟨own_ne_cells hown4 hF4 (by decide),own_ne_cells hown4 hd4 (by decide),own_ne_map hown4 hm4⟩,hblk4.imp id fun h=>⟨_,h,by have:=K2.size;omega⟩⟩
 cases there
 ·go_enter Tryz.func75,Tryz.ntmps75
  go_wp2_with fail
  refine (find_file d m _ steps a n c s false _ hd hf).mono ?_
  rintro e w2 ⟨rfl,K2⟩
  have hd2:=K2.old hd (fun q=>q)
  have hm2:=hf.kept (K2.block m (lt_of_block hf.1) (fun q=>q))
  have c1:w2.cell? ⟨d,1,none⟩=some (.map (some m)):=by rw[Lib.cell_of_heap hd2];rfl
  have hlt2:=lt_of_block hd2
  have K3:Kept noS w2 (w2.alloc (.cells #[.slice a n c,i64 s] 117)):=Kept.alloc' w2 _
  have hln:=len_none m (w2.alloc (.cells #[.slice a n c,i64 s] 117)) (K3.old hm2.1 (fun q=>q))
  have hown3:=(own_kept hown K2 (fun b _ q=>q)).alloc (.cells #[.slice a n c,i64 s] 117)
  have hnews3:∀ j u,news[j]?=some u->(w2.alloc (.cells #[.slice a n c,i64 s] 117)).cell? (ad.add j)=some u:=fun j u h=>by
   rw[cell_kept (K2.trans K3) (by rw[add_blk];exact hadb) (fun q=>q)];exact hnews j u h
  go_wp2_with (first
   | (at_builtin;refine wpList_append_own2 _ rfl _ _ 22 rfl 0 5 i0 (.int .u8 0) 1 1 Tryz.underlying22 hi hz0 hz1 hz2 rfl (by decide) _ _ _ rfl hown3 ad k cb news rfl (by omega) hnews3 h1 (by unfold maxLen;omega) (by omega) (Nat.zero_le _) hk ?_)
   | go_in)
  rintro v4 w4 hown4 hg4 a' c' rfl hblk4
  obtain⟨⟨hF4,hd4,hf4,K4⟩,⟨nF4,nd4,nm4⟩,hblk⟩:=fin w2 K2 _ w4 hown4 hg4 hblk4
  clear hg4 hblk4 hown3 hnews3 hln c1
  have e0:w4.cell? ⟨w2.heap.size,0,none⟩=some (.slice a n c):=by rw[Lib.cell_of_heap hF4];rfl
  have e1:w4.cell? ⟨w2.heap.size,1,none⟩=some (i64 s):=by rw[Lib.cell_of_heap hF4];rfl
  have f0:w4.frozen? ⟨w2.heap.size,0,none⟩=false:=Lib.frozen_of_heap hF4 0
  go_wp2_with fail
  have hd5:DiskB (w4.setCell ⟨w2.heap.size,0,none⟩ (.slice a' (n+k) c')) d m 4194304 steps:=by rw[DiskB,Below.heap_setCell _ _ _ _ (show d≠w2.heap.size by omega)];exact hd4
  have hmF:m≠w2.heap.size:=by have:=lt_of_block hm2.1;omega
  have hf5:FileAt (w4.setCell ⟨w2.heap.size,0,none⟩ (.slice a' (n+k) c')) m false a n c s:=hf4.kept (Below.heap_setCell _ _ _ _ hmF)
  have K5:Kept (fun b=>b=d\/b=m\/(Value.slice a n c).ownBlock=some b) w (w4.setCell ⟨w2.heap.size,0,none⟩ (.slice a' (n+k) c')):=K4.setCell (.inr K2.size) _
  have hown5:=ownsRow_setCell_other (a:=⟨w2.heap.size,0,none⟩) hown4 nF4 (.slice a' (n+k) c')
  refine (keep_file d m _ steps a a' n c (n+k) c' s s false _ hd5 hf5).mono ?_
  rintro e w6 ⟨rfl,hf6,K6⟩
  have hd6:=K6.old hd5 hdm
  have hown6:=own_kept hown5 K6 (fun b h q=>nm4 (by rw[<- q];exact h))
  go_wp2_with fail
  refine (step_ok d m _ steps _ hd6).mono ?_
  rintro e w7 ⟨rfl,⟨s',hd7⟩,K7⟩
  have hf7:=hf6.kept (K7.block m (lt_of_block hf6) (Ne.symm hdm))
  have hown7:=own_kept hown6 K7 (fun b h q=>nd4 (by rw[<- q];exact h))
  have KK:=(K5.trans (K6.mono (fun b q=>.inr (.inl q)))).trans (K7.mono (fun b q=>.inl q))
  go_wp2
  go_ret
  exact⟨rfl,⟨a',c',s',hf7,hown7,hd7,hblk⟩,KK⟩
 ·go_enter Tryz.func75,Tryz.ntmps75
  go_wp2_with fail
  refine (find_file d m _ steps a n c s true _ hd hf).mono ?_
  rintro e w2 ⟨rfl,K2⟩
  have hd2:=K2.old hd (fun q=>q)
  have hm2:=hf.kept (K2.block m (lt_of_block hf) (fun q=>q))
  have c1:w2.cell? ⟨d,1,none⟩=some (.map (some m)):=by rw[Lib.cell_of_heap hd2];rfl
  have hlt2:=lt_of_block hd2
  have K3:Kept noS w2 (w2.alloc (.cells #[.slice a n c,i64 s] 117)):=Kept.alloc' w2 _
  have hown3:=(own_kept hown K2 (fun b _ q=>q)).alloc (.cells #[.slice a n c,i64 s] 117)
  have hnews3:∀ j u,news[j]?=some u->(w2.alloc (.cells #[.slice a n c,i64 s] 117)).cell? (ad.add j)=some u:=fun j u h=>by
   rw[cell_kept (K2.trans K3) (by rw[add_blk];exact hadb) (fun q=>q)];exact hnews j u h
  go_wp2_with (first
   | (at_builtin;refine wpList_append_own2 _ rfl _ _ 22 rfl 0 5 i0 (.int .u8 0) 1 1 Tryz.underlying22 hi hz0 hz1 hz2 rfl (by decide) _ _ _ rfl hown3 ad k cb news rfl (by omega) hnews3 h1 (by unfold maxLen;omega) (by omega) (Nat.zero_le _) hk ?_)
   | go_in)
  rintro v4 w4 hown4 hg4 a' c' rfl hblk4
  obtain⟨⟨hF4,hd4,hf4,K4⟩,⟨nF4,nd4,nm4⟩,hblk⟩:=fin w2 K2 _ w4 hown4 hg4 hblk4
  clear hg4 hblk4 hown3 hnews3 c1
  have e0:w4.cell? ⟨w2.heap.size,0,none⟩=some (.slice a n c):=by rw[Lib.cell_of_heap hF4];rfl
  have e1:w4.cell? ⟨w2.heap.size,1,none⟩=some (i64 s):=by rw[Lib.cell_of_heap hF4];rfl
  have f0:w4.frozen? ⟨w2.heap.size,0,none⟩=false:=Lib.frozen_of_heap hF4 0
  go_wp2_with fail
  have hd5:DiskB (w4.setCell ⟨w2.heap.size,0,none⟩ (.slice a' (n+k) c')) d m 4194304 steps:=by rw[DiskB,Below.heap_setCell _ _ _ _ (show d≠w2.heap.size by omega)];exact hd4
  have hmF:m≠w2.heap.size:=by have:=lt_of_block hm2;omega
  have hf5:FileAt (w4.setCell ⟨w2.heap.size,0,none⟩ (.slice a' (n+k) c')) m true a n c s:=hf4.kept (Below.heap_setCell _ _ _ _ hmF)
  have K5:Kept (fun b=>b=d\/b=m\/(Value.slice a n c).ownBlock=some b) w (w4.setCell ⟨w2.heap.size,0,none⟩ (.slice a' (n+k) c')):=K4.setCell (.inr K2.size) _
  have hown5:=ownsRow_setCell_other (a:=⟨w2.heap.size,0,none⟩) hown4 nF4 (.slice a' (n+k) c')
  refine (keep_file d m _ steps a a' n c (n+k) c' s s true _ hd5 hf5).mono ?_
  rintro e w6 ⟨rfl,hf6,K6⟩
  have hd6:=K6.old hd5 hdm
  have hown6:=own_kept hown5 K6 (fun b h q=>nm4 (by rw[<- q];exact h))
  go_wp2_with fail
  refine (step_ok d m _ steps _ hd6).mono ?_
  rintro e w7 ⟨rfl,⟨s',hd7⟩,K7⟩
  have hf7:=hf6.kept (K7.block m (lt_of_block hf6) (Ne.symm hdm))
  have hown7:=own_kept hown6 K7 (fun b h q=>nd4 (by rw[<- q];exact h))
  have KK:=(K5.trans (K6.mono (fun b q=>.inr (.inl q)))).trans (K7.mono (fun b q=>.inl q))
  go_wp2
  go_ret
  exact⟨rfl,⟨a',c',s',hf7,hown7,hd7,hblk⟩,KK⟩
end Go.Proofs.YteldhmehjkhanaaGreatDoor.dk
namespace Go.Proofs.YteldhmehjkhanaaGreatDoor.dk
open Go Go.RowKit Go.Eng Go.ChangeMaps
set_option maxHeartbeats 2000000
open qry (sChain)
theorem free_at (d m:Nat) (steps:Int) (a:Option Addr) (n c s:Nat) (F:Nat) (w:World) (hd:DiskB w d m 4194304 steps) (hm:w.heap[m]?=some (.map #[entOf a n c s] 1)) (hF:w.heap[F]?=some (.cells #[.slice a n c,i64 s] 117 (0,0))) (hw:wrap64 (4194304-(s:Int))=4194304-s) :
  Calls Tryz.prog 59 #[ptr d] w fun e w'=>e=.returned (i64 (4194304-s))/\w'.cell? ⟨F,0,none⟩=some (.slice a n c)/\w'.cell? ⟨F,1,none⟩=some (i64 s)/\Kept noS w w':=by
 refine (free_one d m _ steps a n c s w hd hm).mono ?_
 rintro e w' ⟨rfl,K⟩
 have h:=K.old hF (fun q=>q)
 exact⟨by rw[hw],by rw[Lib.cell_of_heap h];rfl,by rw[Lib.cell_of_heap h];rfl,K⟩
theorem sync_ok (d m:Nat) (a:Option Addr) (n c s:Nat) (steps:Int) (w:World) (hd:DiskB w d m 4194304 steps) (hf:FileAt w m true a n c s) (hs:s<=n) (hn:n<=100000) :
  Calls Tryz.prog 29 #[ptr d,.string sChain] w fun e w'=>e=.returned (i64 0)/\(∃ s',FileAt w' m true a n c n/\DiskB w' d m 4194304 s')/\Kept (fun b=>b=d\/b=m) w w':=by
 have hlt:=lt_of_block hd
 have hdm:d≠m:=fun e=>by
  obtain⟨es,k,hm⟩:=hf.blk
  rw[<- e] at hm
  rw[hd] at hm;cases hm
 go_enter Tryz.func29,Tryz.ntmps29
 go_wp2_with fail
 refine (find_file d m _ steps a n c s true _ hd hf).mono ?_
 rintro e w2 ⟨rfl,K2⟩
 have hd2:=K2.old hd (fun q=>q)
 have hf2:=hf.kept (K2.block m (lt_of_block hf) (fun q=>q))
 have hlt2:=lt_of_block hd2
 have K3:Kept noS w2 (w2.alloc (.cells #[.slice a n c,i64 s] 117)):=Kept.alloc' w2 _
 have hd3:=K3.old hd2 (fun q=>q)
 have hf3:=hf2.kept (K3.block m (lt_of_block hf2) (fun q=>q))
 have hF3:(w2.alloc (.cells #[.slice a n c,i64 s] 117)).heap[w2.heap.size]?=some (.cells #[.slice a n c,i64 s] 117 (0,0)):=heap_alloc_new w2 _
 have hw:wrap64 (4194304-(s:Int))=4194304-s:=IntWalk.wrap64_in _ (by omega)
 go_wp2_with fail
 generalize hw3:w2.alloc (.cells #[.slice a n c,i64 s] 117)=w3 at *
 have e0:w3.cell? ⟨w2.heap.size,0,none⟩=some (.slice a n c):=by rw[Lib.cell_of_heap hF3];rfl
 have e1:w3.cell? ⟨w2.heap.size,1,none⟩=some (i64 s):=by rw[Lib.cell_of_heap hF3];rfl
 have hm3:w3.heap[m]?=some (.map #[entOf a n c s] 1):=hf3
 go_region_with (go_at_call 59;refine (free_at d m steps a n c s w2.heap.size w3.drew hd3 hm3 hF3 hw).mono ?_;rintro e w4 ⟨rfl,e0',e1',K4⟩)
 all_goals
  have hd4:=K4.old (b:=d) hd3 (fun q=>q)
  have hm4:=K4.old (b:=m) hm3 (fun q=>q)
  have hF4:=K4.old (b:=w2.heap.size) hF3 (fun q=>q)
  have hwn:IntKind.i64.wrap ((n:Int)-s)=n-s:=IntWalk.i64_in _ (by omega)
  simp only[hwn]
  go_wp2_with fail
  refine (step_ok d m _ steps _ hd4).mono ?_
  rintro e w5 ⟨rfl,⟨s',hd5⟩,K5⟩
  have hF5:=K5.old hF4 (by omega)
  have hm5:=K5.old hm4 (Ne.symm hdm)
  have g0:w5.cell? ⟨w2.heap.size,0,none⟩=some (.slice a n c):=by rw[Lib.cell_of_heap hF5];rfl
  have g1:w5.cell? ⟨w2.heap.size,1,none⟩=some (i64 s):=by rw[Lib.cell_of_heap hF5];rfl
  have f1:w5.frozen? ⟨w2.heap.size,1,none⟩=false:=Lib.frozen_of_heap hF5 1
  have hmF:m≠w2.heap.size:=by have:=lt_of_block hf2;omega
  have hd6:DiskB (w5.setCell ⟨w2.heap.size,1,none⟩ (i64 n)) d m 4194304 s':=by rw[DiskB,Below.heap_setCell _ _ _ _ (show d≠w2.heap.size by omega)];exact hd5
  have hm6:FileAt (w5.setCell ⟨w2.heap.size,1,none⟩ (i64 n)) m true a n c s:=FileAt.kept (w:=w5) hm5 (Below.heap_setCell _ _ _ _ hmF)
  have K6:Kept (fun b=>b=d\/b=m) w (w5.setCell ⟨w2.heap.size,1,none⟩ (i64 n)) :=
   Kept.setCell (((K2.trans (K3.trans (Kept.drew Kept.refl |>.trans K4))).mono (fun b q=>q.elim)).trans (K5.mono (fun b q=>.inl q))) (.inr K2.size) _
  go_wp2_with fail
  refine (keep_file d m _ s' a a n c n c s n true _ hd6 hm6).mono ?_
  rintro e w7 ⟨rfl,hf7,K7⟩
  have hd7:=K7.old hd6 hdm
  have KK:=K6.trans (K7.mono (fun b q=>.inr q))
  go_wp2
  go_ret
  exact⟨rfl,⟨s',hf7,hd7⟩,KK⟩
end Go.Proofs.YteldhmehjkhanaaGreatDoor.dk
namespace Go.Proofs.YteldhmehjkhanaaGreatDoor.dk
open Go Go.RowKit Go.Eng Go.ChangeMaps
set_option maxHeartbeats 2000000
open qry (sChain)
abbrev cCells (d:Nat) (Vl:Value):Array Value:=#[ptr d,Vl,.bool false]
abbrev ChainB (w:World) (p d:Nat) (Vl:Value):Prop:=w.heap[p]?=some (.cells (cCells d Vl) 79 (0,0))
theorem put_ok (p d m:Nat) (Vl:Value) (a:Option Addr) (n c:Nat) (xs:List Value) (there:Bool) (ad:Addr) (k cb:Nat) (news:List Value) (steps:Int) (w:World) (hp:ChainB w p d Vl) (hd:DiskB w d m 4194304 steps) (hf:FileAt w m there a n c n)
  (hown:w.ownsRow 0 5 1 (.slice a n c) n xs) (hl:news.length=k) (hk:0<k) (hnk:n+k<=100000) (hnews:∀ j u,news[j]?=some u->w.cell? (ad.add j)=some u) (h1:∀ u∈news,u.oneCell'=true) (hadb:ad.block<w.heap.size) :
  Calls Tryz.prog 46 #[ptr p,.slice (some ad) k cb] w fun e w'=>e=.returned (i64 0) /\
   (∃ a' c' s',FileAt w' m true a' (n+k) c' ((n+k:Nat):Int)/\w'.ownsRow 0 5 1 (.slice a' (n+k) c') (n+k) (xs++news)/\DiskB w' d m 4194304 s'/\((Value.slice a' (n+k) c').ownBlock=(Value.slice a n c).ownBlock\/∃ g,(Value.slice a' (n+k) c').ownBlock=some g/\w.heap.size<=g)) /\
   Kept (fun b=>b=d\/b=m\/(Value.slice a n c).ownBlock=some b) w w':=by
 have c0:w.cell? ⟨p,0,none⟩=some (ptr d):=by rw[Lib.cell_of_heap hp];rfl
 have hpd:p≠d:=fun e=>by rw[ChainB,e,hd] at hp;cases hp
 have hpm:p≠m:=fun e=>by
  obtain⟨es,k,hm⟩:=hf.blk
  rw[ChainB,e,hm] at hp;cases hp
 have hpo:=own_ne_cells hown hp (by decide)
 go_enter Tryz.func46,Tryz.ntmps46
 go_wp2_with fail
 refine (dapp_ok d m a n c xs n there ad k cb news steps w hd hf hown hl hk hnk hnews h1 hadb).mono ?_
 rintro e w2 ⟨rfl,⟨a',c',s',hf2,hown2,hd2,hblk⟩,K2⟩
 have hp2:=K2.old hp (fun q=>q.elim hpd fun q=>q.elim hpm hpo)
 have c0:w2.cell? ⟨p,0,none⟩=some (ptr d):=by rw[Lib.cell_of_heap hp2];rfl
 go_wp2_with fail
 refine (sync_ok d m a' (n+k) c' n s' w2 hd2 hf2 (by omega) hnk).mono ?_
 rintro e w3 ⟨rfl,⟨s2,hf3,hd3⟩,K3⟩
 have nd:=own_ne_cells hown2 hd2 (by decide)
 have nm:=own_ne_map hown2 (show w2.heap[m]?=_ from hf2)
 have hown3:=own_kept hown2 K3 (fun b h q=>q.elim (fun q=>nd (by rw[<- q];exact h)) (fun q=>nm (by rw[<- q];exact h)))
 go_wp2
 go_ret
 exact⟨rfl,⟨a',c',s2,hf3,hown3,hd3,hblk⟩,K2.trans (K3.mono fun b q=>q.elim .inl fun q=>.inr (.inl q))⟩
end Go.Proofs.YteldhmehjkhanaaGreatDoor.dk
namespace Go.Proofs.YteldhmehjkhanaaGreatDoor
open Go Go.Eng Go.RowKit Cr
theorem mixed:Tryz.prog.follows .mixedOrders=true:=by kernel_rfl
theorem wrap_u64 {a:Int} (h0:0<=a) (h1:a<18446744073709551616):IntKind.u64.wrap a=a:=by
 simp only[IntKind.wrap,IntKind.signed,IntKind.bits]
 simp only[Bool.false_and]
 exact Int.emod_eq_of_lt h0 (by simpa using h1)
theorem wrap_u64_mod (a:Int):IntKind.u64.wrap a=a%18446744073709551616:=by
 simp[IntKind.wrap,IntKind.signed,IntKind.bits]
theorem wrap_i64 {a:Int} (h0 : -9223372036854775808<=a) (h1:a<9223372036854775808):IntKind.i64.wrap a=a:=by
 have e:IntKind.i64.wrap a=if (9223372036854775808:Int)<=a%18446744073709551616 then a%18446744073709551616-18446744073709551616 else a%18446744073709551616:=by
  simp[IntKind.wrap,IntKind.signed,IntKind.bits]
 rw[e]
 split<;>omega
theorem toNat_ofInt64 (n:Nat) (h:n<18446744073709551616):(BitVec.ofInt 64 (n:Int)).toNat=n:=by
 rw[show BitVec.ofInt 64 (n:Int)=BitVec.ofNat 64 n from by simp,BitVec.toNat_ofNat,Nat.mod_eq_of_lt (by omega)]
theorem and_u64 (n m:Nat) (hn:n<18446744073709551616) (hm:m<18446744073709551616):bitOp .and .u64 n m=((n &&& m:Nat):Int):=by
 show IntKind.u64.wrap ((BitVec.ofInt 64 n &&& BitVec.ofInt 64 m:BitVec 64).toNat:Int)=_
 rw[BitVec.toNat_and,toNat_ofInt64 n hn,toNat_ofInt64 m hm,wrap_u64 (by omega)]
 have:=Nat.and_le_left (n:=n) (m:=m)
 omega
theorem and_mask {a:Int} (h0:0<=a) (h1:a<18446744073709551616):bitOp .and .u64 a 4294967295=a%4294967296:=by
 obtain⟨n,rfl⟩:=Int.eq_ofNat_of_zero_le h0
 have:=and_u64 n 4294967295 (by omega) (by omega)
 rw[show ((4294967295:Nat):Int)=4294967295 from rfl] at this
 rw[this]
 have h:=Nat.and_two_pow_sub_one_eq_mod n 32
 rw[show 2^32-1=4294967295 from rfl] at h
 rw[h]
 omega
theorem mul_split (a1 a0 b1 b0:Int):(a1*4294967296+a0)*(b1*4294967296+b0)=a1*b1*18446744073709551616+(a1*b0)*4294967296+(a0*b1)*4294967296+a0*b0:=by
 grind
theorem mul_bd {x y m n:Int} (hx0:0<=x) (hx:x<=m) (hy0:0<=y) (hy:y<=n):0<=x*y/\x*y<=m*n:=by
 refine⟨Int.mul_nonneg hx0 hy0,Int.mul_le_mul hx hy hy0 (by omega)⟩
def hi64 (a b:Int):Int :=
 let s:=fun x:Int=>Int.fdiv x (2^min (Int.toNat 32) IntKind.u64.bits)
 let m:=fun x:Int=>bitOp .and .u64 x 4294967295
 let W:=IntKind.u64.wrap
 let t:=W (W (s a*m b)+s (W (m a*m b)))
 W (W (W (s a*s b)+s t)+s (W (m t+W (m a*s b))))
theorem hi64_eq {a b:Int} (ha0:0<=a) (ha:a<18446744073709551616) (hb0:0<=b) (hb:b<18446744073709551616):hi64 a b=a*b/18446744073709551616:=by
 have hs:∀ x:Int,Int.fdiv x (2^min (Int.toNat 32) IntKind.u64.bits)=x/4294967296:=by
  intro x
  rw[show (2:Int)^min (Int.toNat 32) IntKind.u64.bits=4294967296 from by decide]
  exact Int.fdiv_eq_ediv_of_nonneg x (by decide)
 unfold hi64
 simp only[hs,and_mask ha0 ha,and_mask hb0 hb]
 have ea:a=(a/4294967296)*4294967296+a%4294967296:=by omega
 have eb:b=(b/4294967296)*4294967296+b%4294967296:=by omega
 have key:=mul_split (a/4294967296) (a%4294967296) (b/4294967296) (b%4294967296)
 rw[<- ea,<- eb] at key
 have d1:=mul_bd (x:=a/4294967296) (y:=b/4294967296) (m:=4294967295) (n:=4294967295) (by omega) (by omega) (by omega) (by omega)
 have d2:=mul_bd (x:=a/4294967296) (y:=b%4294967296) (m:=4294967295) (n:=4294967295) (by omega) (by omega) (by omega) (by omega)
 have d3:=mul_bd (x:=a%4294967296) (y:=b/4294967296) (m:=4294967295) (n:=4294967295) (by omega) (by omega) (by omega) (by omega)
 have d4:=mul_bd (x:=a%4294967296) (y:=b%4294967296) (m:=4294967295) (n:=4294967295) (by omega) (by omega) (by omega) (by omega)
 generalize a*b=ab at *
 generalize (a/4294967296)*(b/4294967296)=p11 at *
 generalize (a/4294967296)*(b%4294967296)=p10 at *
 generalize (a%4294967296)*(b/4294967296)=p01 at *
 generalize (a%4294967296)*(b%4294967296)=p00 at *
 rw[wrap_u64 (a:=p00) (by omega) (by omega),wrap_u64 (a:=p10) (by omega) (by omega),wrap_u64 (a:=p01) (by omega) (by omega),wrap_u64 (a:=p11) (by omega) (by omega)]
 rw[wrap_u64 (a:=p10+p00/4294967296) (by omega) (by omega)]
 rw[and_mask (a:=p10+p00/4294967296) (by omega) (by omega)]
 rw[wrap_u64 (a:=(p10+p00/4294967296)%4294967296+p01) (by omega) (by omega)]
 rw[wrap_u64 (a:=p11+(p10+p00/4294967296)/4294967296) (by omega) (by omega)]
 rw[wrap_u64 (by omega) (by omega)]
 omega
theorem ent_mul64:enters Tryz.prog 89 Tryz.f89:=ek
abbrev preMul64:HL [.int .u64,.int .u64]->Prop:=fun (a,b,_)=>U64 a/\U64 b
abbrev outMul64:HL [.int .u64,.int .u64]->HO [.val (.int .u64),.val (.int .u64)]:=fun (a,b,_)=>((a:Int)*b/18446744073709551616,(a:Int)*b%18446744073709551616,())
theorem fn_mul64:FnOk Tryz.prog 89 [.int .u64,.int .u64] [.val (.int .u64),.val (.int .u64)] noG preMul64 outMul64:=by
 refine fn_of_vc snl mixed ent_mul64 (by decide) (by decide) ?_
 rintro w M ⟨a,b,⟨⟩⟩ _ ⟨⟨ha0,ha⟩,hb0,hb⟩
 refine vcx (X:=((0:Int)<=32/\(0:Int)<=32/\(0:Int)<=32/\(0:Int)<=32/\(0:Int)<=32/\(((hi64 a b,IntKind.u64.wrap (a*b),()):Int × Int × Unit)=outMul64 (a,b,())))) (by kernel_rfl) ?_
 refine⟨by decide,by decide,by decide,by decide,by decide,?_⟩
 rw[hi64_eq ha0 ha hb0 hb,wrap_u64_mod]
abbrev preCarry:HL [.int .u64,.int .u64,.int .u64]->Prop:=fun (a,b,c,_)=>U64 a/\U64 b/\((c:Int)=0\/(c:Int)=1)
abbrev outAdd64:HL [.int .u64,.int .u64,.int .u64]->HO [.val (.int .u64),.val (.int .u64)]:=fun (a,b,c,_)=>(((a:Int)+b+c)%18446744073709551616,((a:Int)+b+c)/18446744073709551616,())
abbrev outSub64:HL [.int .u64,.int .u64,.int .u64]->HO [.val (.int .u64),.val (.int .u64)]:=fun (a,b,c,_)=>(((a:Int)-b-c)%18446744073709551616,(if (a:Int)<b+c then (1:Int) else 0),())
theorem run_add64 (a b:Int) (w:World):(callFunc 88 #[.int .u64 a,.int .u64 b,.int .u64 0]).run Tryz.prog w=.ok (.value (.tuple #[.int .u64 (Int.ofNat ((a.toNat+b.toNat+0)%18446744073709551616)),.int .u64 (Int.ofNat ((a.toNat+b.toNat+0)/18446744073709551616))])) w /\
  (callFunc 88 #[.int .u64 a,.int .u64 b,.int .u64 1]).run Tryz.prog w=.ok (.value (.tuple #[.int .u64 (Int.ofNat ((a.toNat+b.toNat+1)%18446744073709551616)),.int .u64 (Int.ofNat ((a.toNat+b.toNat+1)/18446744073709551616))])) w:=by
 constructor<;>kernel_rfl
theorem run_sub64 (a b:Int) (w:World):(callFunc 91 #[.int .u64 a,.int .u64 b,.int .u64 0]).run Tryz.prog w=.ok (.value (.tuple #[.int .u64 (Int.ofNat ((a.toNat+18446744073709551616-b.toNat-0)%18446744073709551616)),.int .u64 (Int.ofNat (if a.toNat<b.toNat+0 then 1 else 0))])) w /\
  (callFunc 91 #[.int .u64 a,.int .u64 b,.int .u64 1]).run Tryz.prog w=.ok (.value (.tuple #[.int .u64 (Int.ofNat ((a.toNat+18446744073709551616-b.toNat-1)%18446744073709551616)),.int .u64 (Int.ofNat (if a.toNat<b.toNat+1 then 1 else 0))])) w:=by
 constructor<;>kernel_rfl
theorem fn_add64:FnOk Tryz.prog 88 [.int .u64,.int .u64,.int .u64] [.val (.int .u64),.val (.int .u64)] noG preCarry outAdd64:=by
 rintro w M us ⟨a,b,c,⟨⟩⟩ _ _ ⟨u1,_,rfl,h1,u2,_,rfl,h2,u3,_,rfl,h3,rfl⟩ ⟨⟨ha0,ha⟩,⟨hb0,hb⟩,hc⟩
 have e1:u1=.int .u64 a:=by have:[u1]=[Value.int .u64 a]:=h1;simpa using this
 have e2:u2=.int .u64 b:=by have:[u2]=[Value.int .u64 b]:=h2;simpa using this
 have e3:u3=.int .u64 c:=by have:[u3]=[Value.int .u64 c]:=h3;simpa using this
 subst e1 e2 e3
 refine .inr ?_
 ·obtain⟨n,rfl⟩:=Int.eq_ofNat_of_zero_le ha0
  obtain⟨m,rfl⟩:=Int.eq_ofNat_of_zero_le hb0
  have e:∀ c:Nat,(Value.tuple #[.int .u64 (Int.ofNat (((n:Int).toNat+(m:Int).toNat+c)%18446744073709551616)),.int .u64 (Int.ofNat (((n:Int).toNat+(m:Int).toNat+c)/18446744073709551616))])=.tuple #[.int .u64 (((n:Int)+m+c)%18446744073709551616),.int .u64 (((n:Int)+m+c)/18446744073709551616)]:=by
   intro c;congr 3
  rcases hc with rfl|rfl
  ·exact⟨_,w,(run_add64 n m w).1,[_,_],none,e 0,⟨_,_,rfl,rfl,_,_,rfl,rfl,rfl⟩,Below.refl _ _⟩
  ·exact⟨_,w,(run_add64 n m w).2,[_,_],none,e 1,⟨_,_,rfl,rfl,_,_,rfl,rfl,rfl⟩,Below.refl _ _⟩
theorem fn_sub64:FnOk Tryz.prog 91 [.int .u64,.int .u64,.int .u64] [.val (.int .u64),.val (.int .u64)] noG preCarry outSub64:=by
 rintro w M us ⟨a,b,c,⟨⟩⟩ _ _ ⟨u1,_,rfl,h1,u2,_,rfl,h2,u3,_,rfl,h3,rfl⟩ ⟨⟨ha0,ha⟩,⟨hb0,hb⟩,hc⟩
 have e1:u1=.int .u64 a:=by have:[u1]=[Value.int .u64 a]:=h1;simpa using this
 have e2:u2=.int .u64 b:=by have:[u2]=[Value.int .u64 b]:=h2;simpa using this
 have e3:u3=.int .u64 c:=by have:[u3]=[Value.int .u64 c]:=h3;simpa using this
 subst e1 e2 e3
 refine .inr ?_
 ·obtain⟨n,rfl⟩:=Int.eq_ofNat_of_zero_le ha0
  obtain⟨m,rfl⟩:=Int.eq_ofNat_of_zero_le hb0
  have e:∀ c:Nat,c<=1->(Value.tuple #[.int .u64 (Int.ofNat (((n:Int).toNat+18446744073709551616-(m:Int).toNat-c)%18446744073709551616)),.int .u64 (Int.ofNat (if (n:Int).toNat<(m:Int).toNat+c then 1 else 0))])=.tuple #[.int .u64 (((n:Int)-m-c)%18446744073709551616),.int .u64 (if (n:Int)<m+c then 1 else 0)]:=by
   intro c hc
   have e1:(Int.ofNat (((n:Int).toNat+18446744073709551616-(m:Int).toNat-c)%18446744073709551616))=((n:Int)-m-c)%18446744073709551616:=by
    simp only[Int.toNat_natCast,Int.ofNat_eq_natCast];omega
   have e2:(Int.ofNat (if (n:Int).toNat<(m:Int).toNat+c then 1 else 0))=(if (n:Int)<m+c then 1 else 0):=by
    simp only[Int.toNat_natCast,Int.ofNat_eq_natCast]
    split<;>split<;>omega
   rw[e1,e2]
  rcases hc with rfl|rfl
  ·exact⟨_,w,(run_sub64 n m w).1,[_,_],none,e 0 (by omega),⟨_,_,rfl,rfl,_,_,rfl,rfl,rfl⟩,Below.refl _ _⟩
  ·exact⟨_,w,(run_sub64 n m w).2,[_,_],none,e 1 (by omega),⟨_,_,rfl,rfl,_,_,rfl,rfl,rfl⟩,Below.refl _ _⟩
noncomputable def spMul64:Nat × Eng.Spec:=(89,fnSpec [.int .u64,.int .u64] [.val (.int .u64),.val (.int .u64)] preMul64 outMul64)
noncomputable def spAdd64:Nat × Eng.Spec:=(88,fnSpec [.int .u64,.int .u64,.int .u64] [.val (.int .u64),.val (.int .u64)] preCarry outAdd64)
noncomputable def spSub64:Nat × Eng.Spec:=(91,fnSpec [.int .u64,.int .u64,.int .u64] [.val (.int .u64),.val (.int .u64)] preCarry outSub64)
def subPre:List Int->List Int->Int->Prop->Prop
 | a::us,b::vs,k,K=>preCarry (a,b,k,())/\subPre us vs (if a<b+k then 1 else 0) K
 | _,_,_,K=>K
theorem subPre_ok {K:Prop}:∀ (us vs:List Int) (k:Int),us.length=vs.length->Ws us->Ws vs->(k=0\/k=1)->K->subPre us vs k K:=by
 intro us
 induction us with
 | nil=>intro vs k h _ _ _ hK;exact hK
 | cons a us ih =>
  intro vs k h ha hb hk hK
  cases vs with
  | nil=>simp at h
  | cons b vs=>exact⟨⟨ha a (by simp),hb b (by simp),hk⟩,ih vs _ (by simpa using h) (fun y hy=>ha y (by simp[hy])) (fun y hy=>hb y (by simp[hy])) (by split<;>simp) hK⟩
def addPre:List Int->List Int->Int->Prop->Prop
 | a::us,b::vs,k,K=>preCarry (a,b,k,())/\addPre us vs ((a+b+k)/18446744073709551616) K
 | _,_,_,K=>K
theorem addPre_ok {K:Prop}:∀ (us vs:List Int) (k:Int),us.length=vs.length->Ws us->Ws vs->(k=0\/k=1)->K->addPre us vs k K:=by
 intro us
 induction us with
 | nil=>intro vs k h _ _ _ hK;exact hK
 | cons a us ih =>
  intro vs k h ha hb hk hK
  cases vs with
  | nil=>simp at h
  | cons b vs =>
   obtain⟨a0,a1⟩:=ha a (by simp)
   obtain⟨b0,b1⟩:=hb b (by simp)
   exact⟨⟨⟨a0,a1⟩,⟨b0,b1⟩,hk⟩,ih vs _ (by simpa using h) (fun y hy=>ha y (by simp[hy])) (fun y hy=>hb y (by simp[hy])) (by omega) hK⟩
end Go.Proofs.YteldhmehjkhanaaGreatDoor
namespace Cr
def rowM:List Int->List Int->List Int->Int->Int->Int->Int->List Int
 | x::xs,p::ps,t::ts,v,m,a,c =>
  (m*p+(x*v+t+a)%18446744073709551616+c)%18446744073709551616 ::
   rowM xs ps ts v m ((x*v+t+a)/18446744073709551616) ((m*p+(x*v+t+a)%18446744073709551616+c)/18446744073709551616)
 | _,_,_,_,_,a,c=>[(a+c)%18446744073709551616]
theorem rowM_spec {v m:Int} (hv:0<=v) (hm:0<=m):∀ (xs ps ts:List Int) (a c:Int),xs.length=ps.length->ps.length=ts.length->Ws xs->Ws ps->Ws ts->0<=a->0<=c ->
  (rowM xs ps ts v m a c).length=xs.length+1/\Ws (rowM xs ps ts v m a c) /\
  ∃ q,0<=q/\val (rowM xs ps ts v m a c)+pw (xs.length+1)*q=val xs*v+val ts+m*val ps+a+c:=by
 intro xs
 induction xs with
 | nil =>
  intro ps ts a c h1 h2 _ _ _ ha hc
  have e1:ps=[]:=by cases ps with|nil=>rfl|cons _ _=>simp at h1
  subst e1
  have e2:ts=[]:=by cases ts with|nil=>rfl|cons _ _=>simp at h2
  subst e2
  refine⟨rfl,?_,(a+c)/18446744073709551616,by omega,?_⟩
  ·intro x hx
   simp only[rowM,List.mem_singleton] at hx
   subst hx;exact⟨by omega,by omega⟩
  ·simp only[rowM,val,pw,List.length_nil,Int.mul_zero];omega
 | cons x xs ih =>
  intro ps ts a c h1 h2 hx hp ht ha hc
  cases ps with
  | nil=>simp at h1
  | cons p ps =>
   cases ts with
   | nil=>simp at h2
   | cons t ts =>
    obtain⟨x0,x1⟩:=hx x (by simp)
    obtain⟨p0,p1⟩:=hp p (by simp)
    obtain⟨t0,t1⟩:=ht t (by simp)
    have hxv:0<=x*v:=Int.mul_nonneg x0 hv
    have hmp:0<=m*p:=Int.mul_nonneg hm p0
    simp only[rowM]
    generalize hu:x*v+t+a=u
    generalize hz:m*p+u%18446744073709551616+c=z
    obtain⟨g1,g2,q,g3,g4⟩:=ih ps ts (u/18446744073709551616) (z/18446744073709551616) (by simpa using h1) (by simpa using h2) (fun y hy=>hx y (by simp[hy])) (fun y hy=>hp y (by simp[hy])) (fun y hy=>ht y (by simp[hy])) (by omega) (by omega)
    refine⟨by simp[g1],?_,q,g3,?_⟩
    ·intro y hy
     simp only[List.mem_cons] at hy
     rcases hy with rfl|hy
     ·exact⟨by omega,by omega⟩
     ·exact g2 y hy
    ·simp only[val,List.length_cons]
     rw[show pw (xs.length+1+1)=18446744073709551616*pw (xs.length+1) from rfl,Int.mul_assoc]
     rw[show (x+18446744073709551616*val xs)*v=x*v+18446744073709551616*(val xs*v) from by rw[Int.add_mul,Int.mul_assoc]]
     rw[show m*(p+18446744073709551616*val ps)=m*p+18446744073709551616*(m*val ps) from by rw[Int.mul_add,Int.mul_left_comm]]
     generalize pw (xs.length+1)*q=A at *
     generalize val xs*v=C at *
     generalize m*val ps=D at *
     generalize x*v=G at *
     generalize m*p=H at *
     omega
def stepM (cancel:Int):List Int->List Int->List Int->Int->List Int
 | x::xs,p::ps,t::ts,v =>
  rowM xs ps ts v (((x*v+t+0)%18446744073709551616)*cancel%18446744073709551616) ((x*v+t+0)/18446744073709551616)
   (((((x*v+t+0)%18446744073709551616)*cancel%18446744073709551616)*p+(x*v+t+0)%18446744073709551616+0)/18446744073709551616)
 | _,_,_,_=>[]
theorem stepM_spec {cancel v:Int} {xs ps ts:List Int} (h1:xs.length=ps.length) (h2:ps.length=ts.length) (hx:Ws xs) (hp:Ws ps) (ht:Ws ts) (hne:ps≠[]) (hv:U64 v)
  (hc:(ps.headD 0*cancel+1)%18446744073709551616=0) (hb:val ts<val xs+val ps) (hxp:val xs<val ps) (h2p:2*val ps<=pw ps.length) :
  (stepM cancel xs ps ts v).length=ts.length/\Ws (stepM cancel xs ps ts v)/\val (stepM cancel xs ps ts v)<val xs+val ps /\
  ∃ m,18446744073709551616*val (stepM cancel xs ps ts v)=val xs*v+val ts+m*val ps:=by
 obtain⟨hv0,hv1⟩:=hv
 cases ps with
 | nil=>exact absurd rfl hne
 | cons p ps =>
 cases xs with
 | nil=>simp at h1
 | cons x xs =>
 cases ts with
 | nil=>simp at h2
 | cons t ts =>
  obtain⟨x0,x1⟩:=hx x (by simp)
  obtain⟨p0,p1⟩:=hp p (by simp)
  obtain⟨t0,t1⟩:=ht t (by simp)
  have hxv:0<=x*v:=Int.mul_nonneg x0 hv0
  simp only[stepM]
  generalize hu:x*v+t+0=u
  generalize hs:u%18446744073709551616=s
  generalize hm:s*cancel%18446744073709551616=m
  have hm0:0<=m/\m<18446744073709551616:=by omega
  have hmp:0<=m*p:=Int.mul_nonneg hm0.1 p0
  -- m p+s is a multiple of 2^64
  have hdiv:(m*p+s+0)%18446744073709551616=0:=by
   simp only[List.headD_cons] at hc
   have e1:(m*p+s)%18446744073709551616=(s*(p*cancel+1))%18446744073709551616:=by
    have hk:=Int.emod_add_mul_ediv (s*cancel) 18446744073709551616
    rw[hm] at hk
    rw[show m*p+s=s*(p*cancel+1)+18446744073709551616*(-(s*cancel/18446744073709551616*p)) from by grind]
    exact Int.add_mul_emod_self_left _ _ _
   rw[Int.add_zero,e1,Int.mul_emod,hc];simp
  generalize hz:m*p+s+0=z at *
  obtain⟨g1,g2,q,g3,g4⟩:=rowM_spec hv0 hm0.1 xs ps ts (u/18446744073709551616) (z/18446744073709551616) (by simpa using h1) (by simpa using h2) (fun y hy=>hx y (by simp[hy])) (fun y hy=>hp y (by simp[hy])) (fun y hy=>ht y (by simp[hy])) (by omega) (by omega)
  have hlen:xs.length+1=(p::ps).length:=by simpa using h1
  have n0:=val_nonneg g2
  have X0:=val_nonneg hx
  have P0:=val_nonneg hp
  -- the whole
  have whole:18446744073709551616*(val xs*v+val ts+m*val ps+u/18446744073709551616+z/18446744073709551616)=val (x::xs)*v+val (t::ts)+m*val (p::ps):=by
   simp only[val]
   rw[show (x+18446744073709551616*val xs)*v=x*v+18446744073709551616*(val xs*v) from by rw[Int.add_mul,Int.mul_assoc]]
   rw[show m*(p+18446744073709551616*val ps)=m*p+18446744073709551616*(m*val ps) from by rw[Int.mul_add,Int.mul_left_comm]]
   generalize val xs*v=C at *
   generalize m*val ps=D at *
   generalize x*v=G at *
   generalize m*p=H at *
   omega
  -- its bound
  have b1:val (x::xs)*v<=val (x::xs)*18446744073709551615:=Int.mul_le_mul_of_nonneg_left (by omega) X0
  have b2:m*val (p::ps)<=18446744073709551615*val (p::ps):=Int.mul_le_mul_of_nonneg_right (by omega) P0
  generalize val (x::xs)*v=XV at *
  generalize hMP:m*val (p::ps)=MP at *
  have bnd:val xs*v+val ts+m*val ps+u/18446744073709551616+z/18446744073709551616<val (x::xs)+val (p::ps):=by omega
  rw[hlen] at g4
  have hq:q=0:=by
   rcases Int.lt_or_le 0 q with h|h
   ·exfalso
    have:pw (p::ps).length*1<=pw (p::ps).length*q:=Int.mul_le_mul_of_nonneg_left (by omega) (Int.le_of_lt (pw_pos _))
    omega
   ·omega
  subst hq
  simp only[Int.mul_zero,Int.add_zero] at g4
  refine⟨by rw[g1];simp at h1 h2 ⊢;omega,g2,by rw[g4];exact bnd,m,?_⟩
  rw[g4,whole,hMP]
def foldM (cancel:Int) (xs ps:List Int):List Int->List Int->List Int
 | ts,[]=>ts
 | ts,v::vs=>foldM cancel xs ps (stepM cancel xs ps ts v) vs
theorem foldM_spec {cancel:Int} {xs ps:List Int} (h1:xs.length=ps.length) (hx:Ws xs) (hp:Ws ps) (hne:ps≠[])
  (hc:(ps.headD 0*cancel+1)%18446744073709551616=0) (hxp:val xs<val ps) (h2p:2*val ps<=pw ps.length):∀ (vs ts:List Int),Ws vs->ps.length=ts.length->Ws ts->val ts<val xs+val ps ->
  (foldM cancel xs ps ts vs).length=ps.length/\Ws (foldM cancel xs ps ts vs)/\val (foldM cancel xs ps ts vs)<val xs+val ps /\
  ∃ m,pw vs.length*val (foldM cancel xs ps ts vs)=val xs*val vs+val ts+m*val ps:=by
 intro vs
 induction vs with
 | nil=>intro ts _ h2 ht hb;exact⟨h2.symm,ht,hb,0,by simp[foldM,pw,val]⟩
 | cons v vs ih =>
  intro ts hvs h2 ht hb
  obtain⟨g1,g2,g3,m,g4⟩:=stepM_spec h1 h2 hx hp ht hne (hvs v (by simp)) hc hb hxp h2p
  obtain⟨k1,k2,k3,m2,k4⟩:=ih (stepM cancel xs ps ts v) (fun y hy=>hvs y (by simp[hy])) (by rw[g1];exact h2) g2 g3
  refine⟨k1,k2,k3,m+18446744073709551616*m2,?_⟩
  simp only[foldM,pw,val,List.length_cons]
  rw[Int.mul_assoc,k4,Int.mul_add,Int.mul_add,g4]
  grind
theorem mont_spec {cancel:Int} {xs ps ys:List Int} (h1:xs.length=ps.length) (h2:ys.length=ps.length) (hx:Ws xs) (hp:Ws ps) (hy:Ws ys) (hne:ps≠[])
  (hc:(ps.headD 0*cancel+1)%18446744073709551616=0) (hxp:val xs<val ps) (h2p:2*val ps<=pw ps.length) {rinv:Int} (hr:(pw ps.length*rinv)%val ps=1%val ps) :
  (foldM cancel xs ps (List.replicate ps.length 0) ys).length=ps.length/\Ws (foldM cancel xs ps (List.replicate ps.length 0) ys)/\val (foldM cancel xs ps (List.replicate ps.length 0) ys)<2*val ps /\
  val (foldM cancel xs ps (List.replicate ps.length 0) ys)%val ps=(val xs*val ys*rinv)%val ps:=by
 have z:∀ n,val (List.replicate n 0)=0:=by
  intro n
  induction n with
  | zero=>rfl
  | succ n ih=>simp[List.replicate_succ,val,ih]
 have zw:Ws (List.replicate ps.length 0):=by
  intro x hx;rw[(List.mem_replicate.1 hx).2];exact⟨by omega,by omega⟩
 have X0:=val_nonneg hx
 obtain⟨k1,k2,k3,m,k4⟩:=foldM_spec h1 hx hp hne hc hxp h2p ys (List.replicate ps.length 0) hy (by simp) zw (by rw[z];omega)
 refine⟨k1,k2,by omega,?_⟩
 rw[z,h2] at k4
 generalize val (foldM cancel xs ps (List.replicate ps.length 0) ys)=T at *
 have e1:(T*(pw ps.length*rinv))%val ps=T%val ps:=by
  rw[Int.mul_emod,hr,<- Int.mul_emod,Int.mul_one]
 rw[<- e1,show T*(pw ps.length*rinv)=(pw ps.length*T)*rinv from by rw[Int.mul_comm (pw ps.length) T,Int.mul_assoc],k4]
 rw[show (val xs*val ys+0+m*val ps)*rinv=val xs*val ys*rinv+(m*rinv)*val ps from by grind]
 exact Int.add_mul_emod_self_right _ _ _
end Cr
namespace Go.Proofs.YteldhmehjkhanaaGreatDoor.fp
noncomputable section
open Go Go.Eng Go.RowKit Cr
abbrev M:Int:=Mp
def ms:List Int:=[13402431016077863595,2210141511517208575,7435674573564081700,7239337960414712511,5412103778470702295,1873798617647539866]
abbrev rinv:Int:=Md.rinv Mp
theorem val_ms:val ms=M:=by decide
theorem ws_ms:Ws ms:=by intro x hx;simp[ms] at hx;rcases hx with rfl|rfl|rfl|rfl|rfl|rfl<;>exact⟨by decide,by decide⟩
theorem M_pos:0<M:=by decide
theorem M_two:2*M<=pw 6:=by decide
theorem pw_rinv:(pw 6*rinv)%M=1%M:=by decide
theorem ent_muladd:enters Tryz.prog 114 Tryz.f114:=ek
abbrev preMuladd:HL [.int .u64,.int .u64,.int .u64,.int .u64]->Prop:=fun (a,b,c,d,_)=>U64 a/\U64 b/\U64 c/\U64 d
abbrev outMuladd:HL [.int .u64,.int .u64,.int .u64,.int .u64]->HO [.val (.int .u64),.val (.int .u64)]:=fun (a,b,c,d,_)=>(((a:Int)*b+c+d)/18446744073709551616,(a*b+c+d)%18446744073709551616,())
theorem fn_muladd:FnOk Tryz.prog 114 [.int .u64,.int .u64,.int .u64,.int .u64] [.val (.int .u64),.val (.int .u64)] noG preMuladd outMuladd:=by
 refine fn_of_vc (sp:=sps [spMul64,spAdd64]) (spk (fok fn_mul64) (spk (fok fn_add64) snl)) mixed ent_muladd (by decide) (by decide) ?_
 rintro w M0 ⟨a,b,c,d,⟨⟩⟩ _ ⟨⟨ha0,ha⟩,⟨hb0,hb⟩,⟨hc0,hc⟩,hd0,hd⟩
 have hab:=mul_bd (m:=18446744073709551615) (n:=18446744073709551615) ha0 (by omega) hb0 (by omega)
 refine vcx (X:=(preMul64 (a,b,())/\preCarry (a*b%18446744073709551616,c,(0:Int),())/\preCarry ((a*b%18446744073709551616+c+0)%18446744073709551616,d,(0:Int),()) /\
   ((((a*b/18446744073709551616+(a*b%18446744073709551616+c+0)/18446744073709551616)%18446744073709551616+((a*b%18446744073709551616+c+0)%18446744073709551616+d+0)/18446744073709551616)%18446744073709551616,
    ((a*b%18446744073709551616+c+0)%18446744073709551616+d+0)%18446744073709551616,()):Int × Int × Unit)=outMuladd (a,b,c,d,()))) (by kernel_rfl) ?_
 refine⟨⟨⟨ha0,ha⟩,hb0,hb⟩,⟨⟨by omega,by omega⟩,⟨hc0,hc⟩,.inl rfl⟩,⟨⟨by omega,by omega⟩,⟨hd0,hd⟩,.inl rfl⟩,?_⟩
 simp only[outMuladd,Prod.mk.injEq,and_true]
 generalize (a:Int)*b=ab at *
 exact⟨by omega,by omega⟩
def spMuladd:Nat × Eng.Spec:=(114,fnSpec [.int .u64,.int .u64,.int .u64,.int .u64] [.val (.int .u64),.val (.int .u64)] preMuladd outMuladd)
abbrev pre2:HL [(.arr 6 (.int .u64)),(.arr 6 (.int .u64))]->Prop:=fun (xs,ys,_)=>Ws xs/\Ws ys
abbrev outMinus:HL [(.arr 6 (.int .u64)),(.arr 6 (.int .u64))]->HO [.val (.arr 6 (.int .u64)),.val (.int .u64)]:=fun (xs,ys,_)=>(lim 6 (val xs-val ys),if val xs<val ys then (1:Int) else 0,())
abbrev outPlus:HL [(.arr 6 (.int .u64)),(.arr 6 (.int .u64))]->HO [.val (.arr 6 (.int .u64))]:=fun (xs,ys,_)=>(lim 6 (val xs+val ys),())
theorem ent_minus:enters Tryz.prog 67 Tryz.f67:=ek
theorem fn_minus:FnOk Tryz.prog 67 [(.arr 6 (.int .u64)),(.arr 6 (.int .u64))] [.val (.arr 6 (.int .u64)),.val (.int .u64)] noG pre2 outMinus:=by
 refine fn_of_vc (sp:=sps [spSub64]) (spk (fok fn_sub64) snl) mixed ent_minus (by decide) (by decide) ?_
 rintro w M0 ⟨xs,ys,⟨⟩⟩ ⟨⟨h1,_⟩,⟨h2,_⟩,_⟩ ⟨hx,hy⟩
 match xs,ys,h1,h2,hx,hy with
 | [a0,a1,a2,a3,a4,a5],[b0,b1,b2,b3,b4,b5],_,_,hx,hy =>
  refine vcx (X:=subPre [a0,a1,a2,a3,a4,a5] [b0,b1,b2,b3,b4,b5] 0 (((subL [a0,a1,a2,a3,a4,a5] [b0,b1,b2,b3,b4,b5] 0).1,(subL [a0,a1,a2,a3,a4,a5] [b0,b1,b2,b3,b4,b5] 0).2,())=outMinus ([a0,a1,a2,a3,a4,a5],[b0,b1,b2,b3,b4,b5],()))) (by kernel_rfl) ?_
  refine subPre_ok _ _ 0 rfl hx hy (.inl rfl) ?_
  obtain⟨e1,e2⟩:=subL_eq (us:=[a0,a1,a2,a3,a4,a5]) (vs:=[b0,b1,b2,b3,b4,b5]) rfl hx hy
  rw[e1,e2]
  rfl
def spMinus:Nat × Eng.Spec:=(67,fnSpec [(.arr 6 (.int .u64)),(.arr 6 (.int .u64))] [.val (.arr 6 (.int .u64)),.val (.int .u64)] pre2 outMinus)
theorem ent_plus:enters Tryz.prog 116 Tryz.f116:=ek
theorem fn_plus:FnOk Tryz.prog 116 [(.arr 6 (.int .u64)),(.arr 6 (.int .u64))] [.val (.arr 6 (.int .u64))] noG pre2 outPlus:=by
 refine fn_of_vc (sp:=sps [spAdd64]) (spk (fok fn_add64) snl) mixed ent_plus (by decide) (by decide) ?_
 rintro w M0 ⟨xs,ys,⟨⟩⟩ ⟨⟨h1,_⟩,⟨h2,_⟩,_⟩ ⟨hx,hy⟩
 match xs,ys,h1,h2,hx,hy with
 | [a0,a1,a2,a3,a4,a5],[b0,b1,b2,b3,b4,b5],_,_,hx,hy =>
  refine vcx (X:=addPre [a0,a1,a2,a3,a4,a5] [b0,b1,b2,b3,b4,b5] 0 (((addL [a0,a1,a2,a3,a4,a5] [b0,b1,b2,b3,b4,b5] 0).1,())=outPlus ([a0,a1,a2,a3,a4,a5],[b0,b1,b2,b3,b4,b5],()))) (by kernel_rfl) ?_
  refine addPre_ok _ _ 0 rfl hx hy (.inl rfl) ?_
  rw[addL_eq (us:=[a0,a1,a2,a3,a4,a5]) (vs:=[b0,b1,b2,b3,b4,b5]) rfl hx hy]
  rfl
def spPlus:Nat × Eng.Spec:=(116,fnSpec [(.arr 6 (.int .u64)),(.arr 6 (.int .u64))] [.val (.arr 6 (.int .u64))] pre2 outPlus)
theorem ent_modulus:enters Tryz.prog 117 Tryz.f117:=ek
theorem fn_modulus:FnOk Tryz.prog 117 [] [.val (.arr 6 (.int .u64))] noG (fun _=>True) (fun _=>(ms,())):=by
 refine fn_of_vc (sp:=sps []) snl mixed ent_modulus (by decide) (by decide) ?_
 intro w M0 xs _ _
 exact vcx (X:=((ms,()):List Int × Unit)=(ms,())) (by kernel_rfl) rfl
def spModulus:Nat × Eng.Spec:=(117,fnSpec [] [.val (.arr 6 (.int .u64))] (fun _=>True) (fun _=>(ms,())))
abbrev preFit:HL [(.arr 6 (.int .u64))]->Prop:=fun (xs,_)=>Ws xs
abbrev outFit:HL [(.arr 6 (.int .u64))]->HO [.val (.arr 6 (.int .u64))]:=fun (xs,_)=>(if val xs<M then xs else lim 6 (val xs-M),())
theorem ent_fit:enters Tryz.prog 115 Tryz.f115:=ek
theorem fn_fit:FnOk Tryz.prog 115 [(.arr 6 (.int .u64))] [.val (.arr 6 (.int .u64))] noG preFit outFit:=by
 refine fn_of_vc (sp:=sps [spMinus,spModulus]) (spk (fok fn_minus) (spk (fok fn_modulus) snl)) mixed ent_fit (by decide) (by decide) ?_
 rintro w M0 ⟨xs,⟨⟩⟩ _ hx
 refine vcx (X:=(True/\(Ws xs/\Ws ms)/\((((if val xs<val ms then 1 else 0:Int) != 0)=true->((xs,()):List Int × Unit)=outFit (xs,()))/\(((if val xs<val ms then 1 else 0:Int) != 0)=false->((lim 6 (val xs-val ms),()):List Int × Unit)=outFit (xs,()))))) (by kernel_rfl) ?_
 refine⟨trivial,⟨hx,ws_ms⟩,?_⟩
 rw[val_ms]
 by_cases h:val xs<M
 ·simp[h,outFit]
 ·simp[h,outFit]
def spFit:Nat × Eng.Spec:=(115,fnSpec [(.arr 6 (.int .u64))] [.val (.arr 6 (.int .u64))] preFit outFit)
abbrev preTimes:HL [(.arr 6 (.int .u64)),(.arr 6 (.int .u64))]->Prop:=fun (xs,ys,_)=>Ws xs/\Ws ys/\val xs<M
abbrev outTimes:HL [(.arr 6 (.int .u64)),(.arr 6 (.int .u64))]->HO [.val (.arr 6 (.int .u64))]:=fun (xs,ys,_)=>(lim 6 (val xs*val ys*rinv%M),())
theorem ent_times:enters Tryz.prog 90 Tryz.f90:=ek
def timesI (xs ys:List Int) (g:Int × List Int):St :=
 mkSt Tryz.f90.ntmps 104 ([(2,.is (.one (.ptr 0 0))),(4,.is (.one (.ptr 16 0)))]++[(7,sI .u64 (g.2.getD 0 0)),(8,sI .u64 (g.2.getD 1 0)),(9,sI .u64 (g.2.getD 2 0)),(10,sI .u64 (g.2.getD 3 0)),(11,sI .u64 (g.2.getD 4 0)),(12,sI .u64 (g.2.getD 5 0))]++[(16,sA .u64 6 ys),(17,sI .i64 g.1)])
  [(0,[.ints .u64 6 xs]),(16,[.ints .u64 6 (zeros 6)])]
def timesO (g:Int × List Int):St:=mkSt Tryz.f90.ntmps 104 ([(4,.is (.one (.ptr 16 0)))]++[(7,sI .u64 (g.2.getD 0 0)),(8,sI .u64 (g.2.getD 1 0)),(9,sI .u64 (g.2.getD 2 0)),(10,sI .u64 (g.2.getD 3 0)),(11,sI .u64 (g.2.getD 4 0)),(12,sI .u64 (g.2.getD 5 0))]) [(16,[.ints .u64 6 (zeros 6)])]
def timesN (xs ys:List Int) (g:Int × List Int):Int × List Int:=(IntKind.i64.wrap (g.1+1),stepM 9940570264628428797 xs ms g.2 (ys.getD g.1.toNat 0))
def rowPre:List Int->List Int->List Int->Int->Int->Int->Int->Prop->Prop
 | x::xs,p::ps,t::ts,v,m,a,c,K =>
  preMuladd (x,v,t,a,())/\preMuladd (m,p,(x*v+t+a)%18446744073709551616,c,()) /\
   rowPre xs ps ts v m ((x*v+t+a)/18446744073709551616) ((m*p+(x*v+t+a)%18446744073709551616+c)/18446744073709551616) K
 | _,_,_,_,_,_,_,K=>K
theorem rowPre_ok {K:Prop} {v m:Int} (hv:U64 v) (hm:U64 m) (hK:K):∀ (xs ps ts:List Int) (a c:Int),Ws xs->Ws ps->Ws ts->U64 a->U64 c->rowPre xs ps ts v m a c K:=by
 intro xs
 induction xs with
 | nil=>intro ps ts a c _ _ _ _ _;exact hK
 | cons x xs ih =>
  intro ps ts a c hx hp ht ha hc
  cases ps with
  | nil=>exact hK
  | cons p ps =>
   cases ts with
   | nil=>exact hK
   | cons t ts =>
    have x1:=hx x (by simp)
    have p1:=hp p (by simp)
    have t1:=ht t (by simp)
    have hxv:=mul_bd (m:=18446744073709551615) (n:=18446744073709551615) x1.1 (by have:=x1.2;omega) hv.1 (by have:=hv.2;omega)
    have hmp:=mul_bd (m:=18446744073709551615) (n:=18446744073709551615) hm.1 (by have:=hm.2;omega) p1.1 (by have:=p1.2;omega)
    obtain⟨t2,t3⟩:=t1
    obtain⟨a2,a3⟩:=ha
    obtain⟨c2,c3⟩:=hc
    simp only[rowPre]
    generalize x*v=xv at *
    generalize m*p=mp at *
    refine⟨⟨x1,hv,⟨t2,t3⟩,a2,a3⟩,⟨hm,p1,⟨by omega,by omega⟩,c2,c3⟩,?_⟩
    exact ih ps ts _ _ (fun y hy=>hx y (by simp[hy])) (fun y hy=>hp y (by simp[hy])) (fun y hy=>ht y (by simp[hy])) ⟨by omega,by omega⟩ ⟨by omega,by omega⟩
def stepPre (xs ps ts:List Int) (v:Int) (K:Prop):Prop :=
 match xs,ps,ts with
 | x::xs,p::ps,t::ts =>
  preMuladd (x,v,t,(0:Int),())/\preMuladd (((x*v+t+0)%18446744073709551616)*9940570264628428797%18446744073709551616,p,(x*v+t+0)%18446744073709551616,(0:Int),()) /\
  rowPre xs ps ts v (((x*v+t+0)%18446744073709551616)*9940570264628428797%18446744073709551616) ((x*v+t+0)/18446744073709551616)
   (((((x*v+t+0)%18446744073709551616)*9940570264628428797%18446744073709551616)*p+(x*v+t+0)%18446744073709551616+0)/18446744073709551616) K
 | _,_,_=>K
theorem stepPre_ok {K:Prop} {v:Int} (hv:U64 v) (hK:K) {xs ps ts:List Int} (hx:Ws xs) (hp:Ws ps) (ht:Ws ts):stepPre xs ps ts v K:=by
 unfold stepPre
 split
 ·rename_i x xs p ps t ts
  have x1:=hx x (by simp)
  have p1:=hp p (by simp)
  have t1:=ht t (by simp)
  have hxv:=mul_bd (m:=18446744073709551615) (n:=18446744073709551615) x1.1 (by have:=x1.2;omega) hv.1 (by have:=hv.2;omega)
  obtain⟨t2,t3⟩:=t1
  generalize x*v=xv at *
  generalize hm:((xv+t+0)%18446744073709551616)*9940570264628428797%18446744073709551616=m
  have hm1:U64 m:=⟨by omega,by omega⟩
  have hmp:=mul_bd (m:=18446744073709551615) (n:=18446744073709551615) hm1.1 (by have:=hm1.2;omega) p1.1 (by have:=p1.2;omega)
  generalize m*p=mp at *
  refine⟨⟨x1,hv,⟨t2,t3⟩,by omega,by omega⟩,⟨hm1,p1,⟨by omega,by omega⟩,by omega,by omega⟩,?_⟩
  exact rowPre_ok hv hm1 hK xs ps ts _ _ (fun y hy=>hx y (by simp[hy])) (fun y hy=>hp y (by simp[hy])) (fun y hy=>ht y (by simp[hy])) ⟨by omega,by omega⟩ ⟨by omega,by omega⟩
 ·exact hK
def tsAt (xs ys:List Int) (k:Nat):List Int:=foldM 9940570264628428797 xs ms (List.replicate 6 0) (ys.take k)
def timesJ (xs ys:List Int) (g:Int × List Int):Prop:=∃ k:Nat,k<=6/\g=((k:Int),tsAt xs ys k)
theorem foldM_snoc {can:Int} {xs ps:List Int}:∀ (vs ts:List Int) (v:Int),foldM can xs ps ts (vs++[v])=stepM can xs ps (foldM can xs ps ts vs) v:=by
 intro vs
 induction vs with
 | nil=>intro ts v;rfl
 | cons u vs ih=>intro ts v;exact ih _ _
theorem fn_times:FnOk Tryz.prog 90 [(.arr 6 (.int .u64)),(.arr 6 (.int .u64))] [.val (.arr 6 (.int .u64))] noG preTimes outTimes:=by
 refine fn_of_tr (sp:=sps [spMuladd,spFit]) ent_times (by decide) (by decide) (by kernel_rfl) ?_
 have hsp:SpecsOk Tryz.prog (sps [spMuladd,spFit]):=spk (fok fn_muladd) (spk (fok fn_fit) snl)
 rintro w M0 ⟨xs,ys,⟨⟩⟩ ⟨⟨h1,_⟩,⟨h2,_⟩,_⟩ ⟨hx,hy,hxM⟩
 match xs,h1,hx,hxM with
 | [a0,a1,a2,a3,a4,a5],_,hx,hxM =>
  have hyl:List.length ys=6:=h2
  have hxl:[a0,a1,a2,a3,a4,a5].length=ms.length:=rfl
  have hfold:∀ k,(tsAt [a0,a1,a2,a3,a4,a5] ys k).length=ms.length/\Ws (tsAt [a0,a1,a2,a3,a4,a5] ys k)/\val (tsAt [a0,a1,a2,a3,a4,a5] ys k)<val [a0,a1,a2,a3,a4,a5]+val ms:=by
   intro k
   have:=foldM_spec (cancel:=9940570264628428797) hxl hx ws_ms (by simp[ms]) (by decide) (by rw[val_ms];exact hxM) (by rw[val_ms];exact M_two) (ys.take k) (List.replicate 6 0) (fun y hy'=>hy y (List.mem_of_mem_take hy')) (by rfl)
    (by intro x hx;rw[(List.mem_replicate.1 hx).2];exact⟨by omega,by omega⟩) (by rw[val_ms,show val (List.replicate 6 0)=0 from by decide];have:=val_nonneg hx;have:=M_pos;omega)
   exact⟨this.1,this.2.1,this.2.2.1⟩
  have hmont:=mont_spec (cancel:=9940570264628428797) (xs:=[a0,a1,a2,a3,a4,a5]) (ps:=ms) (ys:=ys) (rinv:=rinv) hxl hyl hx ws_ms hy (by simp[ms]) (by decide) (by rw[val_ms];exact hxM) (by rw[val_ms];exact M_two) (by rw[val_ms];exact pw_rinv)
  rw[val_ms] at hmont
  -- what holds at each round's head
  have J0:timesJ [a0,a1,a2,a3,a4,a5] ys (0,List.replicate 6 0):=⟨0,by omega,by simp[tsAt,foldM]⟩
  show Tr _ _ _ _ _ _ _
  refine tr_cut hsp mixed 3 (timesI [a0,a1,a2,a3,a4,a5] ys (0,List.replicate 6 0)) True ?_ (fun _=>?_)
  ·refine vcx (X:=(timesI [a0,a1,a2,a3,a4,a5] ys (0,List.replicate 6 0)).triv True) (by kernel_rfl) (tvi trivial)
  refine tr_loopN hsp mixed (timesI [a0,a1,a2,a3,a4,a5] ys) (timesJ [a0,a1,a2,a3,a4,a5] ys) (fun g=>(6-g.1).toNat) (timesN [a0,a1,a2,a3,a4,a5] ys) timesO (fun g=>g.2=tsAt [a0,a1,a2,a3,a4,a5] ys 6) (0,List.replicate 6 0) (c:=nthC (codeOf Tryz.f90) 3) (by kernel_rfl) (by kernel_rfl)
   (le_of_proj (by kernel_rfl) (by kernel_rfl) J0) ?_ ?_
  ·rintro g ⟨k,hk,rfl⟩
   obtain⟨f1,f2,f3⟩:=hfold k
   have hts:∃ t0 t1 t2 t3 t4 t5,tsAt [a0,a1,a2,a3,a4,a5] ys k=[t0,t1,t2,t3,t4,t5]:=by
    match tsAt [a0,a1,a2,a3,a4,a5] ys k,f1 with
    | [t0,t1,t2,t3,t4,t5],_=>exact⟨_,_,_,_,_,_,rfl⟩
   obtain⟨t0,t1,t2,t3,t4,t5,hts⟩:=hts
   rw[hts] at f2 ⊢
   refine vcx (X:=((decide ((k:Int)<6)=true->(0<=(k:Int)/\(k:Int)<(6:Nat))/\stepPre [a0,a1,a2,a3,a4,a5] ms [t0,t1,t2,t3,t4,t5] (ys.getD (k:Int).toNat 0) ((timesI [a0,a1,a2,a3,a4,a5] ys (timesN [a0,a1,a2,a3,a4,a5] ys ((k:Int),[t0,t1,t2,t3,t4,t5]))).triv (timesJ [a0,a1,a2,a3,a4,a5] ys (timesN [a0,a1,a2,a3,a4,a5] ys ((k:Int),[t0,t1,t2,t3,t4,t5]))/\(6-(timesN [a0,a1,a2,a3,a4,a5] ys ((k:Int),[t0,t1,t2,t3,t4,t5])).1).toNat<(6-(k:Int)).toNat)))
    /\ (decide ((k:Int)<6)=false->(timesO ((k:Int),[t0,t1,t2,t3,t4,t5])).triv ([t0,t1,t2,t3,t4,t5]=tsAt [a0,a1,a2,a3,a4,a5] ys 6)))) (by kernel_rfl) ?_
   constructor
   ·intro hlt
    have hlt:k<6:=by have:=of_decide_eq_true hlt;omega
    have hv:U64 (ys.getD (k:Int).toNat 0):=by
     rw[List.getD_eq_getElem?_getD,Int.toNat_natCast,List.getElem?_eq_getElem (by omega)]
     exact hy _ (List.getElem_mem _)
    refine⟨⟨by omega,by omega⟩,stepPre_ok hv (tvi ⟨⟨k+1,by omega,?_⟩,?_⟩) hx ws_ms f2⟩
    ·have e1:IntKind.i64.wrap ((k:Int)+1)=((k+1:Nat):Int):=by rw[wrap_i64 (by omega) (by omega)];omega
     have e2:tsAt [a0,a1,a2,a3,a4,a5] ys (k+1)=stepM 9940570264628428797 [a0,a1,a2,a3,a4,a5] ms (tsAt [a0,a1,a2,a3,a4,a5] ys k) (ys.getD (k:Int).toNat 0):=by
      unfold tsAt
      rw[List.take_succ_eq_append_getElem (by omega),foldM_snoc]
      rw[List.getD_eq_getElem?_getD,Int.toNat_natCast,List.getElem?_eq_getElem (by omega)]
      rfl
     show (IntKind.i64.wrap ((k:Int)+1),stepM 9940570264628428797 [a0,a1,a2,a3,a4,a5] ms [t0,t1,t2,t3,t4,t5] (ys.getD (k:Int).toNat 0))=_
     rw[e1,e2,hts]
    ·show (6-IntKind.i64.wrap ((k:Int)+1)).toNat<_
     rw[wrap_i64 (by omega) (by omega)];omega
   ·intro hge
    have hge:k=6:=by
     have:=of_decide_eq_false hge
     omega
    refine tvi ?_
    rw[<- hts,hge]
  ·rintro⟨i,ts⟩ hts
   have hts:ts=tsAt [a0,a1,a2,a3,a4,a5] ys 6:=hts
   obtain⟨f1,f2,f3⟩:=hfold 6
   have hall:ys.take 6=ys:=List.take_of_length_le (by omega)
   have hts2:∃ t0 t1 t2 t3 t4 t5,tsAt [a0,a1,a2,a3,a4,a5] ys 6=[t0,t1,t2,t3,t4,t5]:=by
    match tsAt [a0,a1,a2,a3,a4,a5] ys 6,f1 with
    | [t0,t1,t2,t3,t4,t5],_=>exact⟨_,_,_,_,_,_,rfl⟩
   obtain⟨t0,t1,t2,t3,t4,t5,hts2⟩:=hts2
   subst hts
   rw[hts2] at f2 ⊢
   refine tr_vc hsp mixed _ _ ?_
   refine vcx (X:=(Ws [t0,t1,t2,t3,t4,t5]/\((if val [t0,t1,t2,t3,t4,t5]<M then [t0,t1,t2,t3,t4,t5] else lim 6 (val [t0,t1,t2,t3,t4,t5]-M),()):List Int × Unit)=outTimes ([a0,a1,a2,a3,a4,a5],ys,()))) (by kernel_rfl) ?_
   refine⟨f2,?_⟩
   have e:foldM 9940570264628428797 [a0,a1,a2,a3,a4,a5] ms (List.replicate ms.length 0) ys=[t0,t1,t2,t3,t4,t5]:=by
    have:=hts2
    unfold tsAt at this
    rw[hall] at this
    exact this
   rw[e] at hmont
   obtain⟨m1,m2,m3,m4⟩:=hmont
   have m0:=val_nonneg m2
   have hM:=M_pos
   simp only[outTimes,Prod.mk.injEq,and_true]
   rw[<- m4]
   split
   ·rename_i hlt
    rw[Int.emod_eq_of_lt m0 hlt]
    exact (lim_val f2).symm
   ·rename_i hge
    rw[show val [t0,t1,t2,t3,t4,t5]%M=val [t0,t1,t2,t3,t4,t5]-M from by
     rw[<- Int.sub_emod_right,Int.emod_eq_of_lt (by omega) (by omega)]]
def spTimes:Nat × Eng.Spec:=(90,fnSpec [(.arr 6 (.int .u64)),(.arr 6 (.int .u64))] [.val (.arr 6 (.int .u64))] preTimes outTimes)
end
end Go.Proofs.YteldhmehjkhanaaGreatDoor.fp
namespace Go.Proofs.YteldhmehjkhanaaGreatDoor.fp
noncomputable section
open Go Go.Eng Go.RowKit Cr
theorem ent_mul:enters Tryz.prog 122 Tryz.f122:=ek
abbrev outMul:HL [.fp,.fp]->HO [.val .fp]:=fun (x,y,_)=>((x:Fp)*y,())
theorem fn_mul:FnOk Tryz.prog 122 [.fp,.fp] [.val .fp] noG (fun _=>True) outMul:=by
 refine fn_of_vc (sp:=sps [spTimes]) (spk (fok fn_times) snl) mixed ent_mul (by decide) (by decide) ?_
 rintro w M0 ⟨x,y,⟨⟩⟩ _ _
 refine vcx (X:=(preTimes (enc x,enc y,())/\Canon Mp (lim 6 (val (enc x)*val (enc y)*rinv%M))/\(dec (lim 6 (val (enc x)*val (enc y)*rinv%M)),())=outMul (x,y,()))) (by kernel_rfl) ?_
 rw[show lim 6 (val (enc x)*val (enc y)*rinv%M)=enc (x*y) from times_enc x y]
 exact⟨⟨enc_ws x,enc_ws y,(enc_canon x).2.2⟩,enc_canon _,by rw[dec_enc]⟩
def spMul:Nat × Eng.Spec:=(122,fnSpec [.fp,.fp] [.val .fp] (fun _=>True) outMul)
theorem ent_square:enters Tryz.prog 121 Tryz.f121:=ek
abbrev outSquare:HL [.fp]->HO [.val .fp]:=fun (x,_)=>((x:Fp)*x,())
theorem fn_square:FnOk Tryz.prog 121 [.fp] [.val .fp] noG (fun _=>True) outSquare:=by
 refine fn_of_vc (sp:=sps [spTimes]) (spk (fok fn_times) snl) mixed ent_square (by decide) (by decide) ?_
 rintro w M0 ⟨x,⟨⟩⟩ _ _
 refine vcx (X:=(preTimes (enc x,enc x,())/\Canon Mp (lim 6 (val (enc x)*val (enc x)*rinv%M))/\(dec (lim 6 (val (enc x)*val (enc x)*rinv%M)),())=outSquare (x,()))) (by kernel_rfl) ?_
 rw[show lim 6 (val (enc x)*val (enc x)*rinv%M)=enc (x*x) from times_enc x x]
 exact⟨⟨enc_ws x,enc_ws x,(enc_canon x).2.2⟩,enc_canon _,by rw[dec_enc]⟩
def spSquare:Nat × Eng.Spec:=(121,fnSpec [.fp] [.val .fp] (fun _=>True) outSquare)
theorem ent_add:enters Tryz.prog 123 Tryz.f123:=ek
abbrev outAdd:HL [.fp,.fp]->HO [.val .fp]:=fun (x,y,_)=>((x:Fp)+y,())
theorem fn_add:FnOk Tryz.prog 123 [.fp,.fp] [.val .fp] noG (fun _=>True) outAdd:=by
 refine fn_of_vc (sp:=sps [spFit,spPlus]) (spk (fok fn_fit) (spk (fok fn_plus) snl)) mixed ent_add (by decide) (by decide) ?_
 rintro w M0 ⟨x,y,⟨⟩⟩ _ _
 refine vcx (X:=(pre2 (enc x,enc y,())/\preFit (lim 6 (val (enc x)+val (enc y)),()) /\
  Canon Mp (if val (lim 6 (val (enc x)+val (enc y)))<M then lim 6 (val (enc x)+val (enc y)) else lim 6 (val (lim 6 (val (enc x)+val (enc y)))-M)) /\
  (dec (if val (lim 6 (val (enc x)+val (enc y)))<M then lim 6 (val (enc x)+val (enc y)) else lim 6 (val (lim 6 (val (enc x)+val (enc y)))-M)),())=outAdd (x,y,()))) (by kernel_rfl) ?_
 rw[show (if val (lim 6 (val (enc x)+val (enc y)))<M then lim 6 (val (enc x)+val (enc y)) else lim 6 (val (lim 6 (val (enc x)+val (enc y)))-M))=enc (x+y) from add_enc x y]
 exact⟨⟨enc_ws x,enc_ws y⟩,lim_ws _ _,enc_canon _,by rw[dec_enc]⟩
def spAdd:Nat × Eng.Spec:=(123,fnSpec [.fp,.fp] [.val .fp] (fun _=>True) outAdd)
theorem ent_sub:enters Tryz.prog 92 Tryz.f92:=ek
abbrev outSub:HL [.fp,.fp]->HO [.val .fp]:=fun (x,y,_)=>((x:Fp)-y,())
theorem fn_sub:FnOk Tryz.prog 92 [.fp,.fp] [.val .fp] noG (fun _=>True) outSub:=by
 refine fn_of_vc (sp:=sps [spMinus,spPlus,spModulus]) (spk (fok fn_minus) (spk (fok fn_plus) (spk (fok fn_modulus) snl))) mixed ent_sub (by decide) (by decide) ?_
 rintro w M0 ⟨x,y,⟨⟩⟩ _ _
 refine vcx (X:=(pre2 (enc x,enc y,()) /\
  ((((if val (enc x)<val (enc y) then 1 else 0:Int) != 0)=true->True/\pre2 (lim 6 (val (enc x)-val (enc y)),ms,())/\Canon Mp (lim 6 (val (lim 6 (val (enc x)-val (enc y)))+val ms))/\(dec (lim 6 (val (lim 6 (val (enc x)-val (enc y)))+val ms)),())=outSub (x,y,())) /\
   (((if val (enc x)<val (enc y) then 1 else 0:Int) != 0)=false->Canon Mp (lim 6 (val (enc x)-val (enc y)))/\(dec (lim 6 (val (enc x)-val (enc y))),())=outSub (x,y,()))))) (by kernel_rfl) ?_
 rw[val_ms]
 refine⟨⟨enc_ws x,enc_ws y⟩,?_⟩
 by_cases h:val (enc x)<val (enc y)
 ·rw[show lim 6 (val (lim 6 (val (enc x)-val (enc y)))+M)=enc (x-y) from sub_enc_lt h]
  exact⟨fun _=>⟨trivial,⟨lim_ws _ _,ws_ms⟩,enc_canon _,by rw[dec_enc]⟩,fun hf=>by simp[h] at hf⟩
 ·rw[show lim 6 (val (enc x)-val (enc y))=enc (x-y) from sub_enc_ge h]
  exact⟨fun hf=>by simp[h] at hf,fun _=>⟨enc_canon _,by rw[dec_enc]⟩⟩
def spSub:Nat × Eng.Spec:=(92,fnSpec [.fp,.fp] [.val .fp] (fun _=>True) outSub)
theorem ent_neg:enters Tryz.prog 68 Tryz.f68:=ek
abbrev outNeg:HL [.fp]->HO [.val .fp]:=fun (x,_)=>(-(x:Fp),())
theorem zero_sub' (x:Fp):0-x=-x:=Zm.ext (by rw[sub_v,neg_v,zero_v];simp)
theorem fn_neg:FnOk Tryz.prog 68 [.fp] [.val .fp] noG (fun _=>True) outNeg:=by
 refine fn_of_vc (sp:=sps [spSub]) (spk (fok fn_sub) snl) mixed ent_neg (by decide) (by decide) ?_
 rintro w M0 ⟨x,⟨⟩⟩ _ _
 refine vcx (X:=(True/\((0:Fp)-x,())=outNeg (x,()))) (by kernel_rfl) ?_
 exact⟨trivial,by rw[zero_sub']⟩
def spNeg:Nat × Eng.Spec:=(68,fnSpec [.fp] [.val .fp] (fun _=>True) outNeg)
theorem ent_zero:enters Tryz.prog 72 Tryz.f72:=ek
abbrev outZero:HL [.fp]->HO [.val .bool]:=fun (x,_)=>(decide ((x:Fp)=0),())
theorem fn_zero:FnOk Tryz.prog 72 [.fp] [.val .bool] noG (fun _=>True) outZero:=by
 refine fn_of_vc (sp:=sps []) snl mixed ent_zero (by decide) (by decide) ?_
 rintro w M0 ⟨x,⟨⟩⟩ _ _
 exact vcx (X:=((decide (x=(0:Fp)),())=outZero (x,()))) (by kernel_rfl) rfl
def spZero:Nat × Eng.Spec:=(72,fnSpec [.fp] [.val .bool] (fun _=>True) outZero)
theorem ent_one:enters Tryz.prog 156 Tryz.f156:=ek
theorem fn_one:FnOk Tryz.prog 156 [] [.val .fp] noG (fun _=>True) (fun _=>((1:Fp),())):=by
 refine fn_of_vc (sp:=sps []) snl mixed ent_one (by decide) (by decide) ?_
 rintro w M0 ⟨⟩ _ _
 refine vcx (X:=(Canon Mp [8505329371266088957,17002214543764226050,6865905132761471162,8632934651105793861,6631298214892334189,1582556514881692819]/\(dec [8505329371266088957,17002214543764226050,6865905132761471162,8632934651105793861,6631298214892334189,1582556514881692819],())=((1:Fp),()))) (by kernel_rfl) ?_
 refine⟨⟨rfl,?_,by decide⟩,?_⟩
 ·intro x hx;simp at hx;rcases hx with rfl|rfl|rfl|rfl|rfl|rfl<;>exact⟨by decide,by decide⟩
 ·rw[show (dec [8505329371266088957,17002214543764226050,6865905132761471162,8632934651105793861,6631298214892334189,1582556514881692819]:Fp)=1 from Zm.ext (by decide)]
def spOne:Nat × Eng.Spec:=(156,fnSpec [] [.val .fp] (fun _=>True) (fun _=>((1:Fp),())))
end
end Go.Proofs.YteldhmehjkhanaaGreatDoor.fp
namespace Go.Proofs.YteldhmehjkhanaaGreatDoor.fr
noncomputable section
open Go Go.Eng Go.RowKit Cr
abbrev M:Int:=Mr
def ms:List Int:=[18446744069414584321,6034159408538082302,3691218898639771653,8353516859464449352]
abbrev rinv:Int:=Md.rinv Mr
theorem val_ms:val ms=M:=by decide
theorem ws_ms:Ws ms:=by intro x hx;simp[ms] at hx;rcases hx with rfl|rfl|rfl|rfl<;>exact⟨by decide,by decide⟩
theorem M_pos:0<M:=by decide
theorem M_two:2*M<=pw 4:=by decide
theorem pw_rinv:(pw 4*rinv)%M=1%M:=by decide
theorem ent_muladd:enters Tryz.prog 65 Tryz.f65:=ek
abbrev preMuladd:HL [.int .u64,.int .u64,.int .u64,.int .u64]->Prop:=fun (a,b,c,d,_)=>U64 a/\U64 b/\U64 c/\U64 d
abbrev outMuladd:HL [.int .u64,.int .u64,.int .u64,.int .u64]->HO [.val (.int .u64),.val (.int .u64)]:=fun (a,b,c,d,_)=>(((a:Int)*b+c+d)/18446744073709551616,(a*b+c+d)%18446744073709551616,())
theorem fn_muladd:FnOk Tryz.prog 65 [.int .u64,.int .u64,.int .u64,.int .u64] [.val (.int .u64),.val (.int .u64)] noG preMuladd outMuladd:=by
 refine fn_of_vc (sp:=sps [spMul64,spAdd64]) (spk (fok fn_mul64) (spk (fok fn_add64) snl)) mixed ent_muladd (by decide) (by decide) ?_
 rintro w M0 ⟨a,b,c,d,⟨⟩⟩ _ ⟨⟨ha0,ha⟩,⟨hb0,hb⟩,⟨hc0,hc⟩,hd0,hd⟩
 have hab:=mul_bd (m:=18446744073709551615) (n:=18446744073709551615) ha0 (by omega) hb0 (by omega)
 refine vcx (X:=(preMul64 (a,b,())/\preCarry (a*b%18446744073709551616,c,(0:Int),())/\preCarry ((a*b%18446744073709551616+c+0)%18446744073709551616,d,(0:Int),()) /\
   ((((a*b/18446744073709551616+(a*b%18446744073709551616+c+0)/18446744073709551616)%18446744073709551616+((a*b%18446744073709551616+c+0)%18446744073709551616+d+0)/18446744073709551616)%18446744073709551616,
    ((a*b%18446744073709551616+c+0)%18446744073709551616+d+0)%18446744073709551616,()):Int × Int × Unit)=outMuladd (a,b,c,d,()))) (by kernel_rfl) ?_
 refine⟨⟨⟨ha0,ha⟩,hb0,hb⟩,⟨⟨by omega,by omega⟩,⟨hc0,hc⟩,.inl rfl⟩,⟨⟨by omega,by omega⟩,⟨hd0,hd⟩,.inl rfl⟩,?_⟩
 simp only[outMuladd,Prod.mk.injEq,and_true]
 generalize (a:Int)*b=ab at *
 exact⟨by omega,by omega⟩
def spMuladd:Nat × Eng.Spec:=(65,fnSpec [.int .u64,.int .u64,.int .u64,.int .u64] [.val (.int .u64),.val (.int .u64)] preMuladd outMuladd)
abbrev pre2:HL [(.arr 4 (.int .u64)),(.arr 4 (.int .u64))]->Prop:=fun (xs,ys,_)=>Ws xs/\Ws ys
abbrev outMinus:HL [(.arr 4 (.int .u64)),(.arr 4 (.int .u64))]->HO [.val (.arr 4 (.int .u64)),.val (.int .u64)]:=fun (xs,ys,_)=>(lim 4 (val xs-val ys),if val xs<val ys then (1:Int) else 0,())
abbrev outPlus:HL [(.arr 4 (.int .u64)),(.arr 4 (.int .u64))]->HO [.val (.arr 4 (.int .u64))]:=fun (xs,ys,_)=>(lim 4 (val xs+val ys),())
theorem ent_minus:enters Tryz.prog 86 Tryz.f86:=ek
theorem fn_minus:FnOk Tryz.prog 86 [(.arr 4 (.int .u64)),(.arr 4 (.int .u64))] [.val (.arr 4 (.int .u64)),.val (.int .u64)] noG pre2 outMinus:=by
 refine fn_of_vc (sp:=sps [spSub64]) (spk (fok fn_sub64) snl) mixed ent_minus (by decide) (by decide) ?_
 rintro w M0 ⟨xs,ys,⟨⟩⟩ ⟨⟨h1,_⟩,⟨h2,_⟩,_⟩ ⟨hx,hy⟩
 match xs,ys,h1,h2,hx,hy with
 | [a0,a1,a2,a3],[b0,b1,b2,b3],_,_,hx,hy =>
  refine vcx (X:=subPre [a0,a1,a2,a3] [b0,b1,b2,b3] 0 (((subL [a0,a1,a2,a3] [b0,b1,b2,b3] 0).1,(subL [a0,a1,a2,a3] [b0,b1,b2,b3] 0).2,())=outMinus ([a0,a1,a2,a3],[b0,b1,b2,b3],()))) (by kernel_rfl) ?_
  refine subPre_ok _ _ 0 rfl hx hy (.inl rfl) ?_
  obtain⟨e1,e2⟩:=subL_eq (us:=[a0,a1,a2,a3]) (vs:=[b0,b1,b2,b3]) rfl hx hy
  rw[e1,e2]
  rfl
def spMinus:Nat × Eng.Spec:=(86,fnSpec [(.arr 4 (.int .u64)),(.arr 4 (.int .u64))] [.val (.arr 4 (.int .u64)),.val (.int .u64)] pre2 outMinus)
theorem ent_plus:enters Tryz.prog 64 Tryz.f64:=ek
theorem fn_plus:FnOk Tryz.prog 64 [(.arr 4 (.int .u64)),(.arr 4 (.int .u64))] [.val (.arr 4 (.int .u64))] noG pre2 outPlus:=by
 refine fn_of_vc (sp:=sps [spAdd64]) (spk (fok fn_add64) snl) mixed ent_plus (by decide) (by decide) ?_
 rintro w M0 ⟨xs,ys,⟨⟩⟩ ⟨⟨h1,_⟩,⟨h2,_⟩,_⟩ ⟨hx,hy⟩
 match xs,ys,h1,h2,hx,hy with
 | [a0,a1,a2,a3],[b0,b1,b2,b3],_,_,hx,hy =>
  refine vcx (X:=addPre [a0,a1,a2,a3] [b0,b1,b2,b3] 0 (((addL [a0,a1,a2,a3] [b0,b1,b2,b3] 0).1,())=outPlus ([a0,a1,a2,a3],[b0,b1,b2,b3],()))) (by kernel_rfl) ?_
  refine addPre_ok _ _ 0 rfl hx hy (.inl rfl) ?_
  rw[addL_eq (us:=[a0,a1,a2,a3]) (vs:=[b0,b1,b2,b3]) rfl hx hy]
  rfl
def spPlus:Nat × Eng.Spec:=(64,fnSpec [(.arr 4 (.int .u64)),(.arr 4 (.int .u64))] [.val (.arr 4 (.int .u64))] pre2 outPlus)
theorem ent_modulus:enters Tryz.prog 87 Tryz.f87:=ek
theorem fn_modulus:FnOk Tryz.prog 87 [] [.val (.arr 4 (.int .u64))] noG (fun _=>True) (fun _=>(ms,())):=by
 refine fn_of_vc (sp:=sps []) snl mixed ent_modulus (by decide) (by decide) ?_
 intro w M0 xs _ _
 exact vcx (X:=((ms,()):List Int × Unit)=(ms,())) (by kernel_rfl) rfl
def spModulus:Nat × Eng.Spec:=(87,fnSpec [] [.val (.arr 4 (.int .u64))] (fun _=>True) (fun _=>(ms,())))
abbrev preFit:HL [(.arr 4 (.int .u64))]->Prop:=fun (xs,_)=>Ws xs
abbrev outFit:HL [(.arr 4 (.int .u64))]->HO [.val (.arr 4 (.int .u64))]:=fun (xs,_)=>(if val xs<M then xs else lim 4 (val xs-M),())
theorem ent_fit:enters Tryz.prog 63 Tryz.f63:=ek
theorem fn_fit:FnOk Tryz.prog 63 [(.arr 4 (.int .u64))] [.val (.arr 4 (.int .u64))] noG preFit outFit:=by
 refine fn_of_vc (sp:=sps [spMinus,spModulus]) (spk (fok fn_minus) (spk (fok fn_modulus) snl)) mixed ent_fit (by decide) (by decide) ?_
 rintro w M0 ⟨xs,⟨⟩⟩ _ hx
 refine vcx (X:=(True/\(Ws xs/\Ws ms)/\((((if val xs<val ms then 1 else 0:Int) != 0)=true->((xs,()):List Int × Unit)=outFit (xs,()))/\(((if val xs<val ms then 1 else 0:Int) != 0)=false->((lim 4 (val xs-val ms),()):List Int × Unit)=outFit (xs,()))))) (by kernel_rfl) ?_
 refine⟨trivial,⟨hx,ws_ms⟩,?_⟩
 rw[val_ms]
 by_cases h:val xs<M
 ·simp[h,outFit]
 ·simp[h,outFit]
def spFit:Nat × Eng.Spec:=(63,fnSpec [(.arr 4 (.int .u64))] [.val (.arr 4 (.int .u64))] preFit outFit)
abbrev preTimes:HL [(.arr 4 (.int .u64)),(.arr 4 (.int .u64))]->Prop:=fun (xs,ys,_)=>Ws xs/\Ws ys/\val xs<M
abbrev outTimes:HL [(.arr 4 (.int .u64)),(.arr 4 (.int .u64))]->HO [.val (.arr 4 (.int .u64))]:=fun (xs,ys,_)=>(lim 4 (val xs*val ys*rinv%M),())
theorem ent_times:enters Tryz.prog 35 Tryz.f35:=ek
def timesI (xs ys:List Int) (g:Int × List Int):St :=
 mkSt Tryz.f35.ntmps 88 ([(2,.is (.one (.ptr 0 0))),(4,.is (.one (.ptr 16 0)))]++[(7,sI .u64 (g.2.getD 0 0)),(8,sI .u64 (g.2.getD 1 0)),(9,sI .u64 (g.2.getD 2 0)),(10,sI .u64 (g.2.getD 3 0))]++[(14,sA .u64 4 ys),(15,sI .i64 g.1)])
  [(0,[.ints .u64 4 xs]),(16,[.ints .u64 4 (zeros 4)])]
def timesO (g:Int × List Int):St:=mkSt Tryz.f35.ntmps 88 ([(4,.is (.one (.ptr 16 0)))]++[(7,sI .u64 (g.2.getD 0 0)),(8,sI .u64 (g.2.getD 1 0)),(9,sI .u64 (g.2.getD 2 0)),(10,sI .u64 (g.2.getD 3 0))]) [(16,[.ints .u64 4 (zeros 4)])]
def timesN (xs ys:List Int) (g:Int × List Int):Int × List Int:=(IntKind.i64.wrap (g.1+1),stepM 18446744069414584319 xs ms g.2 (ys.getD g.1.toNat 0))
def rowPre:List Int->List Int->List Int->Int->Int->Int->Int->Prop->Prop
 | x::xs,p::ps,t::ts,v,m,a,c,K =>
  preMuladd (x,v,t,a,())/\preMuladd (m,p,(x*v+t+a)%18446744073709551616,c,()) /\
   rowPre xs ps ts v m ((x*v+t+a)/18446744073709551616) ((m*p+(x*v+t+a)%18446744073709551616+c)/18446744073709551616) K
 | _,_,_,_,_,_,_,K=>K
theorem rowPre_ok {K:Prop} {v m:Int} (hv:U64 v) (hm:U64 m) (hK:K):∀ (xs ps ts:List Int) (a c:Int),Ws xs->Ws ps->Ws ts->U64 a->U64 c->rowPre xs ps ts v m a c K:=by
 intro xs
 induction xs with
 | nil=>intro ps ts a c _ _ _ _ _;exact hK
 | cons x xs ih =>
  intro ps ts a c hx hp ht ha hc
  cases ps with
  | nil=>exact hK
  | cons p ps =>
   cases ts with
   | nil=>exact hK
   | cons t ts =>
    have x1:=hx x (by simp)
    have p1:=hp p (by simp)
    have t1:=ht t (by simp)
    have hxv:=mul_bd (m:=18446744073709551615) (n:=18446744073709551615) x1.1 (by have:=x1.2;omega) hv.1 (by have:=hv.2;omega)
    have hmp:=mul_bd (m:=18446744073709551615) (n:=18446744073709551615) hm.1 (by have:=hm.2;omega) p1.1 (by have:=p1.2;omega)
    obtain⟨t2,t3⟩:=t1
    obtain⟨a2,a3⟩:=ha
    obtain⟨c2,c3⟩:=hc
    simp only[rowPre]
    generalize x*v=xv at *
    generalize m*p=mp at *
    refine⟨⟨x1,hv,⟨t2,t3⟩,a2,a3⟩,⟨hm,p1,⟨by omega,by omega⟩,c2,c3⟩,?_⟩
    exact ih ps ts _ _ (fun y hy=>hx y (by simp[hy])) (fun y hy=>hp y (by simp[hy])) (fun y hy=>ht y (by simp[hy])) ⟨by omega,by omega⟩ ⟨by omega,by omega⟩
def stepPre (xs ps ts:List Int) (v:Int) (K:Prop):Prop :=
 match xs,ps,ts with
 | x::xs,p::ps,t::ts =>
  preMuladd (x,v,t,(0:Int),())/\preMuladd (((x*v+t+0)%18446744073709551616)*18446744069414584319%18446744073709551616,p,(x*v+t+0)%18446744073709551616,(0:Int),()) /\
  rowPre xs ps ts v (((x*v+t+0)%18446744073709551616)*18446744069414584319%18446744073709551616) ((x*v+t+0)/18446744073709551616)
   (((((x*v+t+0)%18446744073709551616)*18446744069414584319%18446744073709551616)*p+(x*v+t+0)%18446744073709551616+0)/18446744073709551616) K
 | _,_,_=>K
theorem stepPre_ok {K:Prop} {v:Int} (hv:U64 v) (hK:K) {xs ps ts:List Int} (hx:Ws xs) (hp:Ws ps) (ht:Ws ts):stepPre xs ps ts v K:=by
 unfold stepPre
 split
 ·rename_i x xs p ps t ts
  have x1:=hx x (by simp)
  have p1:=hp p (by simp)
  have t1:=ht t (by simp)
  have hxv:=mul_bd (m:=18446744073709551615) (n:=18446744073709551615) x1.1 (by have:=x1.2;omega) hv.1 (by have:=hv.2;omega)
  obtain⟨t2,t3⟩:=t1
  generalize x*v=xv at *
  generalize hm:((xv+t+0)%18446744073709551616)*18446744069414584319%18446744073709551616=m
  have hm1:U64 m:=⟨by omega,by omega⟩
  have hmp:=mul_bd (m:=18446744073709551615) (n:=18446744073709551615) hm1.1 (by have:=hm1.2;omega) p1.1 (by have:=p1.2;omega)
  generalize m*p=mp at *
  refine⟨⟨x1,hv,⟨t2,t3⟩,by omega,by omega⟩,⟨hm1,p1,⟨by omega,by omega⟩,by omega,by omega⟩,?_⟩
  exact rowPre_ok hv hm1 hK xs ps ts _ _ (fun y hy=>hx y (by simp[hy])) (fun y hy=>hp y (by simp[hy])) (fun y hy=>ht y (by simp[hy])) ⟨by omega,by omega⟩ ⟨by omega,by omega⟩
 ·exact hK
def tsAt (xs ys:List Int) (k:Nat):List Int:=foldM 18446744069414584319 xs ms (List.replicate 4 0) (ys.take k)
def timesJ (xs ys:List Int) (g:Int × List Int):Prop:=∃ k:Nat,k<=4/\g=((k:Int),tsAt xs ys k)
theorem foldM_snoc {can:Int} {xs ps:List Int}:∀ (vs ts:List Int) (v:Int),foldM can xs ps ts (vs++[v])=stepM can xs ps (foldM can xs ps ts vs) v:=by
 intro vs
 induction vs with
 | nil=>intro ts v;rfl
 | cons u vs ih=>intro ts v;exact ih _ _
theorem fn_times:FnOk Tryz.prog 35 [(.arr 4 (.int .u64)),(.arr 4 (.int .u64))] [.val (.arr 4 (.int .u64))] noG preTimes outTimes:=by
 refine fn_of_tr (sp:=sps [spMuladd,spFit]) ent_times (by decide) (by decide) (by kernel_rfl) ?_
 have hsp:SpecsOk Tryz.prog (sps [spMuladd,spFit]):=spk (fok fn_muladd) (spk (fok fn_fit) snl)
 rintro w M0 ⟨xs,ys,⟨⟩⟩ ⟨⟨h1,_⟩,⟨h2,_⟩,_⟩ ⟨hx,hy,hxM⟩
 match xs,h1,hx,hxM with
 | [a0,a1,a2,a3],_,hx,hxM =>
  have hyl:List.length ys=4:=h2
  have hxl:[a0,a1,a2,a3].length=ms.length:=rfl
  have hfold:∀ k,(tsAt [a0,a1,a2,a3] ys k).length=ms.length/\Ws (tsAt [a0,a1,a2,a3] ys k)/\val (tsAt [a0,a1,a2,a3] ys k)<val [a0,a1,a2,a3]+val ms:=by
   intro k
   have:=foldM_spec (cancel:=18446744069414584319) hxl hx ws_ms (by simp[ms]) (by decide) (by rw[val_ms];exact hxM) (by rw[val_ms];exact M_two) (ys.take k) (List.replicate 4 0) (fun y hy'=>hy y (List.mem_of_mem_take hy')) (by rfl)
    (by intro x hx;rw[(List.mem_replicate.1 hx).2];exact⟨by omega,by omega⟩) (by rw[val_ms,show val (List.replicate 4 0)=0 from by decide];have:=val_nonneg hx;have:=M_pos;omega)
   exact⟨this.1,this.2.1,this.2.2.1⟩
  have hmont:=mont_spec (cancel:=18446744069414584319) (xs:=[a0,a1,a2,a3]) (ps:=ms) (ys:=ys) (rinv:=rinv) hxl hyl hx ws_ms hy (by simp[ms]) (by decide) (by rw[val_ms];exact hxM) (by rw[val_ms];exact M_two) (by rw[val_ms];exact pw_rinv)
  rw[val_ms] at hmont
  -- what holds at each round's head
  have J0:timesJ [a0,a1,a2,a3] ys (0,List.replicate 4 0):=⟨0,by omega,by simp[tsAt,foldM]⟩
  show Tr _ _ _ _ _ _ _
  refine tr_cut hsp mixed 3 (timesI [a0,a1,a2,a3] ys (0,List.replicate 4 0)) True ?_ (fun _=>?_)
  ·refine vcx (X:=(timesI [a0,a1,a2,a3] ys (0,List.replicate 4 0)).triv True) (by kernel_rfl) (tvi trivial)
  refine tr_loopN hsp mixed (timesI [a0,a1,a2,a3] ys) (timesJ [a0,a1,a2,a3] ys) (fun g=>(4-g.1).toNat) (timesN [a0,a1,a2,a3] ys) timesO (fun g=>g.2=tsAt [a0,a1,a2,a3] ys 4) (0,List.replicate 4 0) (c:=nthC (codeOf Tryz.f35) 3) (by kernel_rfl) (by kernel_rfl)
   (le_of_proj (by kernel_rfl) (by kernel_rfl) J0) ?_ ?_
  ·rintro g ⟨k,hk,rfl⟩
   obtain⟨f1,f2,f3⟩:=hfold k
   have hts:∃ t0 t1 t2 t3,tsAt [a0,a1,a2,a3] ys k=[t0,t1,t2,t3]:=by
    match tsAt [a0,a1,a2,a3] ys k,f1 with
    | [t0,t1,t2,t3],_=>exact⟨_,_,_,_,rfl⟩
   obtain⟨t0,t1,t2,t3,hts⟩:=hts
   rw[hts] at f2 ⊢
   refine vcx (X:=((decide ((k:Int)<4)=true->(0<=(k:Int)/\(k:Int)<(4:Nat))/\stepPre [a0,a1,a2,a3] ms [t0,t1,t2,t3] (ys.getD (k:Int).toNat 0) ((timesI [a0,a1,a2,a3] ys (timesN [a0,a1,a2,a3] ys ((k:Int),[t0,t1,t2,t3]))).triv (timesJ [a0,a1,a2,a3] ys (timesN [a0,a1,a2,a3] ys ((k:Int),[t0,t1,t2,t3]))/\(4-(timesN [a0,a1,a2,a3] ys ((k:Int),[t0,t1,t2,t3])).1).toNat<(4-(k:Int)).toNat)))
    /\ (decide ((k:Int)<4)=false->(timesO ((k:Int),[t0,t1,t2,t3])).triv ([t0,t1,t2,t3]=tsAt [a0,a1,a2,a3] ys 4)))) (by kernel_rfl) ?_
   constructor
   ·intro hlt
    have hlt:k<4:=by have:=of_decide_eq_true hlt;omega
    have hv:U64 (ys.getD (k:Int).toNat 0):=by
     rw[List.getD_eq_getElem?_getD,Int.toNat_natCast,List.getElem?_eq_getElem (by omega)]
     exact hy _ (List.getElem_mem _)
    refine⟨⟨by omega,by omega⟩,stepPre_ok hv (tvi ⟨⟨k+1,by omega,?_⟩,?_⟩) hx ws_ms f2⟩
    ·have e1:IntKind.i64.wrap ((k:Int)+1)=((k+1:Nat):Int):=by rw[wrap_i64 (by omega) (by omega)];omega
     have e2:tsAt [a0,a1,a2,a3] ys (k+1)=stepM 18446744069414584319 [a0,a1,a2,a3] ms (tsAt [a0,a1,a2,a3] ys k) (ys.getD (k:Int).toNat 0):=by
      unfold tsAt
      rw[List.take_succ_eq_append_getElem (by omega),foldM_snoc]
      rw[List.getD_eq_getElem?_getD,Int.toNat_natCast,List.getElem?_eq_getElem (by omega)]
      rfl
     show (IntKind.i64.wrap ((k:Int)+1),stepM 18446744069414584319 [a0,a1,a2,a3] ms [t0,t1,t2,t3] (ys.getD (k:Int).toNat 0))=_
     rw[e1,e2,hts]
    ·show (4-IntKind.i64.wrap ((k:Int)+1)).toNat<_
     rw[wrap_i64 (by omega) (by omega)];omega
   ·intro hge
    have hge:k=4:=by
     have:=of_decide_eq_false hge
     omega
    refine tvi ?_
    rw[<- hts,hge]
  ·rintro⟨i,ts⟩ hts
   have hts:ts=tsAt [a0,a1,a2,a3] ys 4:=hts
   obtain⟨f1,f2,f3⟩:=hfold 4
   have hall:ys.take 4=ys:=List.take_of_length_le (by omega)
   have hts2:∃ t0 t1 t2 t3,tsAt [a0,a1,a2,a3] ys 4=[t0,t1,t2,t3]:=by
    match tsAt [a0,a1,a2,a3] ys 4,f1 with
    | [t0,t1,t2,t3],_=>exact⟨_,_,_,_,rfl⟩
   obtain⟨t0,t1,t2,t3,hts2⟩:=hts2
   subst hts
   rw[hts2] at f2 ⊢
   refine tr_vc hsp mixed _ _ ?_
   refine vcx (X:=(Ws [t0,t1,t2,t3]/\((if val [t0,t1,t2,t3]<M then [t0,t1,t2,t3] else lim 4 (val [t0,t1,t2,t3]-M),()):List Int × Unit)=outTimes ([a0,a1,a2,a3],ys,()))) (by kernel_rfl) ?_
   refine⟨f2,?_⟩
   have e:foldM 18446744069414584319 [a0,a1,a2,a3] ms (List.replicate ms.length 0) ys=[t0,t1,t2,t3]:=by
    have:=hts2
    unfold tsAt at this
    rw[hall] at this
    exact this
   rw[e] at hmont
   obtain⟨m1,m2,m3,m4⟩:=hmont
   have m0:=val_nonneg m2
   have hM:=M_pos
   simp only[outTimes,Prod.mk.injEq,and_true]
   rw[<- m4]
   split
   ·rename_i hlt
    rw[Int.emod_eq_of_lt m0 hlt]
    exact (lim_val f2).symm
   ·rename_i hge
    rw[show val [t0,t1,t2,t3]%M=val [t0,t1,t2,t3]-M from by
     rw[<- Int.sub_emod_right,Int.emod_eq_of_lt (by omega) (by omega)]]
def spTimes:Nat × Eng.Spec:=(35,fnSpec [(.arr 4 (.int .u64)),(.arr 4 (.int .u64))] [.val (.arr 4 (.int .u64))] preTimes outTimes)
end
end Go.Proofs.YteldhmehjkhanaaGreatDoor.fr
namespace Go.Proofs.YteldhmehjkhanaaGreatDoor.fr
noncomputable section
open Go Go.Eng Go.RowKit Cr
theorem ent_mul:enters Tryz.prog 33 Tryz.f33:=ek
abbrev outMul:HL [.fr,.fr]->HO [.val .fr]:=fun (x,y,_)=>((x:Fr)*y,())
theorem fn_mul:FnOk Tryz.prog 33 [.fr,.fr] [.val .fr] noG (fun _=>True) outMul:=by
 refine fn_of_vc (sp:=sps [spTimes]) (spk (fok fn_times) snl) mixed ent_mul (by decide) (by decide) ?_
 rintro w M0 ⟨x,y,⟨⟩⟩ _ _
 refine vcx (X:=(preTimes (enc x,enc y,())/\Canon Mr (lim 4 (val (enc x)*val (enc y)*rinv%M))/\(dec (lim 4 (val (enc x)*val (enc y)*rinv%M)),())=outMul (x,y,()))) (by kernel_rfl) ?_
 rw[show lim 4 (val (enc x)*val (enc y)*rinv%M)=enc (x*y) from times_enc x y]
 exact⟨⟨enc_ws x,enc_ws y,(enc_canon x).2.2⟩,enc_canon _,by rw[dec_enc]⟩
def spMul:Nat × Eng.Spec:=(33,fnSpec [.fr,.fr] [.val .fr] (fun _=>True) outMul)
theorem ent_square:enters Tryz.prog 62 Tryz.f62:=ek
abbrev outSquare:HL [.fr]->HO [.val .fr]:=fun (x,_)=>((x:Fr)*x,())
theorem fn_square:FnOk Tryz.prog 62 [.fr] [.val .fr] noG (fun _=>True) outSquare:=by
 refine fn_of_vc (sp:=sps [spTimes]) (spk (fok fn_times) snl) mixed ent_square (by decide) (by decide) ?_
 rintro w M0 ⟨x,⟨⟩⟩ _ _
 refine vcx (X:=(preTimes (enc x,enc x,())/\Canon Mr (lim 4 (val (enc x)*val (enc x)*rinv%M))/\(dec (lim 4 (val (enc x)*val (enc x)*rinv%M)),())=outSquare (x,()))) (by kernel_rfl) ?_
 rw[show lim 4 (val (enc x)*val (enc x)*rinv%M)=enc (x*x) from times_enc x x]
 exact⟨⟨enc_ws x,enc_ws x,(enc_canon x).2.2⟩,enc_canon _,by rw[dec_enc]⟩
def spSquare:Nat × Eng.Spec:=(62,fnSpec [.fr] [.val .fr] (fun _=>True) outSquare)
theorem ent_add:enters Tryz.prog 34 Tryz.f34:=ek
abbrev outAdd:HL [.fr,.fr]->HO [.val .fr]:=fun (x,y,_)=>((x:Fr)+y,())
theorem fn_add:FnOk Tryz.prog 34 [.fr,.fr] [.val .fr] noG (fun _=>True) outAdd:=by
 refine fn_of_vc (sp:=sps [spFit,spPlus]) (spk (fok fn_fit) (spk (fok fn_plus) snl)) mixed ent_add (by decide) (by decide) ?_
 rintro w M0 ⟨x,y,⟨⟩⟩ _ _
 refine vcx (X:=(pre2 (enc x,enc y,())/\preFit (lim 4 (val (enc x)+val (enc y)),()) /\
  Canon Mr (if val (lim 4 (val (enc x)+val (enc y)))<M then lim 4 (val (enc x)+val (enc y)) else lim 4 (val (lim 4 (val (enc x)+val (enc y)))-M)) /\
  (dec (if val (lim 4 (val (enc x)+val (enc y)))<M then lim 4 (val (enc x)+val (enc y)) else lim 4 (val (lim 4 (val (enc x)+val (enc y)))-M)),())=outAdd (x,y,()))) (by kernel_rfl) ?_
 rw[show (if val (lim 4 (val (enc x)+val (enc y)))<M then lim 4 (val (enc x)+val (enc y)) else lim 4 (val (lim 4 (val (enc x)+val (enc y)))-M))=enc (x+y) from add_enc x y]
 exact⟨⟨enc_ws x,enc_ws y⟩,lim_ws _ _,enc_canon _,by rw[dec_enc]⟩
def spAdd:Nat × Eng.Spec:=(34,fnSpec [.fr,.fr] [.val .fr] (fun _=>True) outAdd)
theorem ent_one:enters Tryz.prog 61 Tryz.f61:=ek
theorem fn_one:FnOk Tryz.prog 61 [] [.val .fr] noG (fun _=>True) (fun _=>((1:Fr),())):=by
 refine fn_of_vc (sp:=sps []) snl mixed ent_one (by decide) (by decide) ?_
 rintro w M0 ⟨⟩ _ _
 refine vcx (X:=(Canon Mr [8589934590,6378425256633387010,11064306276430008309,1739710354780652911]/\(dec [8589934590,6378425256633387010,11064306276430008309,1739710354780652911],())=((1:Fr),()))) (by kernel_rfl) ?_
 refine⟨⟨rfl,?_,by decide⟩,?_⟩
 ·intro x hx;simp at hx;rcases hx with rfl|rfl|rfl|rfl<;>exact⟨by decide,by decide⟩
 ·rw[show (dec [8589934590,6378425256633387010,11064306276430008309,1739710354780652911]:Fr)=1 from Zm.ext (by decide)]
def spOne:Nat × Eng.Spec:=(61,fnSpec [] [.val .fr] (fun _=>True) (fun _=>((1:Fr),())))
end
end Go.Proofs.YteldhmehjkhanaaGreatDoor.fr
namespace Go.Proofs.YteldhmehjkhanaaGreatDoor.fp
open Go Go.Eng Go.RowKit Cr Go.Proofs.YteldhmehjkhanaaGreatDoor
theorem ent_shift:enters Tryz.prog 119 Tryz.f119:=ek
noncomputable def shI (t:Nat) (g:Int × Fp):St:=mkSt Tryz.f119.ntmps 40 [(0,.is (.one (.ptr 0 0))),(1,.is (.one (.ptr 16 0))),(t,sI .i64 g.1)] [(16,[.row .fp 1 [g.2]]),(0,[.row .fp 1 [(0:Fp)]])]
def dbls:Nat->Fp
 | 0=>1
 | k+1=>dbls k+dbls k
def sqs (x:Fp):Nat->Fp
 | 0=>x
 | k+1=>sqs x k*sqs x k
theorem fn_shift:FnOk Tryz.prog 119 [] [.val .fp] noG (fun _=>True) (fun _=>((R2:Fp),())):=by
 have hsp:SpecsOk Tryz.prog (sps [spOne,spAdd,spSquare]):=spk (fok fn_one) (spk (fok fn_add) (spk (fok fn_square) snl))
 refine fn_of_tr (sp:=sps [spOne,spAdd,spSquare]) ent_shift (by decide) (by decide) (by kernel_rfl) ?_
 rintro w M0 ⟨⟩ _ _
 show Tr _ _ _ _ _ _ _
 refine tr_cut hsp mixed 3 (shI 3 (0,1)) True ?_ (fun _=>?_)
 ·refine vcx (X:=True/\(shI 3 (0,1)).triv True) (by kernel_rfl) ⟨trivial,tvi trivial⟩
 refine tr_count hsp mixed (shI 3) (fun k=>((k:Int),dbls k)) 3 (fun g=>(IntKind.i64.wrap (g.1+1),g.2+g.2)) (shI 3) (c:=nthC (codeOf Tryz.f119) 3) (by kernel_rfl) (by kernel_rfl) (le_of_proj (by kernel_rfl) (by kernel_rfl) trivial)
  (fun k hk=>by show (_,_)=(_,_);rw[wrap_succ (by omega)];rfl) ?_ ?_
 ·intro k hk
  refine vcx (X:=((decide ((k:Int)<3)=true->True/\(shI 3 (IntKind.i64.wrap ((k:Int)+1),dbls k+dbls k)).triv (k<3))/\(decide ((k:Int)<3)=false->(shI 3 ((k:Int),dbls k)).triv (k=3)))) (by kernel_rfl) ?_
  exact⟨fun h=>⟨trivial,tvi (by have:=dec_lt h;omega)⟩,fun h=>tvi (by have:=dec_ge h;omega)⟩
 refine tr_cut hsp mixed 1 (shI 9 (0,dbls 3)) True ?_ (fun _=>?_)
 ·refine vcx (X:=(shI 9 (0,dbls 3)).triv True) (by kernel_rfl) (tvi trivial)
 refine tr_count hsp mixed (shI 9) (fun k=>((k:Int),sqs (dbls 3) k)) 7 (fun g=>(IntKind.i64.wrap (g.1+1),g.2*g.2)) (shI 9) (c:=nthC (codeOf Tryz.f119) 5) (by kernel_rfl) (by kernel_rfl) (le_of_proj (by kernel_rfl) (by kernel_rfl) trivial)
  (fun k hk=>by show (_,_)=(_,_);rw[wrap_succ (by omega)];rfl) ?_ ?_
 ·intro k hk
  refine vcx (X:=((decide ((k:Int)<7)=true->True/\(shI 9 (IntKind.i64.wrap ((k:Int)+1),sqs (dbls 3) k*sqs (dbls 3) k)).triv (k<7))/\(decide ((k:Int)<7)=false->(shI 9 ((k:Int),sqs (dbls 3) k)).triv (k=7)))) (by kernel_rfl) ?_
  exact⟨fun h=>⟨trivial,tvi (by have:=dec_lt h;omega)⟩,fun h=>tvi (by have:=dec_ge h;omega)⟩
 refine tr_vc hsp mixed _ _ ?_
 refine vcx (X:=(sqs (dbls 3) 7,())=((R2:Fp),())) (by kernel_rfl) ?_
 rw[show sqs (dbls 3) 7=R2 from Zm.ext (by decide)]
noncomputable def spShift:Nat × Eng.Spec:=(119,fnSpec [] [.val .fp] (fun _=>True) (fun _=>((R2:Fp),())))
theorem ent_of:enters Tryz.prog 120 Tryz.f120:=ek
abbrev outOf:HL [.int .u64]->HO [.val .fp]:=fun (n,_)=>((zm n:Fp),())
theorem fn_of:FnOk Tryz.prog 120 [.int .u64] [.val .fp] noG (fun (n,_)=>U64 n) outOf:=by
 refine fn_of_vc (sp:=sps [spShift,spTimes]) (spk (fok fn_shift) (spk (fok fn_times) snl)) mixed ent_of (by decide) (by decide) ?_
 rintro w M0 ⟨n,⟨⟩⟩ _ hn
 refine vcx (X:=(True/\preTimes (enc (R2:Fp),[n,0,0,0,0,0],())/\Canon Mp (lim 6 (val (enc (R2:Fp))*val [n,0,0,0,0,0]*rinv%M))/\(dec (lim 6 (val (enc (R2:Fp))*val [n,0,0,0,0,0]*rinv%M)),())=outOf (n,()))) (by kernel_rfl) ?_
 rw[show lim 6 (val (enc (R2:Fp))*val [n,0,0,0,0,0]*rinv%M)=enc (zm (val [n,0,0,0,0,0]):Fp) from shift_enc (M:=Mp)]
 refine⟨trivial,⟨enc_ws _,?_,(enc_canon _).2.2⟩,enc_canon _,?_⟩
 ·intro x hx
  rcases List.mem_cons.1 hx with rfl|hx
  ·exact hn
  ·simp at hx;subst hx;exact⟨by decide,by decide⟩
 ·rw[dec_enc];simp[val,outOf]
noncomputable def spOf:Nat × Eng.Spec:=(120,fnSpec [.int .u64] [.val .fp] (fun (n,_)=>U64 n) outOf)
end Go.Proofs.YteldhmehjkhanaaGreatDoor.fp
namespace Go.Proofs.YteldhmehjkhanaaGreatDoor.fr
open Go Go.Eng Go.RowKit Cr Go.Proofs.YteldhmehjkhanaaGreatDoor
theorem ent_shift:enters Tryz.prog 32 Tryz.f32:=ek
noncomputable def shI (t:Nat) (g:Int × Fr):St:=mkSt Tryz.f32.ntmps 56 [(0,.is (.one (.ptr 0 0))),(1,.is (.one (.ptr 32 0))),(t,sI .i64 g.1)] [(32,[.row .fr 1 [g.2]]),(0,[.row .fr 1 [(0:Fr)]])]
def sqs (x:Fr):Nat->Fr
 | 0=>x
 | k+1=>sqs x k*sqs x k
theorem fn_shift:FnOk Tryz.prog 32 [] [.val .fr] noG (fun _=>True) (fun _=>((R2:Fr),())):=by
 have hsp:SpecsOk Tryz.prog (sps [spOne,spAdd,spSquare]):=spk (fok fn_one) (spk (fok fn_add) (spk (fok fn_square) snl))
 refine fn_of_tr (sp:=sps [spOne,spAdd,spSquare]) ent_shift (by decide) (by decide) (by kernel_rfl) ?_
 rintro w M0 ⟨⟩ _ _
 show Tr _ _ _ _ _ _ _
 refine tr_cut hsp mixed 3 (shI 5 (0,1+1)) True ?_ (fun _=>?_)
 ·refine vcx (X:=True/\True/\True/\(shI 5 (0,1+1)).triv True) (by kernel_rfl) ⟨trivial,trivial,trivial,tvi trivial⟩
 refine tr_count hsp mixed (shI 5) (fun k=>((k:Int),sqs (1+1) k)) 8 (fun g=>(IntKind.i64.wrap (g.1+1),g.2*g.2)) (shI 5) (c:=nthC (codeOf Tryz.f32) 3) (by kernel_rfl) (by kernel_rfl) (le_of_proj (by kernel_rfl) (by kernel_rfl) trivial)
  (fun k hk=>by show (_,_)=(_,_);rw[wrap_succ (by omega)];rfl) ?_ ?_
 ·intro k hk
  refine vcx (X:=((decide ((k:Int)<8)=true->True/\(shI 5 (IntKind.i64.wrap ((k:Int)+1),sqs (1+1) k*sqs (1+1) k)).triv (k<8))/\(decide ((k:Int)<8)=false->(shI 5 ((k:Int),sqs (1+1) k)).triv (k=8)))) (by kernel_rfl) ?_
  exact⟨fun h=>⟨trivial,tvi (by have:=dec_lt h;omega)⟩,fun h=>tvi (by have:=dec_ge h;omega)⟩
 refine tr_vc hsp mixed _ _ ?_
 refine vcx (X:=(sqs (1+1) 8,())=((R2:Fr),())) (by kernel_rfl) ?_
 rw[show sqs (1+1) 8=R2 from Zm.ext (by decide)]
noncomputable def spShift:Nat × Eng.Spec:=(32,fnSpec [] [.val .fr] (fun _=>True) (fun _=>((R2:Fr),())))
theorem ent_of:enters Tryz.prog 14 Tryz.f14:=ek
abbrev outOf:HL [.int .u64]->HO [.val .fr]:=fun (n,_)=>((zm n:Fr),())
theorem fn_of:FnOk Tryz.prog 14 [.int .u64] [.val .fr] noG (fun (n,_)=>U64 n) outOf:=by
 refine fn_of_vc (sp:=sps [spShift,spTimes]) (spk (fok fn_shift) (spk (fok fn_times) snl)) mixed ent_of (by decide) (by decide) ?_
 rintro w M0 ⟨n,⟨⟩⟩ _ hn
 refine vcx (X:=(True/\preTimes (enc (R2:Fr),[n,0,0,0],())/\Canon Mr (lim 4 (val (enc (R2:Fr))*val [n,0,0,0]*rinv%M))/\(dec (lim 4 (val (enc (R2:Fr))*val [n,0,0,0]*rinv%M)),())=outOf (n,()))) (by kernel_rfl) ?_
 rw[show lim 4 (val (enc (R2:Fr))*val [n,0,0,0]*rinv%M)=enc (zm (val [n,0,0,0]):Fr) from shift_enc (M:=Mr)]
 refine⟨trivial,⟨enc_ws _,?_,(enc_canon _).2.2⟩,enc_canon _,?_⟩
 ·intro x hx
  rcases List.mem_cons.1 hx with rfl|hx
  ·exact hn
  ·simp at hx;subst hx;exact⟨by decide,by decide⟩
 ·rw[dec_enc];simp[val,outOf]
noncomputable def spOf:Nat × Eng.Spec:=(14,fnSpec [.int .u64] [.val .fr] (fun (n,_)=>U64 n) outOf)
end Go.Proofs.YteldhmehjkhanaaGreatDoor.fr
namespace Go.Proofs.YteldhmehjkhanaaGreatDoor.sha
noncomputable section
open Go Go.Eng Go.RowKit Cr
abbrev uK:Kd:=.int .u32
abbrev bK:Kd:=.int .u8
abbrev hashK:Kd:=.pair (.arr 8 uK) (.pair (.arr 64 bK) (.int .i64))
def firstL:List Int:=[1779033703,3144134277,1013904242,2773480762,1359893119,2600822924,528734635,1541459225]
def rootsL:List Int:=[1116352408,1899447441,3049323471,3921009573,961987163,1508970993,2453635748,2870763221,3624381080,310598401,607225278,1426881987,1925078388,2162078206,2614888103,3248222580,3835390401,4022224774,264347078,604807628,770255983,1249150122,1555081692,1996064986,2554220882,2821834349,2952996808,3210313671,3336571891,3584528711,113926993,338241895,666307205,773529912,1294757372,1396182291,1695183700,1986661051,2177026350,2456956037,2730485921,2820302411,3259730800,3345764771,3516065817,3600352804,4094571909,275423344,430227734,506948616,659060556,883997877,958139571,1322822218,1537002063,1747873779,1955562222,2024104815,2227730452,2361852424,2428436474,2756734187,3204031479,3329325298]
def shaG:Glob:=fun g=>if g=0 then some ⟨.arr 8 uK,firstL⟩ else if g=1 then some ⟨.arr 64 uK,rootsL⟩ else none
theorem ent_rot:enters Tryz.prog 109 Tryz.f109:=ek
def rotF (x k:Int):Int:=bitOp .or .u32 (IntKind.u32.wrap (x*2^min (bitOp .and .u64 (IntKind.u64.wrap k) 31).toNat IntKind.u32.bits)) (Int.fdiv x (2^min (IntKind.u64.wrap (32-bitOp .and .u64 (IntKind.u64.wrap k) 31)).toNat IntKind.u32.bits))
def rot (x k:Int):Int:=opq (rotF x k)
theorem wrap_nn (x:Int):0<=IntKind.u64.wrap x:=by
 simp only[IntKind.wrap,IntKind.signed,IntKind.bits]
 simp
 omega
theorem fn_rot:FnOk Tryz.prog 109 [uK,.int .i64] [.val uK] noG (fun _=>True) (fun (x,k,_)=>(rot x k,())):=by
 refine fn_of_vc (sp:=sps []) snl mixed ent_rot (by decide) (by decide) ?_
 rintro w M0 ⟨x,k,⟨⟩⟩
 revert x k
 intro (x:Int) (k:Int) _ _
 refine vcx (X:=((0:Int)<=bitOp BinOp.and IntKind.u64 (IntKind.u64.wrap k) (31:Int)/\(0:Int)<=IntKind.u64.wrap ((32:Int)-bitOp BinOp.and IntKind.u64 (IntKind.u64.wrap k) (31:Int))/\(bitOp BinOp.or IntKind.u32 (IntKind.u32.wrap (x*(2:Int)^min (bitOp BinOp.and IntKind.u64 (IntKind.u64.wrap k) (31:Int)).toNat IntKind.u32.bits)) (x.fdiv ((2:Int)^min (IntKind.u64.wrap ((32:Int)-bitOp BinOp.and IntKind.u64 (IntKind.u64.wrap k) (31:Int))).toNat IntKind.u32.bits)),())=(rot x k,()))) (by kernel_rfl) ?_
 refine⟨?_,?_,by show _=(rot x k,());rw[rot,opq_eq];rfl⟩
 ·have h:(0:Int)<=bitOp .and .u64 (IntKind.u64.wrap k) 31:=by
   show (0:Int)<=IntKind.u64.wrap _
   exact wrap_nn _
  exact h
 ·exact wrap_nn _
def spRot:Nat × Eng.Spec:=(109,fnSpec [uK,.int .i64] [.val uK] (fun _=>True) (fun (x,k,_)=>(rot x k,())))
theorem ent_take:enters Tryz.prog 81 Tryz.f81:=ek
abbrev TK:List Code:=codeOf Tryz.f81
def tkA (st rest p:List Int) (sz:Int) (g:Int × List Int):St:=mkSt Tryz.f81.ntmps 25 [(0,.is (.one (.ptr 0 0))),(3,.is (.one (.ptr 1 0))),(4,.is (.one (.ptr 9 0))),(23,sI .i64 g.1)] [(9,[.ints .u32 64 g.2]),(1,[.ints .u8 64 p]),(0,[.ints .u32 8 st,.ints .u8 64 rest,.v (.int .i64 sz)])]
def tkB (st rest p:List Int) (sz:Int) (i:Nat) (g:Int × List Int):St:=mkSt Tryz.f81.ntmps 25 [(0,.is (.one (.ptr 0 0))),(3,.is (.one (.ptr 1 0))),(4,.is (.one (.ptr 9 0))),(5,sI .i64 i),(23,sI .i64 i),(26,sI .i64 g.1)] [(9,[.ints .u32 64 g.2]),(1,[.ints .u8 64 p]),(0,[.ints .u32 8 st,.ints .u8 64 rest,.v (.int .i64 sz)])]
def wB (p:List Int) (i j:Nat) (w:List Int):List Int:=w.set i (bitOp .or .u32 (IntKind.u32.wrap (w.getD i 0*2^min (8:Nat) IntKind.u32.bits)) (IntKind.u32.wrap (p.getD (4*i+j) 0)))
def wBk (p:List Int) (i:Nat) (w:List Int):Nat->List Int
 | 0=>w
 | j+1=>wB p i j (wBk p i w j)
def wAk (p:List Int):Nat->List Int
 | 0=>List.replicate 64 0
 | i+1=>wBk p i (wAk p i) 4
theorem wBk_len (p:List Int) (i:Nat) (w:List Int):∀ j,(wBk p i w j).length=w.length
 | 0=>rfl
 | j+1=>by show (wB p i j _).length=_;rw[wB,List.length_set,wBk_len p i w j]
theorem wAk_len (p:List Int):∀ i,(wAk p i).length=64
 | 0=>List.length_replicate
 | i+1=>by show (wBk p i (wAk p i) 4).length=_;rw[wBk_len,wAk_len p i]
def tkC (st rest p:List Int) (sz:Int) (g:Int × List Int):St:=mkSt Tryz.f81.ntmps 25 [(0,.is (.one (.ptr 0 0))),(4,.is (.one (.ptr 9 0))),(45,sI .i64 g.1)] [(9,[.ints .u32 64 g.2]),(0,[.ints .u32 8 st,.ints .u8 64 rest,.v (.int .i64 sz)])]
def tkD (st rest p:List Int) (sz:Int) (w:List Int) (g:Int × List Int):St:=mkSt Tryz.f81.ntmps 81 [(0,.is (.one (.ptr 0 0))),(4,.is (.one (.ptr 9 0))),(12,.is (.one (.ptr 57 0))),(92,sI .i64 g.1)] [(57,[.ints .u32 8 g.2]),(9,[.ints .u32 64 w]),(0,[.ints .u32 8 st,.ints .u8 64 rest,.v (.int .i64 sz)])]
def sg0 (a:Int):Int:=bitOp .xor .u32 (bitOp .xor .u32 (rot a (-7)) (rot a (-18))) (a.fdiv (2^min (3:Nat) IntKind.u32.bits))
def sg1 (a:Int):Int:=bitOp .xor .u32 (bitOp .xor .u32 (rot a (-17)) (rot a (-19))) (a.fdiv (2^min (10:Nat) IntKind.u32.bits))
def wC (w:List Int) (i:Nat):List Int:=w.set (i+16) (IntKind.u32.wrap (IntKind.u32.wrap (IntKind.u32.wrap (w.getD i 0+sg0 (w.getD (i+1) 0))+w.getD (i+9) 0)+sg1 (w.getD (i+14) 0)))
def wCk (w:List Int):Nat->List Int
 | 0=>w
 | i+1=>wC (wCk w i) i
theorem wCk_len (w:List Int):∀ i,(wCk w i).length=w.length
 | 0=>rfl
 | i+1=>by show (wC _ i).length=_;rw[wC,List.length_set,wCk_len w i]
def tkE (rest:List Int) (sz:Int) (w v:List Int) (g:Int × List Int):St:=mkSt Tryz.f81.ntmps 81 [(0,.is (.one (.ptr 0 0))),(12,.is (.one (.ptr 57 0))),(172,sI .i64 g.1)] [(57,[.ints .u32 8 v]),(0,[.ints .u32 8 g.2,.ints .u8 64 rest,.v (.int .i64 sz)])]
theorem eight:∀ {v:List Int},v.length=8->∃ a b c d e f g h,v=[a,b,c,d,e,f,g,h]
 | [a,b,c,d,e,f,g,h],_=>⟨a,b,c,d,e,f,g,h,rfl⟩
def rT (w:List Int) (e f g h:Int) (i:Nat):Int:=IntKind.u32.wrap (IntKind.u32.wrap (h+bitOp .xor .u32 (bitOp .xor .u32 (rot e (-6)) (rot e (-11))) (rot e (-25)))+IntKind.u32.wrap (IntKind.u32.wrap (bitOp .xor .u32 (bitOp .and .u32 e f) (bitOp .and .u32 (bitOp .xor .u32 (if IntKind.u32.signed=true then (-1:Int) else IntKind.u32.max) e) g)+rootsL.getD i 0)+w.getD i 0))
def rU (a b c:Int):Int:=IntKind.u32.wrap (bitOp .xor .u32 (bitOp .xor .u32 (rot a (-2)) (rot a (-13))) (rot a (-22))+bitOp .xor .u32 (bitOp .xor .u32 (bitOp .and .u32 a b) (bitOp .and .u32 a c)) (bitOp .and .u32 b c))
def vC (w:List Int):List Int->Nat->List Int
 | [a,b,c,d,e,f,g,h],i=>[IntKind.u32.wrap (rT w e f g h i+rU a b c),a,b,c,IntKind.u32.wrap (d+rT w e f g h i),e,f,g]
 | v,_=>v
def vCk (w v:List Int):Nat->List Int
 | 0=>v
 | i+1=>vC w (vCk w v i) i
theorem vCk_len (w:List Int) {v:List Int} (hv:v.length=8):∀ i,(vCk w v i).length=8
 | 0=>hv
 | i+1=>by
  obtain⟨a,b,c,d,e,f,g,h,e1⟩:=eight (vCk_len w hv i)
  show (vC w (vCk w v i) i).length=8
  rw[e1];rfl
def fCk (v s:List Int):Nat->List Int
 | 0=>s
 | i+1=>(fCk v s i).set i (IntKind.u32.wrap ((fCk v s i).getD i 0+v.getD i 0))
def takeF (st p:List Int):List Int:=fCk (vCk (wCk (wAk p 16) 48) st 64) st 8
def tko (st p:List Int):List Int:=opq (takeF st p)
theorem fn_take:FnOkP Tryz.prog 81 hashK [.arr 64 bK] [] shaG (fun _=>True) (fun ((st,rest,sz),p,_)=>((tko st p,rest,sz),())):=by
 have hsp:SpecsOk Tryz.prog (sps [spRot]):=spk (fok fn_rot) snl
 refine fn_of_trP (sp:=sps [spRot]) ent_take (by decide) (by decide) (by kernel_rfl) ?_
 rintro w M0 b0 ⟨st,rest,sz⟩ ⟨p,⟨⟩⟩
 revert st rest sz p
 intro (st:List Int) (rest:List Int) (sz:Int) (p:List Int) hw hw2 _
 have hst:st.length=8:=hw.1.1
 have hp:p.length=64:=hw2.1.1
 show Tr _ _ _ _ _ _ _
 refine tr_cut hsp mixed 3 (tkA st rest p sz (0,List.replicate 64 0)) True ?_ (fun _=>?_)
 ·refine vcx (X:=((tkA st rest p sz ((0:Int),List.replicate (64:Nat) (0:Int))).triv True)) (by kernel_rfl) ?_
  exact tvi trivial
 refine tr_whileT noSw (fun σ=>(rdS (.int .i64) 23 σ,rdR uK 9 σ)) (tkA st rest p sz) (fun g=>∃ k:Nat,k<=16/\g.1=(k:Int)/\g.2=wAk p k) (fun g=>16-g.1.toNat)
  (fun σ=>(rdS (.int .i64) 23 σ,rdR uK 9 σ)) (tkA st rest p sz) (fun g=>g.2=wAk p 16) (0,List.replicate 64 0) (c:=nthC TK 3) (by kernel_rfl) (by kernel_rfl) (le_of_proj (by kernel_rfl) (by kernel_rfl) ?_) ?_ ?_
 ·exact⟨0,by decide,rfl,rfl⟩
 ·rintro⟨i,wl⟩ hj
  revert i wl
  intro (i:Int) (wl:List Int) ⟨k,hk,ei,ew⟩
  have ei:i=(k:Int):=ei
  have kw:wl=wAk p k:=ew
  subst ei
  refine tr_cut hsp mixed 2 (tkA st rest p sz ((k:Int),wl)) (k<16) ?_ (fun hlt=>?_)
  ·refine vcx (X:=((decide ((↑k:Int)<(16:Int))=true->(tkA st rest p sz ((↑k:Int),wl)).triv (k<(16:Nat)))/\(decide ((↑k:Int)<(16:Int))=false->(tkA st rest p sz ((↑k:Int),wl)).triv (wl=wAk p (16:Nat))))) (by kernel_rfl) ?_
   refine⟨fun h=>tvi (by have:=of_decide_eq_true h;omega),fun h=>tvi ?_⟩
   have:k=16:=by have:=of_decide_eq_false h;omega
   rw[kw,this]
  refine tr_block (c:=nthC (loopOf (nthC (codeOf Tryz.f81) 3)) 2) (by kernel_rfl) (by kernel_rfl) ?_
  refine tr_cut hsp mixed 2 (tkB st rest p sz k (0,wl)) True ?_ (fun _=>?_)
  ·refine vcx (X:=((tkB st rest p sz k ((0:Int),wl)).triv True)) (by kernel_rfl) ?_
   exact tvi trivial
  refine tr_while hsp mixed noSw (fun σ=>(rdS (.int .i64) 26 σ,rdR uK 9 σ)) (tkB st rest p sz k) (fun g=>∃ j:Nat,j<=4/\g.1=(j:Int)/\g.2=wBk p k wl j) (fun g=>4-g.1.toNat)
   (fun σ=>rdR uK 9 σ) (fun w=>tkA st rest p sz ((k:Int),w)) (fun w=>w=wBk p k wl 4) (0,wl) (c:=nthC (bodyOf (nthC (loopOf (nthC (codeOf Tryz.f81) 3)) 2)) 2) (by kernel_rfl) (by kernel_rfl) (le_of_proj (by kernel_rfl) (by kernel_rfl) ?_) ?_ ?_
  ·exact⟨0,by decide,rfl,rfl⟩
  ·rintro⟨j,wj⟩ hj
   revert j wj
   intro (j:Int) (wj:List Int) ⟨t,ht,ej,ewj⟩
   have ej:j=(t:Int):=ej
   have kwj:wj=wBk p k wl t:=ewj
   subst ej
   refine vcx (X:=((decide ((↑t:Int)<(4:Int))=true->((0:Int)<=(↑k:Int)/\(↑k:Int)<(↑(64:Nat):Int))/\(↑k:Int).toNat<(64:Nat)/\(0:Int)<=(8:Int)/\((0:Int)<=IntKind.i64.wrap (IntKind.i64.wrap ((4:Int)*(↑k:Int))+(↑t:Int))/\IntKind.i64.wrap (IntKind.i64.wrap ((4:Int)*(↑k:Int))+(↑t:Int))<(↑(64:Nat):Int))/\(IntKind.i64.wrap (IntKind.i64.wrap ((4:Int)*(↑k:Int))+(↑t:Int))).toNat<(64:Nat)/\((0:Int)<=(↑k:Int)/\(↑k:Int)<(↑(64:Nat):Int))/\(↑k:Int).toNat<(64:Nat)/\(tkB st rest p sz k (IntKind.i64.wrap ((↑t:Int)+(1:Int)),wj.set (↑k:Int).toNat (bitOp BinOp.or IntKind.u32 (IntKind.u32.wrap (wj.getD (↑k:Int).toNat (0:Int)*(2:Int)^min (8:Nat) IntKind.u32.bits)) (IntKind.u32.wrap (p.getD (IntKind.i64.wrap (IntKind.i64.wrap ((4:Int)*(↑k:Int))+(↑t:Int))).toNat (0:Int)))))).triv ((∃ j,j<=(4:Nat)/\IntKind.i64.wrap ((↑t:Int)+(1:Int))=(↑j:Int)/\wj.set (↑k:Int).toNat (bitOp BinOp.or IntKind.u32 (IntKind.u32.wrap (wj.getD (↑k:Int).toNat (0:Int)*(2:Int)^min (8:Nat) IntKind.u32.bits)) (IntKind.u32.wrap (p.getD (IntKind.i64.wrap (IntKind.i64.wrap ((4:Int)*(↑k:Int))+(↑t:Int))).toNat (0:Int))))=wBk p k wl j)/\(4:Nat)-(IntKind.i64.wrap ((↑t:Int)+(1:Int))).toNat<(4:Nat)-(↑t:Int).toNat))/\(decide ((↑t:Int)<(4:Int))=false->(tkA st rest p sz ((↑k:Int),wj)).triv (wj=wBk p k wl (4:Nat))))) (by kernel_rfl) ?_
   refine⟨fun h=>?_,fun h=>tvi ?_⟩
   ·have h4:t<4:=by have:=of_decide_eq_true h;omega
    have e1:IntKind.i64.wrap (IntKind.i64.wrap ((4:Int)*(k:Int))+(t:Int))=((4*k+t:Nat):Int):=by
     rw[wrap_i64' (a:=4*(k:Int)) (by omega) (by omega),wrap_i64' (by omega) (by omega)];omega
    rw[e1,wrap_succ (by omega),Int.toNat_natCast,Int.toNat_natCast]
    exact⟨⟨by omega,by omega⟩,by omega,by decide,⟨by omega,by omega⟩,by omega,⟨by omega,by omega⟩,by omega,tvi ⟨⟨t+1,h4,rfl,by rw[kwj];rfl⟩,by rw[Int.toNat_natCast,Int.toNat_natCast];omega⟩⟩
   ·have:t=4:=by have:=of_decide_eq_false h;omega
    rw[kwj,this]
  intro (w':List Int) (hw':w'=wBk p k wl 4)
  refine tr_nil ?_
  refine tr_vc hsp mixed _ _ ?_
  refine vcx (X:=((tkA st rest p sz (IntKind.i64.wrap ((↑k:Int)+(1:Int)),w')).triv ((∃ k_1,k_1<=(16:Nat)/\IntKind.i64.wrap ((↑k:Int)+(1:Int))=(↑k_1:Int)/\w'=wAk p k_1)/\(16:Nat)-(IntKind.i64.wrap ((↑k:Int)+(1:Int))).toNat<(16:Nat)-(↑k:Int).toNat))) (by kernel_rfl) ?_
  rw[wrap_succ (by omega)]
  exact tvi ⟨⟨k+1,hlt,rfl,by rw[hw',kw];rfl⟩,by rw[Int.toNat_natCast,Int.toNat_natCast];omega⟩
 rintro⟨i1,w1⟩ hw1
 revert i1 w1
 intro (i1:Int) (w1:List Int) (hw1:w1=wAk p 16)
 have hw1l:w1.length=64:=by rw[hw1,wAk_len]
 refine tr_cut hsp mixed 1 (tkC st rest p sz (0,w1)) True ?_ (fun _=>?_)
 ·refine vcx (X:=((tkC st rest p sz ((0:Int),w1)).triv True)) (by kernel_rfl) ?_
  exact tvi trivial
 refine tr_while hsp mixed noSw (fun σ=>(rdS (.int .i64) 45 σ,rdR uK 9 σ)) (tkC st rest p sz) (fun g=>∃ j:Nat,j<=48/\g.1=(j:Int)/\g.2=wCk w1 j) (fun g=>48-g.1.toNat)
  (fun σ=>(rdS (.int .i64) 45 σ,rdR uK 9 σ)) (tkC st rest p sz) (fun g=>g.2=wCk w1 48) (0,w1) (c:=nthC (codeOf Tryz.f81) 5) (by kernel_rfl) (by kernel_rfl) (le_of_proj (by kernel_rfl) (by kernel_rfl) ?_) ?_ ?_
 ·exact⟨0,by decide,rfl,rfl⟩
 ·rintro⟨j,wj⟩ hj
  revert j wj
  intro (j:Int) (wj:List Int) ⟨t,ht,ej,ewj⟩
  have ej:j=(t:Int):=ej
  have kwj:wj=wCk w1 t:=ewj
  subst ej
  refine vcx (X:=((decide ((↑t:Int)<(48:Int))=true->((0:Int)<=IntKind.i64.wrap ((↑t:Int)+(1:Int))/\IntKind.i64.wrap ((↑t:Int)+(1:Int))<(↑(64:Nat):Int))/\(IntKind.i64.wrap ((↑t:Int)+(1:Int))).toNat<(64:Nat)/\((0:Int)<=IntKind.i64.wrap ((↑t:Int)+(14:Int))/\IntKind.i64.wrap ((↑t:Int)+(14:Int))<(↑(64:Nat):Int))/\(IntKind.i64.wrap ((↑t:Int)+(14:Int))).toNat<(64:Nat)/\True/\True/\(0:Int)<=(3:Int)/\True/\True/\(0:Int)<=(10:Int)/\((0:Int)<=(↑t:Int)/\(↑t:Int)<(↑(64:Nat):Int))/\(↑t:Int).toNat<(64:Nat)/\((0:Int)<=IntKind.i64.wrap ((↑t:Int)+(9:Int))/\IntKind.i64.wrap ((↑t:Int)+(9:Int))<(↑(64:Nat):Int))/\(IntKind.i64.wrap ((↑t:Int)+(9:Int))).toNat<(64:Nat)/\((0:Int)<=IntKind.i64.wrap ((↑t:Int)+(16:Int))/\IntKind.i64.wrap ((↑t:Int)+(16:Int))<(↑(64:Nat):Int))/\(IntKind.i64.wrap ((↑t:Int)+(16:Int))).toNat<(64:Nat)/\(tkC st rest p sz (IntKind.i64.wrap ((↑t:Int)+(1:Int)),wj.set (IntKind.i64.wrap ((↑t:Int)+(16:Int))).toNat (IntKind.u32.wrap (IntKind.u32.wrap (IntKind.u32.wrap (wj.getD (↑t:Int).toNat (0:Int)+bitOp BinOp.xor IntKind.u32 (bitOp BinOp.xor IntKind.u32 (rot (wj.getD (IntKind.i64.wrap ((↑t:Int)+(1:Int))).toNat (0:Int)) (-7:Int),()).fst (rot (wj.getD (IntKind.i64.wrap ((↑t:Int)+(1:Int))).toNat (0:Int)) (-18:Int),()).fst) ((wj.getD (IntKind.i64.wrap ((↑t:Int)+(1:Int))).toNat (0:Int)).fdiv ((2:Int)^min (3:Nat) IntKind.u32.bits)))+wj.getD (IntKind.i64.wrap ((↑t:Int)+(9:Int))).toNat (0:Int))+bitOp BinOp.xor IntKind.u32 (bitOp BinOp.xor IntKind.u32 (rot (wj.getD (IntKind.i64.wrap ((↑t:Int)+(14:Int))).toNat (0:Int)) (-17:Int),()).fst (rot (wj.getD (IntKind.i64.wrap ((↑t:Int)+(14:Int))).toNat (0:Int)) (-19:Int),()).fst) ((wj.getD (IntKind.i64.wrap ((↑t:Int)+(14:Int))).toNat (0:Int)).fdiv ((2:Int)^min (10:Nat) IntKind.u32.bits)))))).triv ((∃ j,j<=(48:Nat)/\IntKind.i64.wrap ((↑t:Int)+(1:Int))=(↑j:Int)/\wj.set (IntKind.i64.wrap ((↑t:Int)+(16:Int))).toNat (IntKind.u32.wrap (IntKind.u32.wrap (IntKind.u32.wrap (wj.getD (↑t:Int).toNat (0:Int)+bitOp BinOp.xor IntKind.u32 (bitOp BinOp.xor IntKind.u32 (rot (wj.getD (IntKind.i64.wrap ((↑t:Int)+(1:Int))).toNat (0:Int)) (-7:Int)) (rot (wj.getD (IntKind.i64.wrap ((↑t:Int)+(1:Int))).toNat (0:Int)) (-18:Int))) ((wj.getD (IntKind.i64.wrap ((↑t:Int)+(1:Int))).toNat (0:Int)).fdiv ((2:Int)^min (3:Nat) IntKind.u32.bits)))+wj.getD (IntKind.i64.wrap ((↑t:Int)+(9:Int))).toNat (0:Int))+bitOp BinOp.xor IntKind.u32 (bitOp BinOp.xor IntKind.u32 (rot (wj.getD (IntKind.i64.wrap ((↑t:Int)+(14:Int))).toNat (0:Int)) (-17:Int)) (rot (wj.getD (IntKind.i64.wrap ((↑t:Int)+(14:Int))).toNat (0:Int)) (-19:Int))) ((wj.getD (IntKind.i64.wrap ((↑t:Int)+(14:Int))).toNat (0:Int)).fdiv ((2:Int)^min (10:Nat) IntKind.u32.bits))))=wCk w1 j)/\(48:Nat)-(IntKind.i64.wrap ((↑t:Int)+(1:Int))).toNat<(48:Nat)-(↑t:Int).toNat))/\(decide ((↑t:Int)<(48:Int))=false->(tkC st rest p sz ((↑t:Int),wj)).triv (wj=wCk w1 (48:Nat))))) (by kernel_rfl) ?_
  refine⟨fun h=>?_,fun h=>tvi ?_⟩
  ·have h4:t<48:=by have:=of_decide_eq_true h;omega
   have e1:∀ m:Nat,m<20->IntKind.i64.wrap ((t:Int)+(m:Int))=((t+m:Nat):Int):=fun m hm=>by
    rw[wrap_i64' (by omega) (by omega)];omega
   have e1a:IntKind.i64.wrap ((t:Int)+1)=((t+1:Nat):Int):=e1 1 (by decide)
   have e1b:IntKind.i64.wrap ((t:Int)+9)=((t+9:Nat):Int):=e1 9 (by decide)
   have e1c:IntKind.i64.wrap ((t:Int)+14)=((t+14:Nat):Int):=e1 14 (by decide)
   have e1d:IntKind.i64.wrap ((t:Int)+16)=((t+16:Nat):Int):=e1 16 (by decide)
   rw[e1a,e1b,e1c,e1d]
   simp only[Int.toNat_natCast]
   exact⟨⟨by omega,by omega⟩,by omega,⟨by omega,by omega⟩,by omega,trivial,trivial,by decide,trivial,trivial,by decide,⟨by omega,by omega⟩,by omega,⟨by omega,by omega⟩,by omega,⟨by omega,by omega⟩,by omega,tvi ⟨⟨t+1,h4,rfl,by rw[kwj];rfl⟩,by omega⟩⟩
  ·have:t=48:=by have:=of_decide_eq_false h;omega
   rw[kwj,this]
 rintro⟨i2,w2⟩ hw2
 revert i2 w2
 intro (i2:Int) (w2:List Int) (hw2':w2=wCk w1 48)
 refine tr_cut hsp mixed 2 (tkD st rest p sz w2 (0,st)) True ?_ (fun _=>?_)
 ·refine vcx (X:=((tkD st rest p sz w2 ((0:Int),st)).triv True)) (by kernel_rfl) ?_
  exact tvi trivial
 have hw2l:w2.length=64:=by rw[hw2',wCk_len,hw1l]
 refine tr_while hsp mixed noSw (fun σ=>(rdS (.int .i64) 92 σ,rdR uK 57 σ)) (tkD st rest p sz w2) (fun g=>∃ j:Nat,j<=64/\g.1=(j:Int)/\g.2=vCk w2 st j) (fun g=>64-g.1.toNat)
  (fun σ=>(rdS (.int .i64) 92 σ,rdR uK 57 σ)) (tkD st rest p sz w2) (fun g=>g.2=vCk w2 st 64) (0,st) (c:=nthC (codeOf Tryz.f81) 8) (by kernel_rfl) (by kernel_rfl) (le_of_proj (by kernel_rfl) (by kernel_rfl) ?_) ?_ ?_
 ·exact⟨0,by decide,rfl,rfl⟩
 ·rintro⟨j,v⟩ hj
  revert j v
  intro (j:Int) (v:List Int) ⟨t,ht,ej,ev⟩
  have ej:j=(t:Int):=ej
  have kv:v=vCk w2 st t:=ev
  subst ej
  have hvl:v.length=8:=by rw[kv,vCk_len _ hst]
  obtain⟨a,b,c,d,e,f,g,h,rfl⟩:=eight hvl
  refine vcx (X:=((decide ((↑t:Int)<(64:Int))=true->True/\True/\True/\((0:Int)<=(↑t:Int)/\(↑t:Int)<(↑(64:Nat):Int))/\(↑t:Int).toNat<rootsL.length/\((0:Int)<=(↑t:Int)/\(↑t:Int)<(↑(64:Nat):Int))/\(↑t:Int).toNat<(64:Nat)/\True/\True/\True/\(tkD st rest p sz w2 (IntKind.i64.wrap ((↑t:Int)+(1:Int)),[IntKind.u32.wrap (IntKind.u32.wrap (IntKind.u32.wrap (h+bitOp BinOp.xor IntKind.u32 (bitOp BinOp.xor IntKind.u32 (rot e (-6:Int),()).fst (rot e (-11:Int),()).fst) (rot e (-25:Int),()).fst)+IntKind.u32.wrap (IntKind.u32.wrap (bitOp BinOp.xor IntKind.u32 (bitOp BinOp.and IntKind.u32 e f) (bitOp BinOp.and IntKind.u32 (bitOp BinOp.xor IntKind.u32 (if IntKind.u32.signed=true then (-1:Int) else IntKind.u32.max) e) g)+rootsL.getD (↑t:Int).toNat (0:Int))+w2.getD (↑t:Int).toNat (0:Int)))+IntKind.u32.wrap (bitOp BinOp.xor IntKind.u32 (bitOp BinOp.xor IntKind.u32 (rot a (-2:Int),()).fst (rot a (-13:Int),()).fst) (rot a (-22:Int),()).fst+bitOp BinOp.xor IntKind.u32 (bitOp BinOp.xor IntKind.u32 (bitOp BinOp.and IntKind.u32 a b) (bitOp BinOp.and IntKind.u32 a c)) (bitOp BinOp.and IntKind.u32 b c))),a,b,c,IntKind.u32.wrap (d+IntKind.u32.wrap (IntKind.u32.wrap (h+bitOp BinOp.xor IntKind.u32 (bitOp BinOp.xor IntKind.u32 (rot e (-6:Int),()).fst (rot e (-11:Int),()).fst) (rot e (-25:Int),()).fst)+IntKind.u32.wrap (IntKind.u32.wrap (bitOp BinOp.xor IntKind.u32 (bitOp BinOp.and IntKind.u32 e f) (bitOp BinOp.and IntKind.u32 (bitOp BinOp.xor IntKind.u32 (if IntKind.u32.signed=true then (-1:Int) else IntKind.u32.max) e) g)+rootsL.getD (↑t:Int).toNat (0:Int))+w2.getD (↑t:Int).toNat (0:Int)))),e,f,g])).triv ((∃ j,j<=(64:Nat)/\IntKind.i64.wrap ((↑t:Int)+(1:Int))=(↑j:Int)/\[IntKind.u32.wrap (IntKind.u32.wrap (IntKind.u32.wrap (h+bitOp BinOp.xor IntKind.u32 (bitOp BinOp.xor IntKind.u32 (rot e (-6:Int)) (rot e (-11:Int))) (rot e (-25:Int)))+IntKind.u32.wrap (IntKind.u32.wrap (bitOp BinOp.xor IntKind.u32 (bitOp BinOp.and IntKind.u32 e f) (bitOp BinOp.and IntKind.u32 (bitOp BinOp.xor IntKind.u32 (if IntKind.u32.signed=true then (-1:Int) else IntKind.u32.max) e) g)+rootsL.getD (↑t:Int).toNat (0:Int))+w2.getD (↑t:Int).toNat (0:Int)))+IntKind.u32.wrap (bitOp BinOp.xor IntKind.u32 (bitOp BinOp.xor IntKind.u32 (rot a (-2:Int)) (rot a (-13:Int))) (rot a (-22:Int))+bitOp BinOp.xor IntKind.u32 (bitOp BinOp.xor IntKind.u32 (bitOp BinOp.and IntKind.u32 a b) (bitOp BinOp.and IntKind.u32 a c)) (bitOp BinOp.and IntKind.u32 b c))),a,b,c,IntKind.u32.wrap (d+IntKind.u32.wrap (IntKind.u32.wrap (h+bitOp BinOp.xor IntKind.u32 (bitOp BinOp.xor IntKind.u32 (rot e (-6:Int)) (rot e (-11:Int))) (rot e (-25:Int)))+IntKind.u32.wrap (IntKind.u32.wrap (bitOp BinOp.xor IntKind.u32 (bitOp BinOp.and IntKind.u32 e f) (bitOp BinOp.and IntKind.u32 (bitOp BinOp.xor IntKind.u32 (if IntKind.u32.signed=true then (-1:Int) else IntKind.u32.max) e) g)+rootsL.getD (↑t:Int).toNat (0:Int))+w2.getD (↑t:Int).toNat (0:Int)))),e,f,g]=vCk w2 st j)/\(64:Nat)-(IntKind.i64.wrap ((↑t:Int)+(1:Int))).toNat<(64:Nat)-(↑t:Int).toNat))/\(decide ((↑t:Int)<(64:Int))=false->(tkD st rest p sz w2 ((↑t:Int),[a,b,c,d,e,f,g,h])).triv ([a,b,c,d,e,f,g,h]=vCk w2 st (64:Nat))))) (by kernel_rfl) ?_
  refine⟨fun h'=>?_,fun h'=>tvi ?_⟩
  ·have h4:t<64:=by have:=of_decide_eq_true h';omega
   have hrl:rootsL.length=64:=rfl
   rw[wrap_succ (by omega),Int.toNat_natCast]
   exact⟨trivial,trivial,trivial,⟨by omega,by omega⟩,by omega,⟨by omega,by omega⟩,by omega,trivial,trivial,trivial,tvi ⟨⟨t+1,h4,rfl,by show _=vC w2 (vCk w2 st t) t;rw[<- kv];rfl⟩,by rw[Int.toNat_natCast];omega⟩⟩
  ·have:t=64:=by have:=of_decide_eq_false h';omega
   rw[kv,this]
 rintro⟨i3,v⟩ hv
 revert i3 v
 intro (i3:Int) (v:List Int) (hv:v=vCk w2 st 64)
 refine tr_cut hsp mixed 1 (tkE rest sz w2 v (0,st)) True ?_ (fun _=>?_)
 ·refine vcx (X:=((tkE rest sz w2 v ((0:Int),st)).triv True)) (by kernel_rfl) ?_
  exact tvi trivial
 refine tr_while hsp mixed noSw (fun σ=>(rdS (.int .i64) 172 σ,(rdB hashK 0 σ).1)) (tkE rest sz w2 v) (fun g=>∃ j:Nat,j<=8/\g.1=(j:Int)/\g.2=fCk v st j) (fun g=>8-g.1.toNat)
  (fun σ=>(rdS (.int .i64) 172 σ,(rdB hashK 0 σ).1)) (tkE rest sz w2 v) (fun g=>g.2=fCk v st 8) (0,st) (c:=nthC (codeOf Tryz.f81) 10) (by kernel_rfl) (by kernel_rfl) (le_of_proj (by kernel_rfl) (by kernel_rfl) ?_) ?_ ?_
 ·exact⟨0,by decide,rfl,rfl⟩
 ·rintro⟨j,s⟩ hj
  revert j s
  intro (j:Int) (s:List Int) ⟨t,ht,ej,es⟩
  have ej:j=(t:Int):=ej
  have ks:s=fCk v st t:=es
  subst ej
  refine vcx (X:=((decide ((↑t:Int)<(8:Int))=true->((0:Int)<=(↑t:Int)/\(↑t:Int)<(↑(8:Nat):Int))/\(↑t:Int).toNat<(8:Nat)/\((0:Int)<=(↑t:Int)/\(↑t:Int)<(↑(8:Nat):Int))/\(↑t:Int).toNat<(8:Nat)/\((0:Int)<=(↑t:Int)/\(↑t:Int)<(↑(8:Nat):Int))/\(↑t:Int).toNat<(8:Nat)/\(tkE rest sz w2 v (IntKind.i64.wrap ((↑t:Int)+(1:Int)),(s.set (↑t:Int).toNat (IntKind.u32.wrap (s.getD (↑t:Int).toNat (0:Int)+v.getD (↑t:Int).toNat (0:Int))),rest,sz).fst)).triv ((∃ j,j<=(8:Nat)/\IntKind.i64.wrap ((↑t:Int)+(1:Int))=(↑j:Int)/\s.set (↑t:Int).toNat (IntKind.u32.wrap (s.getD (↑t:Int).toNat (0:Int)+v.getD (↑t:Int).toNat (0:Int)))=fCk v st j)/\(8:Nat)-(IntKind.i64.wrap ((↑t:Int)+(1:Int))).toNat<(8:Nat)-(↑t:Int).toNat))/\(decide ((↑t:Int)<(8:Int))=false->(tkE rest sz w2 v ((↑t:Int),(s,rest,sz).fst)).triv (s=fCk v st (8:Nat))))) (by kernel_rfl) ?_
  refine⟨fun h=>?_,fun h=>tvi ?_⟩
  ·have h4:t<8:=by have:=of_decide_eq_true h;omega
   rw[wrap_succ (by omega),Int.toNat_natCast]
   exact⟨⟨by omega,by omega⟩,h4,⟨by omega,by omega⟩,h4,⟨by omega,by omega⟩,h4,tvi ⟨⟨t+1,h4,rfl,by rw[ks];rfl⟩,by rw[Int.toNat_natCast];omega⟩⟩
  ·have:t=8:=by have:=of_decide_eq_false h;omega
   rw[ks,this]
 rintro⟨i4,s⟩ hs
 revert i4 s
 intro (i4:Int) (s:List Int) (hs:s=fCk v st 8)
 refine tr_vc hsp mixed _ _ ?_
 refine vcx (X:=(((s,rest,sz),())=((tko st p,rest,sz),()))) (by kernel_rfl) ?_
 show ((s,rest,sz),())=((tko st p,rest,sz),())
 rw[hs,hv,hw2',hw1,tko,opq_eq,takeF]
def spTake:Nat × Eng.Spec:=(81,fnSpecPG shaG hashK [.arr 64 bK] [] (fun _=>True) (fun ((st,rest,sz),p,_)=>((tko st p,rest,sz),())))
end
end Go.Proofs.YteldhmehjkhanaaGreatDoor.sha
namespace Cr
section
variable (tk:List Int->List Int->List Int) (first:List Int)
def absK (st b:List Int):Nat->List Int
 | 0=>st
 | k+1=>tk (absK st b k) ((b.drop (64*k)).take 64)
theorem absK_pre (st X Y:List Int):∀ j,64*j<=X.length->absK tk st (X++Y) j=absK tk st X j
 | 0,_=>rfl
 | j+1,h=>by
  show tk _ _=tk _ _
  rw[absK_pre st X Y j (by omega),List.drop_append_of_le_length (by omega),List.take_append_of_le_length (by rw[List.length_drop];omega)]
theorem absK_app (st X Y:List Int) (k:Nat) (hk:X.length=64*k):∀ j,absK tk st (X++Y) (k+j)=absK tk (absK tk st X k) Y j
 | 0=>absK_pre tk st X Y k (by omega)
 | j+1=>by
  show tk (absK tk st (X++Y) (k+j)) _=tk _ _
  rw[absK_app st X Y k hk j]
  congr 2
  have hkj:X.length<=64*(k+j):=by omega
  rw[show k.add j=k+j from rfl,List.drop_append,List.drop_eq_nil_of_le hkj,List.nil_append]
  congr 1;omega
def tailOf (L:List Int):List Int:=L.drop (64*(L.length/64))
def Hs (L:List Int):List Int:=absK tk first L (L.length/64)
theorem tailOf_len (L:List Int):(tailOf L).length=L.length%64:=by rw[tailOf,List.length_drop];omega
theorem tailOf_app (X Y:List Int) (k:Nat) (hk:X.length=64*k):tailOf (X++Y)=tailOf Y:=by
 rw[tailOf,tailOf,List.length_append,List.drop_append,List.drop_eq_nil_of_le (by omega),List.nil_append]
 congr 1;omega
theorem Hs_app (X Y:List Int) (k:Nat) (hk:X.length=64*k):Hs tk first (X++Y)=absK tk (absK tk first X k) Y (Y.length/64):=by
 rw[Hs,List.length_append,show (X.length+Y.length)/64=k+Y.length/64 by omega,absK_app tk first X Y k hk]
def wrEnd (st rest b:List Int):List Int × List Int:=(absK tk st b (b.length/64),tailOf b++rest.drop (tailOf b).length)
def wrF (st rest:List Int) (sz:Int) (b:List Int):List Int × List Int × Int :=
 match decide ((sz%64).toNat=0) with
 | true=>((wrEnd tk (bif decide (sz=0) then first else st) rest b).1,(wrEnd tk (bif decide (sz=0) then first else st) rest b).2,sz+b.length)
 | false=>match decide ((sz%64).toNat+b.length<64) with
  | true=>(st,rest.take (sz%64).toNat++(b++rest.drop ((sz%64).toNat+b.length)),sz+b.length)
  | false=>((wrEnd tk (tk st (rest.take (sz%64).toNat++b.take (64-(sz%64).toNat))) (rest.take (sz%64).toNat++b.take (64-(sz%64).toNat)) (b.drop (64-(sz%64).toNat))).1,
    (wrEnd tk (tk st (rest.take (sz%64).toNat++b.take (64-(sz%64).toNat))) (rest.take (sz%64).toNat++b.take (64-(sz%64).toNat)) (b.drop (64-(sz%64).toNat))).2,sz+b.length)
def Took (L:List Int) (st rest:List Int) (sz:Int):Prop:=sz=(L.length:Int)/\rest.length=64/\(L≠[]->st=Hs tk first L)/\rest.take (L.length%64)=tailOf L
theorem took_nil (st rest:List Int) (h:rest.length=64):Took tk first [] st rest 0:=⟨rfl,h,fun h=>absurd rfl h,by simp[tailOf]⟩
theorem took_wr {L st rest:List Int} {sz:Int} (h:Took tk first L st rest sz) (b:List Int):Took tk first (L++b) (wrF tk first st rest sz b).1 (wrF tk first st rest sz b).2.1 (wrF tk first st rest sz b).2.2:=by
 obtain⟨h1,h2,h3,h4⟩:=h
 subst h1
 have hr:(((L.length:Int))%64).toNat=L.length%64:=by omega
 have hsplit:L=L.take (64*(L.length/64))++tailOf L:=(List.take_append_drop _ L).symm
 have hXl:(L.take (64*(L.length/64))).length=64*(L.length/64):=by rw[List.length_take];omega
 unfold wrF
 rw[hr]
 have hsz:(L.length:Int)+(b.length:Int)=((L++b).length:Int):=by rw[List.length_append];omega
 cases hd:decide (L.length%64=0) with
 | true =>
  have h0:L.length%64=0:=of_decide_eq_true hd
  have ht:tailOf L=[]:=List.eq_nil_of_length_eq_zero (by rw[tailOf_len,h0])
  have hL:L.length=64*(L.length/64):=by omega
  have hs:(bif decide ((L.length:Int)=0) then first else st)=absK tk first L (L.length/64):=by
   cases L with
   | nil=>rfl
   | cons x l=>rw[decide_eq_false (by simp only[List.length_cons];omega),cond_false];exact h3 (by simp)
  refine⟨hsz,?_,fun _=>?_,?_⟩
  ·show (tailOf b++rest.drop _).length=64
   rw[List.length_append,List.length_drop,tailOf_len,h2];omega
  ·show absK tk _ b (b.length/64)=_
   rw[hs,Hs_app tk first L b _ hL]
  ·show (tailOf b++rest.drop _).take _=_
   rw[tailOf_app L b _ hL,List.length_append,show (L.length+b.length)%64=(tailOf b).length by rw[tailOf_len];omega,List.take_left' rfl]
 | false =>
  have h0:L.length%64≠0:=of_decide_eq_false hd
  have hne:L≠[]:=by rintro rfl;exact h0 rfl
  have hst:st=absK tk first (L.take (64*(L.length/64))) (L.length/64):=by
   rw[h3 hne,Hs]
   have:=absK_pre tk first (L.take (64*(L.length/64))) (tailOf L) (L.length/64) (by omega)
   rw[<- hsplit] at this
   exact this
  have hLb:L++b=L.take (64*(L.length/64))++(tailOf L++b):=by rw[<- List.append_assoc,<- hsplit]
  cases hd2:decide (L.length%64+b.length<64) with
  | true =>
   have h5:L.length%64+b.length<64:=of_decide_eq_true hd2
   refine⟨hsz,?_,fun _=>?_,?_⟩
   ·show (rest.take _++(b++rest.drop _)).length=64
    rw[List.length_append,List.length_append,List.length_drop,List.length_take,h2];omega
   ·show st=_
    rw[hLb,Hs_app tk first _ _ _ hXl,<- hst,show (tailOf L++b).length/64=0 by rw[List.length_append,tailOf_len];omega]
    rfl
   ·show (rest.take _++(b++rest.drop _)).take _=_
    rw[hLb,tailOf_app _ _ _ hXl]
    have e1:tailOf (tailOf L++b)=tailOf L++b:=by
     rw[tailOf,show (tailOf L++b).length/64=0 by rw[List.length_append,tailOf_len];omega];rfl
    have e2:(L.take (64*(L.length/64))++(tailOf L++b)).length%64=(tailOf L++b).length:=by
     rw[List.length_append,List.length_append,tailOf_len,hXl];omega
    rw[e1,h4,e2,<- List.append_assoc]
    exact List.take_left' rfl
  | false =>
   have h5:¬ L.length%64+b.length<64:=of_decide_eq_false hd2
   have hrl:(rest.take (L.length%64)++b.take (64-L.length%64)).length=64:=by
    rw[List.length_append,List.length_take,List.length_take,h2];omega
   have hb1:L++b=(L.take (64*(L.length/64))++(rest.take (L.length%64)++b.take (64-L.length%64)))++b.drop (64-L.length%64):=by
    rw[h4,List.append_assoc,List.append_assoc,List.take_append_drop];exact hLb
   have hXl2:(L.take (64*(L.length/64))++(rest.take (L.length%64)++b.take (64-L.length%64))).length=64*(L.length/64+1):=by
    rw[List.length_append,hrl,hXl];omega
   have hst2:absK tk first (L.take (64*(L.length/64))++(rest.take (L.length%64)++b.take (64-L.length%64))) (L.length/64+1)=tk st (rest.take (L.length%64)++b.take (64-L.length%64)):=by
    rw[absK_app tk first _ _ _ hXl 1,<- hst]
    show tk st _=_
    rw[Nat.mul_zero,List.drop_zero,List.take_of_length_le (by omega)]
   refine⟨hsz,?_,fun _=>?_,?_⟩
   ·show (tailOf _++List.drop _ (_++_)).length=64
    rw[List.length_append,List.length_drop,tailOf_len,hrl];omega
   ·show absK tk _ _ _=_
    rw[hb1,Hs_app tk first _ _ _ hXl2,hst2]
   ·show (tailOf _++List.drop _ (_++_)).take _=_
    rw[hb1,tailOf_app _ _ _ hXl2]
    rw[show (L.take (64*(L.length/64))++(rest.take (L.length%64)++b.take (64-L.length%64))++b.drop (64-L.length%64)).length%64=(tailOf (b.drop (64-L.length%64))).length by rw[tailOf_len,List.length_append,hXl2];omega,List.take_left' rfl]
end
end Cr
namespace Cr
def fcn {α:Type} (n:Nat) (k:Nat->α):α:=Nat.rec (k 0) (fun m _=>k (m+1)) n
noncomputable def fi {α:Type} (x:Int) (k:Int->α):α:=Int.rec (fun n=>fcn n fun m=>k (Int.ofNat m)) (fun n=>fcn n fun m=>k (Int.negSucc m)) x
noncomputable def fl {α:Type} (l:List Int) (k:List Int->α):α:=List.rec (motive:=fun _=>(List Int->α)->α) (fun k=>k []) (fun x _ ih k=>fi x fun x'=>ih fun l'=>k (x'::l')) l k
def it {α:Type} (f:Nat->α->α) (s:α):Nat->α
 | 0=>s
 | k+1=>f k (it f s k)
end Cr
namespace Go.Proofs.YteldhmehjkhanaaGreatDoor.sha
open Go Go.Eng Go.RowKit Cr
def padB (n:Nat):List Int:=128::(List.replicate ((64+55-n%64)%64) 0++(List.range 8).map fun i=>((n:Int)*8)/2^(56-8*i)%256)
def outB (s:List Int):List Int:=(List.range 32).map fun i=>IntKind.u8.wrap ((s.getD (i/4) 0).fdiv (2^(24-8*(i%4))))
noncomputable def digF (L:List Int):List Int:=outB (Hs tko firstL (L++padB L.length))
noncomputable def dig (L:List Int):List Int:=opq (digF L)
theorem outB_len (s:List Int):(outB s).length=32:=by simp[outB]
theorem dig_len (L:List Int):(dig L).length=32:=by rw[dig,opq_eq,digF,outB_len]
end Go.Proofs.YteldhmehjkhanaaGreatDoor.sha
namespace Go.Proofs.YteldhmehjkhanaaGreatDoor.sha
noncomputable section
open Go Go.Eng Go.RowKit Cr
theorem ent_write:enters Tryz.prog 52 Tryz.f52:=ek
def wro (st rest:List Int) (sz:Int) (b:List Int):Car hashK:=opq (wrF tko firstL st rest sz b)
theorem took_wro {L st rest:List Int} {sz:Int} (h:Took tko firstL L st rest sz) (b:List Int):Took tko firstL (L++b) (wro st rest sz b).1 (wro st rest sz b).2.1 (wro st rest sz b).2.2:=by
 rw[wro,opq_eq];exact took_wr tko firstL h b
theorem wrEnd_step (st rest b:List Int) (h:64<=b.length):wrEnd tko (tko st (b.take 64)) rest (b.drop 64)=wrEnd tko st rest b:=by
 have h1:b.take 64++b.drop 64=b:=List.take_append_drop _ _
 have h2:(b.take 64).length=64*1:=by rw[List.length_take];omega
 have h3:tailOf (b.drop 64)=tailOf b:=by
  have:=tailOf_app (b.take 64) (b.drop 64) 1 h2
  rw[h1] at this;exact this.symm
 have h4:absK tko (tko st (b.take 64)) (b.drop 64) ((b.drop 64).length/64)=absK tko st b (b.length/64):=by
  have:=absK_app tko st (b.take 64) (b.drop 64) 1 h2 ((b.drop 64).length/64)
  rw[h1] at this
  have e:absK tko st (b.take 64) 1=tko st (b.take 64):=by
   show tko st _=_
   rw[Nat.mul_zero,List.drop_zero,List.take_take];rfl
  rw[e] at this
  rw[<- this]
  congr 1
  rw[List.length_drop];omega
 unfold wrEnd
 rw[h3,h4]
abbrev Wg:Type:=(List Int × List Int × Int) × List Int
def wrS (g:Wg):St:=mkSt Tryz.f52.ntmps 201 [(0,.is (.one (.ptr 0 0))),(1,.is (.one (.ro bK g.2)))] [(0,[.ints .u32 8 g.1.1,.ints .u8 64 g.1.2.1,.v (.int .i64 g.1.2.2)])]
abbrev preWr:Car hashK × HL [.sl bK]->Prop:=fun ((_,_,sz),b,_)=>(0:Int)<=sz/\sz<=(1152921504606846976:Int)/\List.length b<=1152921504606846976
def wrJ (st rest:List Int) (sz:Int) (b:List Int) (g:Wg):Prop:=((wrEnd tko g.1.1 g.1.2.1 g.2).1,(wrEnd tko g.1.1 g.1.2.1 g.2).2,g.1.2.2)=wro st rest sz b/\g.1.2.1.length=64
theorem wro_eq0 {st rest:List Int} {sz:Int} {b:List Int} (h:(sz%64).toNat=0):wro st rest sz b=((wrEnd tko (bif decide (sz=0) then firstL else st) rest b).1,(wrEnd tko (bif decide (sz=0) then firstL else st) rest b).2,sz+b.length):=by
 rw[wro,opq_eq,wrF,decide_eq_true h]
theorem wro_eq1 {st rest:List Int} {sz:Int} {b:List Int} {a:Nat} (ha:a=(sz%64).toNat) (h:a≠0) (h2:a+b.length<64):wro st rest sz b=(st,rest.take a++(b++rest.drop (a+b.length)),sz+b.length):=by
 subst ha
 rw[wro,opq_eq,wrF,decide_eq_false h,decide_eq_true h2]
theorem wro_eq2 {st rest:List Int} {sz:Int} {b:List Int} {a:Nat} (ha:a=(sz%64).toNat) (h:a≠0) (h2:¬a+b.length<64):wro st rest sz b =
  ((wrEnd tko (tko st (rest.take a++b.take (64-a))) (rest.take a++b.take (64-a)) (b.drop (64-a))).1,(wrEnd tko (tko st (rest.take a++b.take (64-a))) (rest.take a++b.take (64-a)) (b.drop (64-a))).2,sz+b.length):=by
 subst ha
 rw[wro,opq_eq,wrF,decide_eq_false h,decide_eq_false h2]
theorem fn_write:FnOkP Tryz.prog 52 hashK [.sl bK] [] shaG preWr (fun ((st,rest,sz),b,_)=>(wro st rest sz b,())):=by
 have hsp:SpecsOk Tryz.prog (sps [spTake]):=spk (fnSpecPG_ok fn_take) snl
 refine fn_of_trP (sp:=sps [spTake]) ent_write (by decide) (by decide) (by kernel_rfl) ?_
 rintro w M0 b0 ⟨st,rest,sz⟩ ⟨b,⟨⟩⟩
 revert st rest sz b
 intro (st:List Int) (rest:List Int) (sz:Int) (b:List Int) hw hw2 hp
 obtain⟨hs0,hs1,hb⟩:=hp
 have hs0:(0:Int)<=sz:=hs0
 have hs1:sz<=(1152921504606846976:Int):=hs1
 have hb:b.length<=1152921504606846976:=hb
 have hst:st.length=8:=hw.1.1
 have hrl:rest.length=64:=hw.2.1.1
 show Tr _ _ _ _ _ _ _
 refine tr_cutF hsp mixed 8 (fun σ=>(rdB hashK 0 σ,rdO bK 1 σ)) wrS (wrJ st rest sz b) ?_ ?_
 ·refine vcx (X:=(((sz==(0:Int))=true->(0:Nat)<[firstL].length/\((64:Int)=(0:Int)->False)/\(decide (sz.tmod (64:Int)>(0:Int))=true->((0:Int)<=sz.tmod (64:Int)/\sz.tmod (64:Int)<=(↑(64:Nat):Int))/\(sz.tmod (64:Int)).toNat+((↑(64:Nat):Int)-sz.tmod (64:Int)).toNat<=(64:Nat)/\(decide (IntKind.i64.wrap (sz.tmod (64:Int)+(↑(b.length.min ((↑(64:Nat):Int)-sz.tmod (64:Int)).toNat):Int))<(64:Int))=true->(([(1779033703:Int),(3144134277:Int),(1013904242:Int),(2773480762:Int),(1359893119:Int),(2600822924:Int),(528734635:Int),(1541459225:Int)],List.take (sz.tmod (64:Int)).toNat rest++(List.take (b.length.min ((↑(64:Nat):Int)-sz.tmod (64:Int)).toNat) b++List.drop ((sz.tmod (64:Int)).toNat+b.length.min ((↑(64:Nat):Int)-sz.tmod (64:Int)).toNat) rest),IntKind.i64.wrap (sz+(↑b.length:Int))),())=(wro st rest sz b,()))/\(decide (IntKind.i64.wrap (sz.tmod (64:Int)+(↑(b.length.min ((↑(64:Nat):Int)-sz.tmod (64:Int)).toNat):Int))<(64:Int))=false->((0:Int)<=(↑(b.length.min ((↑(64:Nat):Int)-sz.tmod (64:Int)).toNat):Int)/\(↑(b.length.min ((↑(64:Nat):Int)-sz.tmod (64:Int)).toNat):Int)<=(↑b.length:Int))/\(∀ (g:Nat) (s:Sigma Car),shaG g=some s->Decidable.rec (fun h=>(fun x=>if g=(1:Nat) then some ⟨Kd.arr (64:Nat) uK,rootsL⟩ else none) h) (fun h=>(fun x=>some ⟨Kd.arr (8:Nat) uK,firstL⟩) h) (instDecidableEqNat g (0:Nat))=some s)/\True/\(wrS ((tko firstL (List.take (sz.tmod (64:Int)).toNat rest++(List.take (b.length.min ((↑(64:Nat):Int)-sz.tmod (64:Int)).toNat) b++List.drop ((sz.tmod (64:Int)).toNat+b.length.min ((↑(64:Nat):Int)-sz.tmod (64:Int)).toNat) rest)),List.take (sz.tmod (64:Int)).toNat rest++(List.take (b.length.min ((↑(64:Nat):Int)-sz.tmod (64:Int)).toNat) b++List.drop ((sz.tmod (64:Int)).toNat+b.length.min ((↑(64:Nat):Int)-sz.tmod (64:Int)).toNat) rest),IntKind.i64.wrap (sz+(↑b.length:Int))),List.take ((↑b.length:Int)-(↑(b.length.min ((↑(64:Nat):Int)-sz.tmod (64:Int)).toNat):Int)).toNat (List.drop (↑(b.length.min ((↑(64:Nat):Int)-sz.tmod (64:Int)).toNat):Int).toNat b))).triv (wrJ st rest sz b ((tko firstL (List.take (sz.tmod (64:Int)).toNat rest++(List.take (b.length.min ((↑(64:Nat):Int)-sz.tmod (64:Int)).toNat) b++List.drop ((sz.tmod (64:Int)).toNat+b.length.min ((↑(64:Nat):Int)-sz.tmod (64:Int)).toNat) rest)),List.take (sz.tmod (64:Int)).toNat rest++(List.take (b.length.min ((↑(64:Nat):Int)-sz.tmod (64:Int)).toNat) b++List.drop ((sz.tmod (64:Int)).toNat+b.length.min ((↑(64:Nat):Int)-sz.tmod (64:Int)).toNat) rest),IntKind.i64.wrap (sz+(↑b.length:Int))),List.take ((↑b.length:Int)-(↑(b.length.min ((↑(64:Nat):Int)-sz.tmod (64:Int)).toNat):Int)).toNat (List.drop (↑(b.length.min ((↑(64:Nat):Int)-sz.tmod (64:Int)).toNat):Int).toNat b)))))/\(decide (sz.tmod (64:Int)>(0:Int))=false->(wrS (([(1779033703:Int),(3144134277:Int),(1013904242:Int),(2773480762:Int),(1359893119:Int),(2600822924:Int),(528734635:Int),(1541459225:Int)],rest,IntKind.i64.wrap (sz+(↑b.length:Int))),b)).triv (wrJ st rest sz b (([(1779033703:Int),(3144134277:Int),(1013904242:Int),(2773480762:Int),(1359893119:Int),(2600822924:Int),(528734635:Int),(1541459225:Int)],rest,IntKind.i64.wrap (sz+(↑b.length:Int))),b))))/\((sz==(0:Int))=false->((64:Int)=(0:Int)->False)/\(decide (sz.tmod (64:Int)>(0:Int))=true->((0:Int)<=sz.tmod (64:Int)/\sz.tmod (64:Int)<=(↑(64:Nat):Int))/\(sz.tmod (64:Int)).toNat+((↑(64:Nat):Int)-sz.tmod (64:Int)).toNat<=(64:Nat)/\(decide (IntKind.i64.wrap (sz.tmod (64:Int)+(↑(b.length.min ((↑(64:Nat):Int)-sz.tmod (64:Int)).toNat):Int))<(64:Int))=true->((st,List.take (sz.tmod (64:Int)).toNat rest++(List.take (b.length.min ((↑(64:Nat):Int)-sz.tmod (64:Int)).toNat) b++List.drop ((sz.tmod (64:Int)).toNat+b.length.min ((↑(64:Nat):Int)-sz.tmod (64:Int)).toNat) rest),IntKind.i64.wrap (sz+(↑b.length:Int))),())=(wro st rest sz b,()))/\(decide (IntKind.i64.wrap (sz.tmod (64:Int)+(↑(b.length.min ((↑(64:Nat):Int)-sz.tmod (64:Int)).toNat):Int))<(64:Int))=false->((0:Int)<=(↑(b.length.min ((↑(64:Nat):Int)-sz.tmod (64:Int)).toNat):Int)/\(↑(b.length.min ((↑(64:Nat):Int)-sz.tmod (64:Int)).toNat):Int)<=(↑b.length:Int))/\(∀ (g:Nat) (s:Sigma Car),shaG g=some s->Decidable.rec (fun h=>(fun x=>if g=(1:Nat) then some ⟨Kd.arr (64:Nat) uK,rootsL⟩ else none) h) (fun h=>(fun x=>some ⟨Kd.arr (8:Nat) uK,firstL⟩) h) (instDecidableEqNat g (0:Nat))=some s)/\True/\(wrS ((tko st (List.take (sz.tmod (64:Int)).toNat rest++(List.take (b.length.min ((↑(64:Nat):Int)-sz.tmod (64:Int)).toNat) b++List.drop ((sz.tmod (64:Int)).toNat+b.length.min ((↑(64:Nat):Int)-sz.tmod (64:Int)).toNat) rest)),List.take (sz.tmod (64:Int)).toNat rest++(List.take (b.length.min ((↑(64:Nat):Int)-sz.tmod (64:Int)).toNat) b++List.drop ((sz.tmod (64:Int)).toNat+b.length.min ((↑(64:Nat):Int)-sz.tmod (64:Int)).toNat) rest),IntKind.i64.wrap (sz+(↑b.length:Int))),List.take ((↑b.length:Int)-(↑(b.length.min ((↑(64:Nat):Int)-sz.tmod (64:Int)).toNat):Int)).toNat (List.drop (↑(b.length.min ((↑(64:Nat):Int)-sz.tmod (64:Int)).toNat):Int).toNat b))).triv (wrJ st rest sz b ((tko st (List.take (sz.tmod (64:Int)).toNat rest++(List.take (b.length.min ((↑(64:Nat):Int)-sz.tmod (64:Int)).toNat) b++List.drop ((sz.tmod (64:Int)).toNat+b.length.min ((↑(64:Nat):Int)-sz.tmod (64:Int)).toNat) rest)),List.take (sz.tmod (64:Int)).toNat rest++(List.take (b.length.min ((↑(64:Nat):Int)-sz.tmod (64:Int)).toNat) b++List.drop ((sz.tmod (64:Int)).toNat+b.length.min ((↑(64:Nat):Int)-sz.tmod (64:Int)).toNat) rest),IntKind.i64.wrap (sz+(↑b.length:Int))),List.take ((↑b.length:Int)-(↑(b.length.min ((↑(64:Nat):Int)-sz.tmod (64:Int)).toNat):Int)).toNat (List.drop (↑(b.length.min ((↑(64:Nat):Int)-sz.tmod (64:Int)).toNat):Int).toNat b)))))/\(decide (sz.tmod (64:Int)>(0:Int))=false->(wrS ((st,rest,IntKind.i64.wrap (sz+(↑b.length:Int))),b)).triv (wrJ st rest sz b ((st,rest,IntKind.i64.wrap (sz+(↑b.length:Int))),b)))))) (by kernel_rfl) ?_
  obtain⟨a,ha,ha64,har⟩:∃ a:Nat,sz.tmod 64=(a:Int)/\a<64/\a=(sz%64).toNat:=⟨(sz%64).toNat,by rw[Int.tmod_eq_emod_of_nonneg hs0];omega,by omega,rfl⟩
  have e1:((↑(64:Nat):Int)-(a:Int)).toNat=64-a:=by omega
  have e3:IntKind.i64.wrap (sz+(↑b.length:Int))=sz+b.length:=wrap_i64' (by omega) (by omega)
  rw[ha,e1,e3]
  obtain⟨n,hn⟩:∃ n,n=b.length.min (64-a):=⟨_,rfl⟩
  have hn':n=min b.length (64-a):=hn
  have e2:IntKind.i64.wrap ((a:Int)+(n:Int))=((a+n:Nat):Int):=by rw[wrap_i64' (by omega) (by omega)];omega
  rw[<- hn,e2]
  simp only[Int.toNat_natCast]
  refine⟨fun h0=>⟨by decide,by decide,fun hpos=>?_,fun hz=>tvi ?_⟩,fun h0=>⟨by decide,fun hpos=>⟨⟨by omega,by omega⟩,by omega,fun hlt=>?_,fun hge=>⟨⟨by omega,by omega⟩,fun _ _ h=>h,trivial,tvi ?_⟩⟩,fun hz=>tvi ?_⟩⟩
  ·exfalso
   have h0:sz=0:=by simpa using h0
   have:=of_decide_eq_true hpos
   subst h0;omega
  ·have h0:sz=0:=by simpa using h0
   refine⟨?_,hrl⟩
   rw[wro_eq0 (by omega),decide_eq_true h0];rfl
  ·have hlt:=of_decide_eq_true hlt
   have hpos:=of_decide_eq_true hpos
   have hnb:n=b.length:=by omega
   rw[wro_eq1 har (by omega) (by omega),hnb,List.take_of_length_le (Nat.le_refl _)]
  ·have hge:=of_decide_eq_false hge
   have hpos:=of_decide_eq_true hpos
   have hnb:n=64-a:=by omega
   have hr1:rest.take a++(b.take n++rest.drop (a+n))=rest.take a++b.take (64-a):=by
    rw[hnb,List.drop_eq_nil_of_le (by omega),List.append_nil]
   have hb1:List.take ((↑b.length:Int)-(n:Int)).toNat (List.drop n b)=b.drop (64-a):=by
    rw[List.take_of_length_le (by rw[List.length_drop];omega),hnb]
   rw[hr1,hb1]
   refine⟨?_,?_⟩
   ·rw[wro_eq2 har (by omega) (by omega)]
   ·show (rest.take a++b.take (64-a)).length=64
    rw[List.length_append,List.length_take,List.length_take];omega
  ·have hz:=of_decide_eq_false hz
   have h0:¬ sz=0:=by simpa using h0
   refine⟨?_,hrl⟩
   rw[wro_eq0 (by omega),decide_eq_false h0];rfl
 rintro⟨⟨st1,rest1,sz1⟩,b1⟩ hJ
 revert st1 rest1 sz1 b1
 intro (b1:List Int) (st1:List Int) (rest1:List Int) (sz1:Int) (hJ:wrJ st rest sz b ((st1,rest1,sz1),b1))
 refine tr_while hsp mixed noSw (fun σ=>(rdB hashK 0 σ,rdO bK 1 σ)) wrS (wrJ st rest sz b) (fun g=>g.2.length)
  (fun σ=>(rdB hashK 0 σ,rdO bK 1 σ)) wrS (fun g=>wrJ st rest sz b g/\g.2.length<64) ((st1,rest1,sz1),b1) (c:=nthC (codeOf Tryz.f52) 8) (by kernel_rfl) (by kernel_rfl) (le_of_proj (by kernel_rfl) (by kernel_rfl) ?_) ?_ ?_
 ·exact hJ
 ·rintro⟨⟨st1,rest1,sz1⟩,b1⟩ hj
  revert st1 rest1 sz1 b1
  intro (b1:List Int) (st1:List Int) (rest1:List Int) (sz1:Int) (hj:wrJ st rest sz b ((st1,rest1,sz1),b1))
  refine vcx (X:=((decide ((↑b1.length:Int)>=(64:Int))=true->(64:Nat)<=b1.length/\(0:Nat)+Tryz.prog.cellsOf 111/width bK<=b1.length/\(∀ (g:Nat) (s:Sigma Car),shaG g=some s->Decidable.rec (fun h=>(fun x=>if g=(1:Nat) then some ⟨Kd.arr (64:Nat) uK,rootsL⟩ else none) h) (fun h=>(fun x=>some ⟨Kd.arr (8:Nat) uK,firstL⟩) h) (instDecidableEqNat g (0:Nat))=some s)/\True/\((0:Int)<=(64:Int)/\(64:Int)<=(↑b1.length:Int))/\(wrS ((tko st1 (List.take (Tryz.prog.cellsOf 111/width bK) b1),rest1,sz1),List.take ((↑b1.length:Int)-(64:Int)).toNat (List.drop (64:Nat) b1))).triv (wrJ st rest sz b ((tko st1 (List.take (Tryz.prog.cellsOf 111/width bK) b1),rest1,sz1),List.take ((↑b1.length:Int)-(64:Int)).toNat (List.drop (64:Nat) b1))/\(List.take ((↑b1.length:Int)-(64:Int)).toNat (List.drop (64:Nat) b1)).length<b1.length))/\(decide ((↑b1.length:Int)>=(64:Int))=false->(wrS ((st1,rest1,sz1),b1)).triv (wrJ st rest sz b ((st1,rest1,sz1),b1)/\b1.length<(64:Nat))))) (by kernel_rfl) ?_
  have e64:Tryz.prog.cellsOf 111/width bK=64:=by kernel_rfl
  obtain⟨hj1,hj2⟩:=hj
  refine⟨fun h=>?_,fun h=>tvi ⟨⟨hj1,hj2⟩,by have:=of_decide_eq_false h;omega⟩⟩
  have h64:64<=b1.length:=by have:=of_decide_eq_true h;omega
  have hd:List.take ((↑b1.length:Int)-(64:Int)).toNat (List.drop 64 b1)=b1.drop 64:=List.take_of_length_le (by rw[List.length_drop];omega)
  show 64<=b1.length/\0+Tryz.prog.cellsOf 111/width bK<=b1.length/\_
  rw[e64,hd]
  refine⟨h64,by omega,fun _ _ h=>h,trivial,⟨by omega,by omega⟩,tvi ⟨⟨?_,hj2⟩,?_⟩⟩
  ·show ((wrEnd tko (tko st1 (List.take (Tryz.prog.cellsOf 111/width bK) b1)) rest1 (b1.drop 64)).1,(wrEnd tko (tko st1 (List.take (Tryz.prog.cellsOf 111/width bK) b1)) rest1 (b1.drop 64)).2,sz1)=_
   rw[e64,wrEnd_step _ _ _ h64];exact hj1
  ·rw[List.length_drop];omega
 rintro⟨⟨st2,rest2,sz2⟩,b2⟩ hj
 revert st2 rest2 sz2 b2
 intro (b2:List Int) (st2:List Int) (rest2:List Int) (sz2:Int) (hj:wrJ st rest sz b ((st2,rest2,sz2),b2)/\b2.length<64)
 refine tr_vc hsp mixed _ _ ?_
 refine vcx (X:=(0+64<=64/\((st2,List.take 0 rest2++(List.take (b2.length.min (64:Nat)) b2++List.drop ((0:Nat)+b2.length.min (64:Nat)) rest2),sz2),())=(wro st rest sz b,()))) (by kernel_rfl) ?_
 obtain⟨⟨hj1,hj2⟩,hlt⟩:=hj
 have hlt:b2.length<64:=hlt
 refine⟨by decide,?_⟩
 have e1:b2.length.min 64=b2.length:=Nat.min_eq_left (by omega)
 have e2:tailOf b2=b2:=by rw[tailOf,show b2.length/64=0 by omega];rfl
 rw[<- hj1,e1]
 show ((st2,List.take 0 rest2++(List.take b2.length b2++List.drop (0+b2.length) rest2),sz2),())=(((wrEnd tko st2 rest2 b2).1,(wrEnd tko st2 rest2 b2).2,sz2),())
 unfold wrEnd
 rw[e2,List.take_of_length_le (Nat.le_refl _),show b2.length/64=0 by omega,Nat.zero_add]
 rfl
def spWrite:Nat × Eng.Spec:=(52,fnSpecPG shaG hashK [.sl bK] [] preWr (fun ((st,rest,sz),b,_)=>(wro st rest sz b,())))
end
end Go.Proofs.YteldhmehjkhanaaGreatDoor.sha
namespace Go.Proofs.YteldhmehjkhanaaGreatDoor.sha
noncomputable section
open Go Go.Eng Go.RowKit Cr
theorem set_fill (f:Nat->Int) (p:List Int) (k n:Nat):(p++((List.range k).map f++List.replicate (n+1) 0)).set (p.length+k) (f k)=p++((List.range (k+1)).map f++List.replicate n 0):=by
 rw[List.set_append_right _ _ (by omega),show p.length+k-p.length=k by omega,List.set_append_right _ _ (by simp)]
 rw[show k-((List.range k).map f).length=0 by simp,List.replicate_succ,List.set_cons_zero,List.range_succ,List.map_append,List.append_assoc]
 rfl
theorem wrap_u8 (x:Int):IntKind.u8.wrap x=x%256:=by
 simp only[IntKind.wrap,IntKind.signed,IntKind.bits]
 simp
theorem ent_sum:enters Tryz.prog 53 Tryz.f53:=ek
def nn (sz:Int):Nat:=(64+55-sz.toNat%64)%64
def szB (sz:Int) (i:Nat):Int:=sz*8/2^(56-8*i)%256
def tlk (sz:Int) (k:Nat):List Int:=(128::List.replicate (nn sz) 0)++((List.range k).map (szB sz)++List.replicate (71-nn sz-k) 0)
theorem tlk_pad (sz:Int) (h:0<=sz):(tlk sz 8).take (1+nn sz+8)=padB sz.toNat:=by
 have e:tlk sz 8=((128::List.replicate (nn sz) 0)++(List.range 8).map (szB sz))++List.replicate (71-nn sz-8) 0:=by rw[tlk,List.append_assoc]
 rw[e,List.take_left' (by simp;omega)]
 have e2:((sz.toNat:Nat):Int)=sz:=by omega
 unfold padB szB nn
 rw[e2]
 rfl
def smA (st rest:List Int) (sz:Int) (n:Int) (g:Int × List Int):St:=mkSt Tryz.f53.ntmps 129 [(0,.is (.one (.ptr 0 0))),(2,.is (.one (.ptr 1 0))),(3,.is (.one (.ptr 9 0))),(4,.is (.one (.ptr 33 0))),(5,sI .i64 n),(20,sI .i64 g.1)] [(33,[.ints .u8 72 g.2]),(9,[.ints .u8 32 (List.replicate 32 0)]),(1,[.ints .u8 32 (List.replicate 32 0)]),(0,[.ints .u32 8 st,.ints .u8 64 rest,.v (.int .i64 sz)])]
def smB (st rest:List Int) (sz:Int) (y:Car hashK) (g:Int × List Int):St:=mkSt Tryz.f53.ntmps 217 [(2,.is (.one (.ptr 1 0))),(3,.is (.one (.ptr 9 0))),(7,.is (.one (.ptr 153 0))),(48,sI .i64 g.1)] [(153,[.ints .u32 8 y.1,.ints .u8 64 y.2.1,.v (.int .i64 y.2.2)]),(9,[.ints .u8 32 g.2]),(1,[.ints .u8 32 (List.replicate 32 0)]),(0,[.ints .u32 8 st,.ints .u8 64 rest,.v (.int .i64 sz)])]
def outE (s:List Int) (i:Nat):Int:=IntKind.u8.wrap ((s.getD (i/4) 0).fdiv (2^(24-8*(i%4))))
def oK (s:List Int) (k:Nat):List Int:=[]++((List.range k).map (outE s)++List.replicate (32-k) 0)
def sumo (st rest:List Int) (sz:Int):List Int:=opq (outB (wro st rest sz (padB sz.toNat)).1)
theorem took_sum {L st rest:List Int} {sz:Int} (h:Took tko firstL L st rest sz):sumo st rest sz=dig L:=by
 have e:sz.toNat=L.length:=by have:=h.1;omega
 have k:=took_wro h (padB L.length)
 have hne:L++padB L.length≠[]:=by simp[padB]
 rw[sumo,opq_eq,dig,opq_eq,digF,e,k.2.2.1 hne]
theorem fn_sum:FnOkP Tryz.prog 53 hashK [] [.val (.arr 32 bK)] shaG (fun ((_,_,sz),_)=>(0:Int)<=sz/\sz<=(1152921504606846976:Int)) (fun ((st,rest,sz),_)=>((st,rest,sz),(sumo st rest sz,()))):=by
 have hsp:SpecsOk Tryz.prog (sps [spWrite]):=spk (fnSpecPG_ok fn_write) snl
 refine fn_of_trP (sp:=sps [spWrite]) ent_sum (by decide) (by decide) (by kernel_rfl) ?_
 rintro w M0 b0 ⟨st,rest,sz⟩ ⟨⟩
 revert st rest sz
 intro (st:List Int) (rest:List Int) (sz:Int) hw hw2 hp
 have hs0:(0:Int)<=sz:=hp.1
 have hs1:sz<=(1152921504606846976:Int):=hp.2
 have hnn:nn sz<64:=Nat.mod_lt _ (by decide)
 have hn0:(119-sz.tmod 64).tmod 64=(nn sz:Int):=by
  rw[Int.tmod_eq_emod_of_nonneg hs0,Int.tmod_eq_emod_of_nonneg (by omega)]
  show _=(((64+55-sz.toNat%64)%64:Nat):Int)
  omega
 have hw64:IntKind.u64.wrap sz=sz:=by
  simp only[IntKind.wrap,IntKind.signed,IntKind.bits]
  simp;omega
 have hw8:IntKind.u64.wrap (sz*8)=sz*8:=by
  simp only[IntKind.wrap,IntKind.signed,IntKind.bits]
  simp;omega
 show Tr _ _ _ _ _ _ _
 refine tr_cutF hsp mixed 8 (fun σ=>(rdS (.int .i64) 5 σ,rdR bK 33 σ)) (fun g=>smA st rest sz g.1 (0,g.2)) (fun g=>g.1=(nn sz:Int)/\g.2=tlk sz 0) ?_ ?_
 ·refine vcx (X:=((0:Nat)<(72:Nat)/\((64:Int)=(0:Int)->False)/\((64:Int)=(0:Int)->False)/\(smA st rest sz ((IntKind.i64.wrap ((119:Int)-sz.tmod (64:Int))).tmod (64:Int),[(128:Int),(0:Int),(0:Int),(0:Int),(0:Int),(0:Int),(0:Int),(0:Int),(0:Int),(0:Int),(0:Int),(0:Int),(0:Int),(0:Int),(0:Int),(0:Int),(0:Int),(0:Int),(0:Int),(0:Int),(0:Int),(0:Int),(0:Int),(0:Int),(0:Int),(0:Int),(0:Int),(0:Int),(0:Int),(0:Int),(0:Int),(0:Int),(0:Int),(0:Int),(0:Int),(0:Int),(0:Int),(0:Int),(0:Int),(0:Int),(0:Int),(0:Int),(0:Int),(0:Int),(0:Int),(0:Int),(0:Int),(0:Int),(0:Int),(0:Int),(0:Int),(0:Int),(0:Int),(0:Int),(0:Int),(0:Int),(0:Int),(0:Int),(0:Int),(0:Int),(0:Int),(0:Int),(0:Int),(0:Int),(0:Int),(0:Int),(0:Int),(0:Int),(0:Int),(0:Int),(0:Int),(0:Int)]).fst ((0:Int),((IntKind.i64.wrap ((119:Int)-sz.tmod (64:Int))).tmod (64:Int),[(128:Int),(0:Int),(0:Int),(0:Int),(0:Int),(0:Int),(0:Int),(0:Int),(0:Int),(0:Int),(0:Int),(0:Int),(0:Int),(0:Int),(0:Int),(0:Int),(0:Int),(0:Int),(0:Int),(0:Int),(0:Int),(0:Int),(0:Int),(0:Int),(0:Int),(0:Int),(0:Int),(0:Int),(0:Int),(0:Int),(0:Int),(0:Int),(0:Int),(0:Int),(0:Int),(0:Int),(0:Int),(0:Int),(0:Int),(0:Int),(0:Int),(0:Int),(0:Int),(0:Int),(0:Int),(0:Int),(0:Int),(0:Int),(0:Int),(0:Int),(0:Int),(0:Int),(0:Int),(0:Int),(0:Int),(0:Int),(0:Int),(0:Int),(0:Int),(0:Int),(0:Int),(0:Int),(0:Int),(0:Int),(0:Int),(0:Int),(0:Int),(0:Int),(0:Int),(0:Int),(0:Int),(0:Int)]).snd)).triv ((IntKind.i64.wrap ((119:Int)-sz.tmod (64:Int))).tmod (64:Int)=(↑(nn sz):Int)/\[(128:Int),(0:Int),(0:Int),(0:Int),(0:Int),(0:Int),(0:Int),(0:Int),(0:Int),(0:Int),(0:Int),(0:Int),(0:Int),(0:Int),(0:Int),(0:Int),(0:Int),(0:Int),(0:Int),(0:Int),(0:Int),(0:Int),(0:Int),(0:Int),(0:Int),(0:Int),(0:Int),(0:Int),(0:Int),(0:Int),(0:Int),(0:Int),(0:Int),(0:Int),(0:Int),(0:Int),(0:Int),(0:Int),(0:Int),(0:Int),(0:Int),(0:Int),(0:Int),(0:Int),(0:Int),(0:Int),(0:Int),(0:Int),(0:Int),(0:Int),(0:Int),(0:Int),(0:Int),(0:Int),(0:Int),(0:Int),(0:Int),(0:Int),(0:Int),(0:Int),(0:Int),(0:Int),(0:Int),(0:Int),(0:Int),(0:Int),(0:Int),(0:Int),(0:Int),(0:Int),(0:Int),(0:Int)]=tlk sz (0:Nat)))) (by kernel_rfl) ?_
  have e:IntKind.i64.wrap (119-sz.tmod 64)=119-sz.tmod 64:=by
   rw[Int.tmod_eq_emod_of_nonneg hs0];exact wrap_i64' (by omega) (by omega)
  rw[e,hn0]
  refine⟨by decide,by decide,by decide,tvi ⟨rfl,?_⟩⟩
  show _=(128::List.replicate (nn sz) 0)++([]++List.replicate (71-nn sz-0) 0)
  rw[List.nil_append,List.cons_append,List.replicate_append_replicate,show nn sz+(71-nn sz-0)=71 by omega]
  rfl
 rintro⟨n0,t0⟩ hK
 revert n0 t0
 intro (n0:Int) (t0:List Int) ⟨e0,et⟩
 have e0:n0=(nn sz:Int):=e0
 have et:t0=tlk sz 0:=et
 subst e0 et
 refine tr_while hsp mixed noSw (fun σ=>(rdS (.int .i64) 20 σ,rdR bK 33 σ)) (smA st rest sz (nn sz)) (fun g=>∃ k:Nat,k<=8/\g.1=(k:Int)/\g.2=tlk sz k) (fun g=>8-g.1.toNat)
  (fun σ=>(rdS (.int .i64) 20 σ,rdR bK 33 σ)) (smA st rest sz (nn sz)) (fun g=>g.2=tlk sz 8) (0,tlk sz 0) (c:=nthC (codeOf Tryz.f53) 8) (by kernel_rfl) (by kernel_rfl) (le_of_proj (by kernel_rfl) (by kernel_rfl) ?_) ?_ ?_
 ·exact⟨0,by decide,rfl,rfl⟩
 ·rintro⟨i,l⟩ hj
  revert i l
  intro (i:Int) (l:List Int) ⟨k,hk,ei,el⟩
  have ei:i=(k:Int):=ei
  have kl:l=tlk sz k:=el
  subst ei
  refine vcx (X:=((decide ((↑k:Int)<(8:Int))=true->(0:Int)<=IntKind.i64.wrap ((56:Int)-IntKind.i64.wrap ((8:Int)*(↑k:Int)))/\((0:Int)<=IntKind.i64.wrap (IntKind.i64.wrap ((1:Int)+(↑(nn sz):Int))+(↑k:Int))/\IntKind.i64.wrap (IntKind.i64.wrap ((1:Int)+(↑(nn sz):Int))+(↑k:Int))<(↑(72:Nat):Int))/\(IntKind.i64.wrap (IntKind.i64.wrap ((1:Int)+(↑(nn sz):Int))+(↑k:Int))).toNat<(72:Nat)/\(smA st rest sz (↑(nn sz):Int) (IntKind.i64.wrap ((↑k:Int)+(1:Int)),l.set (IntKind.i64.wrap (IntKind.i64.wrap ((1:Int)+(↑(nn sz):Int))+(↑k:Int))).toNat (IntKind.u8.wrap ((IntKind.u64.wrap (IntKind.u64.wrap sz*(8:Int))).fdiv ((2:Int)^min (IntKind.i64.wrap ((56:Int)-IntKind.i64.wrap ((8:Int)*(↑k:Int)))).toNat IntKind.u64.bits))))).triv ((∃ k_1,k_1<=(8:Nat)/\IntKind.i64.wrap ((↑k:Int)+(1:Int))=(↑k_1:Int)/\l.set (IntKind.i64.wrap (IntKind.i64.wrap ((1:Int)+(↑(nn sz):Int))+(↑k:Int))).toNat (IntKind.u8.wrap ((IntKind.u64.wrap (IntKind.u64.wrap sz*(8:Int))).fdiv ((2:Int)^min (IntKind.i64.wrap ((56:Int)-IntKind.i64.wrap ((8:Int)*(↑k:Int)))).toNat IntKind.u64.bits)))=tlk sz k_1)/\(8:Nat)-(IntKind.i64.wrap ((↑k:Int)+(1:Int))).toNat<(8:Nat)-(↑k:Int).toNat))/\(decide ((↑k:Int)<(8:Int))=false->(smA st rest sz (↑(nn sz):Int) ((↑k:Int),l)).triv (l=tlk sz (8:Nat))))) (by kernel_rfl) ?_
  refine⟨fun h=>?_,fun h=>tvi ?_⟩
  ·have h4:k<8:=by have:=of_decide_eq_true h;omega
   have e1:IntKind.i64.wrap (IntKind.i64.wrap ((1:Int)+(nn sz:Int))+(k:Int))=((1+nn sz+k:Nat):Int):=by
    rw[wrap_i64' (a:=1+(nn sz:Int)) (by omega) (by omega),wrap_i64' (by omega) (by omega)];omega
   have e2:IntKind.i64.wrap (56-IntKind.i64.wrap (8*(k:Int)))=((56-8*k:Nat):Int):=by
    rw[wrap_i64' (a:=8*(k:Int)) (by omega) (by omega),wrap_i64' (by omega) (by omega)];omega
   rw[e1,e2,wrap_succ (by omega),hw64,hw8]
   simp only[Int.toNat_natCast]
   refine⟨by omega,⟨by omega,by omega⟩,by omega,tvi ⟨⟨k+1,h4,rfl,?_⟩,by omega⟩⟩
   have ev:IntKind.u8.wrap ((sz*8).fdiv (2^min (56-8*k) IntKind.u64.bits))=szB sz k:=by
    have hm:min (56-8*k) IntKind.u64.bits=56-8*k:=Nat.min_eq_left (show 56-8*k<=64 by omega)
    rw[wrap_u8,hm,Int.fdiv_eq_ediv_of_nonneg _ (Int.le_of_lt (Int.pow_pos (by decide)))];rfl
   rw[ev,kl,tlk,tlk,show 71-nn sz-k=(71-nn sz-(k+1))+1 by omega]
   have:=set_fill (szB sz) (128::List.replicate (nn sz) 0) k (71-nn sz-(k+1))
   rw[show (128::List.replicate (nn sz) (0:Int)).length=1+nn sz by simp;omega] at this
   exact this
  ·have:k=8:=by have:=of_decide_eq_false h;omega
   rw[kl,this]
 rintro⟨i1,l1⟩ hl1
 revert i1 l1
 intro (i1:Int) (l1:List Int) (hl1:l1=tlk sz 8)
 subst hl1
 refine tr_cutF hsp mixed 3 (fun σ=>rdB hashK 153 σ) (fun y=>smB st rest sz y (0,List.replicate 32 0)) (fun y=>y=wro st rest sz (padB sz.toNat)) ?_ ?_
 ·refine vcx (X:=(((0:Int)<=IntKind.i64.wrap (IntKind.i64.wrap ((1:Int)+(↑(nn sz):Int))+(8:Int))/\IntKind.i64.wrap (IntKind.i64.wrap ((1:Int)+(↑(nn sz):Int))+(8:Int))<=(↑(72:Nat):Int))/\(∀ (g:Nat) (s:Sigma Car),shaG g=some s->Decidable.rec (fun h=>(fun x=>if g=(1:Nat) then some ⟨Kd.arr (64:Nat) uK,rootsL⟩ else none) h) (fun h=>(fun x=>some ⟨Kd.arr (8:Nat) uK,firstL⟩) h) (instDecidableEqNat g (0:Nat))=some s)/\(0:Nat)+(IntKind.i64.wrap (IntKind.i64.wrap ((1:Int)+(↑(nn sz):Int))+(8:Int))-(0:Int)).toNat<=(72:Nat)/\preWr ((st,rest,sz),List.take (IntKind.i64.wrap (IntKind.i64.wrap ((1:Int)+(↑(nn sz):Int))+(8:Int))-(0:Int)).toNat (tlk sz (8:Nat)),())/\(smB st rest sz (wro st rest sz (List.take (IntKind.i64.wrap (IntKind.i64.wrap ((1:Int)+(↑(nn sz):Int))+(8:Int))-(0:Int)).toNat (tlk sz (8:Nat)))) ((0:Int),List.replicate (32:Nat) (0:Int))).triv (wro st rest sz (List.take (IntKind.i64.wrap (IntKind.i64.wrap ((1:Int)+(↑(nn sz):Int))+(8:Int))-(0:Int)).toNat (tlk sz (8:Nat)))=wro st rest sz (padB sz.toNat)))) (by kernel_rfl) ?_
  have e1:IntKind.i64.wrap (IntKind.i64.wrap ((1:Int)+(nn sz:Int))+8)=((1+nn sz+8:Nat):Int):=by
   rw[wrap_i64' (a:=1+(nn sz:Int)) (by omega) (by omega),wrap_i64' (by omega) (by omega)];omega
  have e2:(((1+nn sz+8:Nat):Int)-0).toNat=1+nn sz+8:=by omega
  rw[e1,e2,tlk_pad sz hs0]
  refine⟨⟨by omega,by omega⟩,fun _ _ h=>h,by omega,⟨hs0,hs1,?_⟩,tvi rfl⟩
  show (padB sz.toNat).length<=_
  rw[<- tlk_pad sz hs0,List.length_take];omega
 rintro⟨y1,y2,y3⟩ hy
 revert y1 y2 y3
 intro (y1:List Int) (y2:List Int) (y3:Int) (hy:(y1,y2,y3)=wro st rest sz (padB sz.toNat))
 rw[hy]
 refine tr_while hsp mixed noSw (fun σ=>(rdS (.int .i64) 48 σ,rdR bK 9 σ)) (smB st rest sz (wro st rest sz (padB sz.toNat))) (fun g=>∃ k:Nat,k<=32/\g.1=(k:Int)/\g.2=oK (wro st rest sz (padB sz.toNat)).1 k) (fun g=>32-g.1.toNat)
  (fun σ=>(rdS (.int .i64) 48 σ,rdR bK 9 σ)) (smB st rest sz (wro st rest sz (padB sz.toNat))) (fun g=>g.2=oK (wro st rest sz (padB sz.toNat)).1 32) (0,List.replicate 32 0) (c:=nthC (codeOf Tryz.f53) 12) (by kernel_rfl) (by kernel_rfl) (le_of_proj (by kernel_rfl) (by kernel_rfl) ?_) ?_ ?_
 ·exact⟨0,by decide,rfl,rfl⟩
 ·rintro⟨i,l⟩ hj
  revert i l
  intro (i:Int) (l:List Int) ⟨k,hk,ei,el⟩
  have ei:i=(k:Int):=ei
  have kl:l=oK (wro st rest sz (padB sz.toNat)).1 k:=el
  subst ei
  refine vcx (X:=((decide ((↑k:Int)<(32:Int))=true->((4:Int)=(0:Int)->False)/\((0:Int)<=IntKind.i64.wrap ((↑k:Int).tdiv (4:Int))/\IntKind.i64.wrap ((↑k:Int).tdiv (4:Int))<(↑(8:Nat):Int))/\(IntKind.i64.wrap ((↑k:Int).tdiv (4:Int))).toNat<(8:Nat)/\((4:Int)=(0:Int)->False)/\(0:Int)<=IntKind.i64.wrap ((24:Int)-IntKind.i64.wrap ((8:Int)*(↑k:Int).tmod (4:Int)))/\((0:Int)<=(↑k:Int)/\(↑k:Int)<(↑(32:Nat):Int))/\(↑k:Int).toNat<(32:Nat)/\(smB st rest sz (wro st rest sz (padB sz.toNat)) (IntKind.i64.wrap ((↑k:Int)+(1:Int)),l.set (↑k:Int).toNat (IntKind.u8.wrap (((wro st rest sz (padB sz.toNat)).fst.getD (IntKind.i64.wrap ((↑k:Int).tdiv (4:Int))).toNat (0:Int)).fdiv ((2:Int)^min (IntKind.i64.wrap ((24:Int)-IntKind.i64.wrap ((8:Int)*(↑k:Int).tmod (4:Int)))).toNat IntKind.u32.bits))))).triv ((∃ k_1,k_1<=(32:Nat)/\IntKind.i64.wrap ((↑k:Int)+(1:Int))=(↑k_1:Int)/\l.set (↑k:Int).toNat (IntKind.u8.wrap (((wro st rest sz (padB sz.toNat)).fst.getD (IntKind.i64.wrap ((↑k:Int).tdiv (4:Int))).toNat (0:Int)).fdiv ((2:Int)^min (IntKind.i64.wrap ((24:Int)-IntKind.i64.wrap ((8:Int)*(↑k:Int).tmod (4:Int)))).toNat IntKind.u32.bits)))=oK (wro st rest sz (padB sz.toNat)).fst k_1)/\(32:Nat)-(IntKind.i64.wrap ((↑k:Int)+(1:Int))).toNat<(32:Nat)-(↑k:Int).toNat))/\(decide ((↑k:Int)<(32:Int))=false->(smB st rest sz (wro st rest sz (padB sz.toNat)) ((↑k:Int),l)).triv (l=oK (wro st rest sz (padB sz.toNat)).fst (32:Nat))))) (by kernel_rfl) ?_
  refine⟨fun h=>?_,fun h=>tvi ?_⟩
  ·have h4:k<32:=by have:=of_decide_eq_true h;omega
   have e1:IntKind.i64.wrap ((k:Int).tdiv 4)=((k/4:Nat):Int):=by
    rw[Int.tdiv_eq_ediv_of_nonneg (by omega),wrap_i64' (by omega) (by omega)];omega
   have e2:IntKind.i64.wrap (24-IntKind.i64.wrap (8*(k:Int).tmod 4))=((24-8*(k%4):Nat):Int):=by
    rw[Int.tmod_eq_emod_of_nonneg (by omega),wrap_i64' (a:=8*((k:Int)%4)) (by omega) (by omega),wrap_i64' (by omega) (by omega)];omega
   rw[e1,e2,wrap_succ (by omega)]
   simp only[Int.toNat_natCast]
   refine⟨by decide,⟨by omega,by omega⟩,by omega,by decide,by omega,⟨by omega,by omega⟩,h4,tvi ⟨⟨k+1,h4,rfl,?_⟩,by omega⟩⟩
   have ev:IntKind.u8.wrap (((wro st rest sz (padB sz.toNat)).1.getD (k/4) 0).fdiv (2^min (24-8*(k%4)) IntKind.u32.bits))=outE (wro st rest sz (padB sz.toNat)).1 k:=by
    have hm:min (24-8*(k%4)) IntKind.u32.bits=24-8*(k%4):=Nat.min_eq_left (show 24-8*(k%4)<=32 by omega)
    rw[hm];rfl
   rw[ev,kl,oK,oK,show 32-k=(32-(k+1))+1 by omega]
   have:=set_fill (outE (wro st rest sz (padB sz.toNat)).1) [] k (32-(k+1))
   rw[show ([]:List Int).length+k=k by simp] at this
   exact this
  ·have:k=32:=by have:=of_decide_eq_false h;omega
   rw[kl,this]
 rintro⟨i2,l2⟩ hl2
 revert i2 l2
 intro (i2:Int) (l2:List Int) (hl2:l2=oK (wro st rest sz (padB sz.toNat)).1 32)
 refine tr_vc hsp mixed _ _ ?_
 refine vcx (X:=(((st,rest,sz),l2,())=((st,rest,sz),sumo st rest sz,()))) (by kernel_rfl) ?_
 rw[hl2,sumo,opq_eq]
 have e:oK (wro st rest sz (padB sz.toNat)).1 32=outB (wro st rest sz (padB sz.toNat)).1:=by
  show []++(_++[])=_
  rw[List.append_nil,List.nil_append];rfl
 rw[e]
def spSum:Nat × Eng.Spec:=(53,fnSpecPG shaG hashK [] [.val (.arr 32 bK)] (fun ((_,_,sz),_)=>(0:Int)<=sz/\sz<=(1152921504606846976:Int)) (fun ((st,rest,sz),_)=>((st,rest,sz),(sumo st rest sz,()))))
theorem ent_of:enters Tryz.prog 25 Tryz.f25:=ek
def ofS (ps:List (List Int)) (g:Int × Car hashK):St:=mkSt Tryz.f25.ntmps 40 [(2,.is (.one (.ptr 0 0))),(3,.is (.one (.ptr 8 0))),(6,.is (.one (.ro (.sl bK) ps))),(7,sI .i64 ps.length),(8,sI .i64 g.1)] [(8,[.ints .u32 8 g.2.1,.ints .u8 64 g.2.2.1,.v (.int .i64 g.2.2.2)]),(0,[.ints .u8 32 (List.replicate 32 0)])]
abbrev preOf:HL [.sl (.sl bK)]->Prop:=fun (ps,_)=>List.length (List.flatten ps)<=1099511627776/\List.length ps<=1099511627776
theorem fn_of:FnOk Tryz.prog 25 [.sl (.sl bK)] [.val (.arr 32 bK)] shaG preOf (fun (ps,_)=>(dig (List.flatten ps),())):=by
 have hsp:SpecsOk Tryz.prog (sps [spWrite,spSum]):=spk (fnSpecPG_ok fn_write) (spk (fnSpecPG_ok fn_sum) snl)
 refine fn_of_tr (sp:=sps [spWrite,spSum]) ent_of (by decide) (by decide) (by kernel_rfl) ?_
 rintro w M0 ⟨ps,⟨⟩⟩
 revert ps
 intro (ps:List (List Int)) _ hp
 have hl:(List.flatten ps).length<=1099511627776:=hp.1
 have hn:ps.length<=1099511627776:=hp.2
 show Tr _ _ _ _ _ _ _
 refine tr_cut hsp mixed 3 (ofS ps (0,(List.replicate 8 0,List.replicate 64 0,0))) True ?_ (fun _=>?_)
 ·refine vcx (X:=((ofS ps ((0:Int),List.replicate (8:Nat) (0:Car uK),List.replicate (64:Nat) (0:Car bK),(0:Car (Kd.int IntKind.i64)))).triv True)) (by kernel_rfl) ?_
  exact tvi trivial
 refine tr_while hsp mixed noSw (fun σ=>(rdS (.int .i64) 8 σ,rdB hashK 8 σ)) (ofS ps) (fun g=>∃ k:Nat,k<=ps.length/\g.1=(k:Int)/\Took tko firstL (List.flatten (ps.take k)) g.2.1 g.2.2.1 g.2.2.2) (fun g=>ps.length-g.1.toNat)
  (fun σ=>(rdS (.int .i64) 8 σ,rdB hashK 8 σ)) (ofS ps) (fun g=>Took tko firstL (List.flatten ps) g.2.1 g.2.2.1 g.2.2.2) (0,(List.replicate 8 0,List.replicate 64 0,0)) (c:=nthC (codeOf Tryz.f25) 3) (by kernel_rfl) (by kernel_rfl) (le_of_proj (by kernel_rfl) (by kernel_rfl) ?_) ?_ ?_
 ·exact⟨0,Nat.zero_le _,rfl,took_nil tko firstL _ _ List.length_replicate⟩
 ·rintro⟨i,st,rest,sz⟩ hj
  revert i st rest sz
  intro (i:Int) (st:List Int) (rest:List Int) (sz:Int) ⟨k,hk,ei,tk⟩
  have ei:i=(k:Int):=ei
  have tk:Took tko firstL (List.flatten (ps.take k)) st rest sz:=tk
  subst ei
  refine vcx (X:=((decide ((↑k:Int)<(↑ps.length:Int))=true->((0:Int)<=(↑k:Int)/\(↑k:Int)<(↑ps.length:Int))/\(↑k:Int).toNat<ps.length/\(∀ (g:Nat) (s:Sigma Car),shaG g=some s->Decidable.rec (fun h=>(fun x=>if g=(1:Nat) then some ⟨Kd.arr (64:Nat) uK,rootsL⟩ else none) h) (fun h=>(fun x=>some ⟨Kd.arr (8:Nat) uK,firstL⟩) h) (instDecidableEqNat g (0:Nat))=some s)/\preWr ((st,rest,sz),ps.getD (↑k:Int).toNat [],())/\(ofS ps (IntKind.i64.wrap ((↑k:Int)+(1:Int)),wro st rest sz (ps.getD (↑k:Int).toNat []))).triv ((∃ k_1,k_1<=ps.length/\IntKind.i64.wrap ((↑k:Int)+(1:Int))=(↑k_1:Int)/\Took tko firstL (List.take k_1 ps).flatten (wro st rest sz (ps.getD (↑k:Int).toNat [])).fst (wro st rest sz (ps.getD (↑k:Int).toNat [])).snd.fst (wro st rest sz (ps.getD (↑k:Int).toNat [])).snd.snd)/\ps.length-(IntKind.i64.wrap ((↑k:Int)+(1:Int))).toNat<ps.length-(↑k:Int).toNat))/\(decide ((↑k:Int)<(↑ps.length:Int))=false->(ofS ps ((↑k:Int),st,rest,sz)).triv (Took tko firstL ps.flatten st rest sz)))) (by kernel_rfl) ?_
  refine⟨fun h=>?_,fun h=>tvi ?_⟩
  ·have h4:k<ps.length:=by have:=of_decide_eq_true h;omega
   have hx:ps.getD k []=ps[k]:=by simp[List.getElem?_eq_getElem h4]
   have hf:(ps.take (k+1)).flatten=(ps.take k).flatten++ps.getD k []:=by
    rw[List.take_succ_eq_append_getElem h4,List.flatten_append,hx];simp
   have hlen:(ps.take (k+1)).flatten.length<=ps.flatten.length:=by
    have:ps.flatten=(ps.take (k+1)).flatten++(ps.drop (k+1)).flatten:=by rw[<- List.flatten_append,List.take_append_drop]
    rw[this,List.length_append];omega
   have hsz:sz=(((ps.take k).flatten.length:Nat):Int):=tk.1
   have hl2:(ps.take k).flatten.length+(ps.getD k []).length<=1099511627776:=by
    rw[hf,List.length_append] at hlen;omega
   rw[wrap_succ (by omega)]
   simp only[Int.toNat_natCast]
   have a1:(0:Int)<=sz:=by rw[hsz];omega
   have a2:sz<=(1152921504606846976:Int):=by rw[hsz];omega
   refine⟨⟨by omega,by omega⟩,h4,fun _ _ h=>h,⟨a1,a2,?_⟩,tvi ⟨⟨k+1,h4,rfl,?_⟩,by omega⟩⟩
   ·show (ps.getD k []).length<=_
    omega
   ·rw[hf];exact took_wro tk _
  ·have:k=ps.length:=by have:=of_decide_eq_false h;omega
   rw[this,List.take_length] at tk
   exact tk
 rintro⟨i,st,rest,sz⟩ hj
 revert i st rest sz
 intro (i:Int) (st:List Int) (rest:List Int) (sz:Int) (tk:Took tko firstL (List.flatten ps) st rest sz)
 refine tr_vc hsp mixed _ _ ?_
 refine vcx (X:=((∀ (g:Nat) (s:Sigma Car),shaG g=some s->Decidable.rec (fun h=>(fun x=>if g=(1:Nat) then some ⟨Kd.arr (64:Nat) uK,rootsL⟩ else none) h) (fun h=>(fun x=>some ⟨Kd.arr (8:Nat) uK,firstL⟩) h) (instDecidableEqNat g (0:Nat))=some s)/\((0:Int)<=sz/\sz<=(1152921504606846976:Int))/\(sumo st rest sz,())=(dig ps.flatten,()))) (by kernel_rfl) ?_
 have hsz:sz=((ps.flatten.length:Nat):Int):=tk.1
 have a1:(0:Int)<=sz:=by rw[hsz];omega
 have a2:sz<=(1152921504606846976:Int):=by rw[hsz];omega
 exact⟨fun _ _ h=>h,⟨a1,a2⟩,by rw[took_sum tk]⟩
def spOf:Nat × Eng.Spec:=(25,fnSpecG shaG [.sl (.sl bK)] [.val (.arr 32 bK)] preOf (fun (ps,_)=>(dig (List.flatten ps),())))
end
end Go.Proofs.YteldhmehjkhanaaGreatDoor.sha
