import Derived.Test.YteldhmehjkhanaaGreatDoorML26qPT
set_option maxRecDepth 100000
namespace Go.Eng
open Go Go.RowKit Cr
theorem FnOk.frz2 {P:Program} {f:FuncId} {ins:List Kd} {e κ:Kd} {G:Glob} {pre:HL ins->Prop} {F:HL ins->HO [.own e,.val κ]} (h:FnOk P f ins [.own e,.val κ] G pre F):FnOk P f ins [.val (.sl e),.val κ] G pre F:=by
 intro w M us xs hM hG hin hp
 refine (h w M us xs hM hG hin hp).mono ?_
 rintro v w' ⟨vs,ob,hv,⟨v0,vs',e1,ho,⟨v1,vs'',e2,h1,e3⟩⟩,hb⟩
 refine⟨vs,none,hv,⟨v0,vs',e1,?_,⟨v1,vs'',e2,valRd_mono (fun _ h=>Rd_mono outM_frz h) h1,e3⟩⟩,hb⟩
 show Rd (outM w.heap.size M none w') (.sl e) _ [v0]
 rcases ho with ⟨hx,rfl⟩|⟨b,o,cap,n,l,hob,hN,rfl,hc,ho,hsz,hblk,hrd⟩
 ·exact .inl ⟨hx,none,0,rfl,fun _=>rfl⟩
 ·rcases ho with rfl|rfl
  ·have hl:=RdL_len (fun _ _=>Rd_len) hrd
   obtain⟨rest,el,fr,hh,_⟩:=hblk
   refine .inr ⟨b,0,cap,rfl,hc,l++rest,fun hn=>?_,by rw[List.length_append,hl];omega,?_⟩
   ·unfold outM
    rw[if_neg (by simp),if_pos hN]
    exact memOf_blk hh hn
   ·rw[List.drop_zero,<- hl,List.take_left']
    ·exact RdL_mono (fun _ _ h=>Rd_mono outM_frz h) hrd
    ·rfl
  ·exact .inl ⟨List.eq_nil_of_length_eq_zero (by omega),some ⟨b,o,none⟩,0,by rw[show (F xs).1.length=0 by omega],fun h=>by cases h⟩
end Go.Eng
