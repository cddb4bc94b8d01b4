import Derived.Test.YteldhmehjkhanaaGreatDoorML26qPAA
set_option maxRecDepth 100000
namespace Go.Proofs.YteldhmehjkhanaaGreatDoor.xmd
noncomputable section
open Go Go.Eng Go.RowKit Cr sha
theorem ent_split:enters Tryz.prog 158 Tryz.f158:=ek
def sB (d:List Int) (i j:Nat) (w:List Int):List Int:=w.set i (bitOp .or .u32 (IntKind.u32.wrap (w.getD i 0*2^min (8:Nat) IntKind.u32.bits)) (IntKind.u32.wrap (d.getD (4*i+j) 0)))
def sBk (d:List Int) (i:Nat) (w:List Int) (j:Nat):List Int:=it (fun j w=>sB d i j w) w j
def sAk (d:List Int) (i:Nat):List Int:=it (fun i w=>sBk d i w 4) (List.replicate 8 0) i
def spl (d:List Int):List Int:=opq (sAk d 8)
def spA (d:List Int) (g:Int × List Int):St:=mkSt Tryz.f158.ntmps 32 [(1,.is (.one (.ptr 0 0))),(2,.is (.one (.ptr 8 0))),(3,.is (.one (.ptr 16 0))),(6,sI .i64 g.1)] [(16,[.ints .u32 8 g.2]),(8,[.ints .u32 8 (List.replicate 8 0)]),(0,[.ints .u8 32 d])]
def spB (d:List Int) (i:Nat) (g:Int × List Int):St:=mkSt Tryz.f158.ntmps 32 [(1,.is (.one (.ptr 0 0))),(2,.is (.one (.ptr 8 0))),(3,.is (.one (.ptr 16 0))),(4,sI .i64 i),(6,sI .i64 i),(9,sI .i64 g.1)] [(16,[.ints .u32 8 g.2]),(8,[.ints .u32 8 (List.replicate 8 0)]),(0,[.ints .u8 32 d])]
theorem fn_split:FnOk Tryz.prog 158 [.arr 32 bK] [.val (.arr 8 uK)] noG (fun _=>True) (fun (d,_)=>(spl d,())):=by
 have hsp:SpecsOk Tryz.prog (sps []):=snl
 refine fn_of_tr (sp:=sps []) ent_split (by decide) (by decide) (by kernel_rfl) ?_
 rintro w M0 ⟨d,⟨⟩⟩
 revert d
 intro (d:List Int) hw _
 have hd:d.length=32:=hw.1.1
 show Tr _ _ _ _ _ _ _
 refine tr_cut hsp mixed 3 (spA d (0,List.replicate 8 0)) True ?_ (fun _=>?_)
 ·refine vcx (X:=((spA d ((0:Int),List.replicate (8:Nat) (0:Int))).triv True)) (by kernel_rfl) ?_
  exact tvi trivial
 refine tr_whileT noSw (fun σ=>(rdS (.int .i64) 6 σ,rdR uK 16 σ)) (spA d) (fun g=>∃ k:Nat,k<=8/\g.1=(k:Int)/\g.2=sAk d k) (fun g=>8-g.1.toNat)
  (fun σ=>(rdS (.int .i64) 6 σ,rdR uK 16 σ)) (spA d) (fun g=>g.2=sAk d 8) (0,List.replicate 8 0) (c:=nthC (codeOf Tryz.f158) 3) (by kernel_rfl) (by kernel_rfl) (le_of_proj (by kernel_rfl) (by kernel_rfl) ?_) ?_ ?_
 ·exact⟨0,by decide,rfl,rfl⟩
 ·rintro⟨i,wl⟩ hj
  revert i wl
  intro (i:Int) (wl:List Int) ⟨k,hk,ei,ew⟩
  have ei:i=(k:Int):=ei
  have kw:wl=sAk d k:=ew
  subst ei
  refine tr_cut hsp mixed 2 (spA d ((k:Int),wl)) (k<8) ?_ (fun hlt=>?_)
  ·refine vcx (X:=((decide ((↑k:Int)<(8:Int))=true->(spA d ((↑k:Int),wl)).triv (k<(8:Nat)))/\(decide ((↑k:Int)<(8:Int))=false->(spA d ((↑k:Int),wl)).triv (wl=sAk d (8:Nat))))) (by kernel_rfl) ?_
   refine⟨fun h=>tvi (by have:=of_decide_eq_true h;omega),fun h=>tvi ?_⟩
   have:k=8:=by have:=of_decide_eq_false h;omega
   rw[kw,this]
  refine tr_block (c:=nthC (loopOf (nthC (codeOf Tryz.f158) 3)) 2) (by kernel_rfl) (by kernel_rfl) ?_
  refine tr_cut hsp mixed 2 (spB d k (0,wl)) True ?_ (fun _=>?_)
  ·refine vcx (X:=((spB d k ((0:Int),wl)).triv True)) (by kernel_rfl) ?_
   exact tvi trivial
  refine tr_while hsp mixed noSw (fun σ=>(rdS (.int .i64) 9 σ,rdR uK 16 σ)) (spB d k) (fun g=>∃ j:Nat,j<=4/\g.1=(j:Int)/\g.2=sBk d k wl j) (fun g=>4-g.1.toNat)
   (fun σ=>rdR uK 16 σ) (fun w=>spA d ((k:Int),w)) (fun w=>w=sBk d k wl 4) (0,wl) (c:=nthC (bodyOf (nthC (loopOf (nthC (codeOf Tryz.f158) 3)) 2)) 2) (by kernel_rfl) (by kernel_rfl) (le_of_proj (by kernel_rfl) (by kernel_rfl) ?_) ?_ ?_
  ·exact⟨0,by decide,rfl,rfl⟩
  ·rintro⟨j,wj⟩ hj
   revert j wj
   intro (j:Int) (wj:List Int) ⟨t,ht,ej,ewj⟩
   have ej:j=(t:Int):=ej
   have kwj:wj=sBk d k wl t:=ewj
   subst ej
   refine vcx (X:=((decide ((↑t:Int)<(4:Int))=true->((0:Int)<=(↑k:Int)/\(↑k:Int)<(↑(8:Nat):Int))/\(↑k:Int).toNat<(8:Nat)/\(0:Int)<=(8:Int)/\((0:Int)<=IntKind.i64.wrap (IntKind.i64.wrap ((4:Int)*(↑k:Int))+(↑t:Int))/\IntKind.i64.wrap (IntKind.i64.wrap ((4:Int)*(↑k:Int))+(↑t:Int))<(↑(32:Nat):Int))/\(IntKind.i64.wrap (IntKind.i64.wrap ((4:Int)*(↑k:Int))+(↑t:Int))).toNat<(32:Nat)/\((0:Int)<=(↑k:Int)/\(↑k:Int)<(↑(8:Nat):Int))/\(↑k:Int).toNat<(8:Nat)/\(spB d k (IntKind.i64.wrap ((↑t:Int)+(1:Int)),wj.set (↑k:Int).toNat (bitOp BinOp.or IntKind.u32 (IntKind.u32.wrap (wj.getD (↑k:Int).toNat (0:Int)*(2:Int)^min (8:Nat) IntKind.u32.bits)) (IntKind.u32.wrap (d.getD (IntKind.i64.wrap (IntKind.i64.wrap ((4:Int)*(↑k:Int))+(↑t:Int))).toNat (0:Int)))))).triv ((∃ j,j<=(4:Nat)/\IntKind.i64.wrap ((↑t:Int)+(1:Int))=(↑j:Int)/\wj.set (↑k:Int).toNat (bitOp BinOp.or IntKind.u32 (IntKind.u32.wrap (wj.getD (↑k:Int).toNat (0:Int)*(2:Int)^min (8:Nat) IntKind.u32.bits)) (IntKind.u32.wrap (d.getD (IntKind.i64.wrap (IntKind.i64.wrap ((4:Int)*(↑k:Int))+(↑t:Int))).toNat (0:Int))))=sBk d k wl j)/\(4:Nat)-(IntKind.i64.wrap ((↑t:Int)+(1:Int))).toNat<(4:Nat)-(↑t:Int).toNat))/\(decide ((↑t:Int)<(4:Int))=false->(spA d ((↑k:Int),wj)).triv (wj=sBk d k wl (4:Nat))))) (by kernel_rfl) ?_
   refine⟨fun h=>?_,fun h=>tvi ?_⟩
   ·have h4:t<4:=by have:=of_decide_eq_true h;omega
    have e1:IntKind.i64.wrap (IntKind.i64.wrap ((4:Int)*(k:Int))+(t:Int))=((4*k+t:Nat):Int):=by
     rw[wrap_i64' (a:=4*(k:Int)) (by omega) (by omega),wrap_i64' (by omega) (by omega)];omega
    rw[e1,wrap_succ (by omega),Int.toNat_natCast,Int.toNat_natCast]
    exact⟨⟨by omega,by omega⟩,by omega,by decide,⟨by omega,by omega⟩,by omega,⟨by omega,by omega⟩,by omega,tvi ⟨⟨t+1,h4,rfl,by rw[kwj];rfl⟩,by rw[Int.toNat_natCast,Int.toNat_natCast];omega⟩⟩
   ·have:t=4:=by have:=of_decide_eq_false h;omega
    rw[kwj,this]
  intro (w':List Int) (hw':w'=sBk d k wl 4)
  refine tr_nil ?_
  refine tr_vc hsp mixed _ _ ?_
  refine vcx (X:=((spA d (IntKind.i64.wrap ((↑k:Int)+(1:Int)),w')).triv ((∃ k_1,k_1<=(8:Nat)/\IntKind.i64.wrap ((↑k:Int)+(1:Int))=(↑k_1:Int)/\w'=sAk d k_1)/\(8:Nat)-(IntKind.i64.wrap ((↑k:Int)+(1:Int))).toNat<(8:Nat)-(↑k:Int).toNat))) (by kernel_rfl) ?_
  rw[wrap_succ (by omega)]
  exact tvi ⟨⟨k+1,hlt,rfl,by rw[hw',kw];rfl⟩,by rw[Int.toNat_natCast,Int.toNat_natCast];omega⟩
 rintro⟨i1,w1⟩ hw1
 revert i1 w1
 intro (i1:Int) (w1:List Int) (hw1:w1=sAk d 8)
 refine tr_vc hsp mixed _ _ ?_
 refine vcx (X:=((w1,())=(spl d,()))) (by kernel_rfl) ?_
 rw[hw1,spl,opq_eq]
def spSplit:Nat × Eng.Spec:=(158,fnSpec [.arr 32 bK] [.val (.arr 8 uK)] (fun _=>True) (fun (d,_)=>(spl d,())))
theorem ent_over:enters Tryz.prog 159 Tryz.f159:=ek
def oA (b:List Int) (i:Nat) (a:List Int):List Int:=a.set i (bitOp .xor .u32 (a.getD i 0) (b.getD i 0))
def oAk (a b:List Int) (i:Nat):List Int:=it (oA b) a i
def ovr (a b:List Int):List Int:=opq (oAk a b 8)
def ovS (b:List Int) (g:Int × List Int):St:=mkSt Tryz.f159.ntmps 40 [(2,.is (.one (.ptr 0 0))),(4,.is (.one (.ptr 16 0))),(7,sA .u32 8 b),(8,sI .i64 g.1)] [(16,[.ints .u32 8 (List.replicate 8 0)]),(0,[.ints .u32 8 g.2])]
theorem fn_over:FnOk Tryz.prog 159 [.arr 8 uK,.arr 8 uK] [.val (.arr 8 uK)] noG (fun _=>True) (fun (a,b,_)=>(ovr a b,())):=by
 have hsp:SpecsOk Tryz.prog (sps []):=snl
 refine fn_of_tr (sp:=sps []) ent_over (by decide) (by decide) (by kernel_rfl) ?_
 rintro w M0 ⟨a,b,⟨⟩⟩
 revert a b
 intro (a:List Int) (b:List Int) hw _
 have ha:a.length=8:=hw.1.1
 show Tr _ _ _ _ _ _ _
 refine tr_cut hsp mixed 2 (ovS b (0,a)) True ?_ (fun _=>?_)
 ·refine vcx (X:=((ovS b ((0:Int),a)).triv True)) (by kernel_rfl) ?_
  exact tvi trivial
 refine tr_while hsp mixed noSw (fun σ=>(rdS (.int .i64) 8 σ,rdR uK 0 σ)) (ovS b) (fun g=>∃ k:Nat,k<=8/\g.1=(k:Int)/\g.2=oAk a b k) (fun g=>8-g.1.toNat)
  (fun σ=>(rdS (.int .i64) 8 σ,rdR uK 0 σ)) (ovS b) (fun g=>g.2=oAk a b 8) (0,a) (c:=nthC (codeOf Tryz.f159) 2) (by kernel_rfl) (by kernel_rfl) (le_of_proj (by kernel_rfl) (by kernel_rfl) ?_) ?_ ?_
 ·exact⟨0,by decide,rfl,rfl⟩
 ·rintro⟨i,l⟩ hj
  revert i l
  intro (i:Int) (l:List Int) ⟨k,hk,ei,el⟩
  have ei:i=(k:Int):=ei
  have kl:l=oAk a b k:=el
  subst ei
  refine vcx (X:=((decide ((↑k:Int)<(8:Int))=true->((0:Int)<=(↑k:Int)/\(↑k:Int)<(↑(8:Nat):Int))/\((0:Int)<=(↑k:Int)/\(↑k:Int)<(↑(8:Nat):Int))/\(↑k:Int).toNat<(8:Nat)/\((0:Int)<=(↑k:Int)/\(↑k:Int)<(↑(8:Nat):Int))/\(↑k:Int).toNat<(8:Nat)/\(ovS b (IntKind.i64.wrap ((↑k:Int)+(1:Int)),l.set (↑k:Int).toNat (bitOp BinOp.xor IntKind.u32 (l.getD (↑k:Int).toNat (0:Int)) (b.getD (↑k:Int).toNat (0:Int))))).triv ((∃ k_1,k_1<=(8:Nat)/\IntKind.i64.wrap ((↑k:Int)+(1:Int))=(↑k_1:Int)/\l.set (↑k:Int).toNat (bitOp BinOp.xor IntKind.u32 (l.getD (↑k:Int).toNat (0:Int)) (b.getD (↑k:Int).toNat (0:Int)))=oAk a b k_1)/\(8:Nat)-(IntKind.i64.wrap ((↑k:Int)+(1:Int))).toNat<(8:Nat)-(↑k:Int).toNat))/\(decide ((↑k:Int)<(8:Int))=false->(ovS b ((↑k:Int),l)).triv (l=oAk a b (8:Nat))))) (by kernel_rfl) ?_
  refine⟨fun h=>?_,fun h=>tvi ?_⟩
  ·have h4:k<8:=by have:=of_decide_eq_true h;omega
   rw[wrap_succ (by omega)]
   simp only[Int.toNat_natCast]
   exact⟨⟨by omega,by omega⟩,⟨by omega,by omega⟩,h4,⟨by omega,by omega⟩,h4,tvi ⟨⟨k+1,h4,rfl,by rw[kl];rfl⟩,by omega⟩⟩
  ·have:k=8:=by have:=of_decide_eq_false h;omega
   rw[kl,this]
 rintro⟨i1,w1⟩ hw1
 revert i1 w1
 intro (i1:Int) (w1:List Int) (hw1:w1=oAk a b 8)
 refine tr_vc hsp mixed _ _ ?_
 refine vcx (X:=((w1,())=(ovr a b,()))) (by kernel_rfl) ?_
 rw[hw1,ovr,opq_eq]
def spOver:Nat × Eng.Spec:=(159,fnSpec [.arr 8 uK,.arr 8 uK] [.val (.arr 8 uK)] (fun _=>True) (fun (a,b,_)=>(ovr a b,())))
theorem ent_bytes:enters Tryz.prog 160 Tryz.f160:=ek
def bB (w:List Int) (i j:Nat) (d:List Int):List Int:=d.set (4*i+j) (IntKind.u8.wrap ((w.getD i 0).fdiv (2^min (24-8*j) IntKind.u32.bits)))
def bBk (w:List Int) (i:Nat) (d:List Int) (j:Nat):List Int:=it (fun j d=>bB w i j d) d j
def bAk (w:List Int) (i:Nat):List Int:=it (fun i d=>bBk w i d 4) (List.replicate 32 0) i
def byt (w:List Int):List Int:=opq (bAk w 8)
theorem bBk_len (w:List Int) (i:Nat) (d:List Int):∀ j,(bBk w i d j).length=d.length
 | 0=>rfl
 | j+1=>by show (bB w i j _).length=_;rw[bB,List.length_set];exact bBk_len w i d j
theorem bAk_len (w:List Int):∀ i,(bAk w i).length=32
 | 0=>rfl
 | i+1=>by show (bBk w i _ 4).length=_;rw[bBk_len];exact bAk_len w i
theorem byt_len (w:List Int):(byt w).length=32:=by rw[byt,opq_eq,bAk_len]
def byA (wd:List Int) (g:Int × List Int):St:=mkSt Tryz.f160.ntmps 40 [(2,.is (.one (.ptr 8 0))),(3,.is (.one (.ptr 16 0))),(7,sA .u32 8 wd),(8,sI .i64 g.1)] [(16,[.ints .u8 32 g.2]),(8,[.ints .u8 32 (List.replicate 32 0)])]
def byB (wd:List Int) (i:Nat) (x:Int) (g:Int × List Int):St:=mkSt Tryz.f160.ntmps 40 [(2,.is (.one (.ptr 8 0))),(3,.is (.one (.ptr 16 0))),(4,sI .i64 i),(5,sI .u32 x),(7,sA .u32 8 wd),(8,sI .i64 i),(12,sI .i64 g.1)] [(16,[.ints .u8 32 g.2]),(8,[.ints .u8 32 (List.replicate 32 0)])]
theorem fn_bytes:FnOk Tryz.prog 160 [.arr 8 uK] [.val (.arr 32 bK)] noG (fun _=>True) (fun (w,_)=>(byt w,())):=by
 have hsp:SpecsOk Tryz.prog (sps []):=snl
 refine fn_of_tr (sp:=sps []) ent_bytes (by decide) (by decide) (by kernel_rfl) ?_
 rintro w M0 ⟨wd,⟨⟩⟩
 revert wd
 intro (wd:List Int) hw _
 have hd:wd.length=8:=hw.1.1
 show Tr _ _ _ _ _ _ _
 refine tr_cut hsp mixed 3 (byA wd (0,List.replicate 32 0)) True ?_ (fun _=>?_)
 ·refine vcx (X:=((byA wd ((0:Int),List.replicate (32:Nat) (0:Int))).triv True)) (by kernel_rfl) ?_
  exact tvi trivial
 refine tr_whileT noSw (fun σ=>(rdS (.int .i64) 8 σ,rdR bK 16 σ)) (byA wd) (fun g=>∃ k:Nat,k<=8/\g.1=(k:Int)/\g.2=bAk wd k) (fun g=>8-g.1.toNat)
  (fun σ=>(rdS (.int .i64) 8 σ,rdR bK 16 σ)) (byA wd) (fun g=>g.2=bAk wd 8) (0,List.replicate 32 0) (c:=nthC (codeOf Tryz.f160) 3) (by kernel_rfl) (by kernel_rfl) (le_of_proj (by kernel_rfl) (by kernel_rfl) ?_) ?_ ?_
 ·exact⟨0,by decide,rfl,rfl⟩
 ·rintro⟨i,wl⟩ hj
  revert i wl
  intro (i:Int) (wl:List Int) ⟨k,hk,ei,ew⟩
  have ei:i=(k:Int):=ei
  have kw:wl=bAk wd k:=ew
  subst ei
  refine tr_cut hsp mixed 2 (byA wd ((k:Int),wl)) (k<8) ?_ (fun hlt=>?_)
  ·refine vcx (X:=((decide ((↑k:Int)<(8:Int))=true->(byA wd ((↑k:Int),wl)).triv (k<(8:Nat)))/\(decide ((↑k:Int)<(8:Int))=false->(byA wd ((↑k:Int),wl)).triv (wl=bAk wd (8:Nat))))) (by kernel_rfl) ?_
   refine⟨fun h=>tvi (by have:=of_decide_eq_true h;omega),fun h=>tvi ?_⟩
   have:k=8:=by have:=of_decide_eq_false h;omega
   rw[kw,this]
  refine tr_block (c:=nthC (loopOf (nthC (codeOf Tryz.f160) 3)) 2) (by kernel_rfl) (by kernel_rfl) ?_
  refine tr_cutF hsp mixed 2 (fun σ=>rdS (.int .u32) 5 σ) (fun x=>byB wd k x (0,wl)) (fun x=>x=wd.getD k 0) ?_ ?_
  ·refine vcx (X:=(((0:Int)<=(↑k:Int)/\(↑k:Int)<(↑(8:Nat):Int))/\(byB wd k (wd.getD (↑k:Int).toNat (0:Int)) ((0:Int),wl)).triv (wd.getD (↑k:Int).toNat (0:Int)=wd.getD k (0:Int)))) (by kernel_rfl) ?_
   simp only[Int.toNat_natCast]
   exact⟨⟨by omega,by omega⟩,tvi (by first|exact trivial|rfl)⟩
  intro (x:Int) (hx:x=wd.getD k 0)
  refine tr_while hsp mixed noSw (fun σ=>(rdS (.int .i64) 12 σ,rdR bK 16 σ)) (byB wd k x) (fun g=>∃ j:Nat,j<=4/\g.1=(j:Int)/\g.2=bBk wd k wl j) (fun g=>4-g.1.toNat)
   (fun σ=>rdR bK 16 σ) (fun w=>byA wd ((k:Int),w)) (fun w=>w=bBk wd k wl 4) (0,wl) (c:=nthC (bodyOf (nthC (loopOf (nthC (codeOf Tryz.f160) 3)) 2)) 2) (by kernel_rfl) (by kernel_rfl) (le_of_proj (by kernel_rfl) (by kernel_rfl) ?_) ?_ ?_
  ·exact⟨0,by decide,rfl,rfl⟩
  ·rintro⟨j,wj⟩ hj
   revert j wj
   intro (j:Int) (wj:List Int) ⟨t,ht,ej,ewj⟩
   have ej:j=(t:Int):=ej
   have kwj:wj=bBk wd k wl t:=ewj
   subst ej
   refine vcx (X:=((decide ((↑t:Int)<(4:Int))=true->(0:Int)<=IntKind.i64.wrap ((24:Int)-IntKind.i64.wrap ((8:Int)*(↑t:Int)))/\((0:Int)<=IntKind.i64.wrap (IntKind.i64.wrap ((4:Int)*(↑k:Int))+(↑t:Int))/\IntKind.i64.wrap (IntKind.i64.wrap ((4:Int)*(↑k:Int))+(↑t:Int))<(↑(32:Nat):Int))/\(IntKind.i64.wrap (IntKind.i64.wrap ((4:Int)*(↑k:Int))+(↑t:Int))).toNat<(32:Nat)/\(byB wd k x (IntKind.i64.wrap ((↑t:Int)+(1:Int)),wj.set (IntKind.i64.wrap (IntKind.i64.wrap ((4:Int)*(↑k:Int))+(↑t:Int))).toNat (IntKind.u8.wrap (x.fdiv ((2:Int)^min (IntKind.i64.wrap ((24:Int)-IntKind.i64.wrap ((8:Int)*(↑t:Int)))).toNat IntKind.u32.bits))))).triv ((∃ j,j<=(4:Nat)/\IntKind.i64.wrap ((↑t:Int)+(1:Int))=(↑j:Int)/\wj.set (IntKind.i64.wrap (IntKind.i64.wrap ((4:Int)*(↑k:Int))+(↑t:Int))).toNat (IntKind.u8.wrap (x.fdiv ((2:Int)^min (IntKind.i64.wrap ((24:Int)-IntKind.i64.wrap ((8:Int)*(↑t:Int)))).toNat IntKind.u32.bits)))=bBk wd k wl j)/\(4:Nat)-(IntKind.i64.wrap ((↑t:Int)+(1:Int))).toNat<(4:Nat)-(↑t:Int).toNat))/\(decide ((↑t:Int)<(4:Int))=false->(byA wd ((↑k:Int),wj)).triv (wj=bBk wd k wl (4:Nat))))) (by kernel_rfl) ?_
   refine⟨fun h=>?_,fun h=>tvi ?_⟩
   ·have h4:t<4:=by have:=of_decide_eq_true h;omega
    have e1:IntKind.i64.wrap (IntKind.i64.wrap ((4:Int)*(k:Int))+(t:Int))=((4*k+t:Nat):Int):=by
     rw[wrap_i64' (a:=4*(k:Int)) (by omega) (by omega),wrap_i64' (by omega) (by omega)];omega
    have e2:IntKind.i64.wrap (24-IntKind.i64.wrap ((8:Int)*(t:Int)))=((24-8*t:Nat):Int):=by
     rw[wrap_i64' (a:=8*(t:Int)) (by omega) (by omega),wrap_i64' (by omega) (by omega)];omega
    rw[e1,e2,wrap_succ (by omega)]
    simp only[Int.toNat_natCast]
    exact⟨by omega,⟨by omega,by omega⟩,by omega,tvi ⟨⟨t+1,h4,rfl,by rw[kwj,hx];rfl⟩,by omega⟩⟩
   ·have:t=4:=by have:=of_decide_eq_false h;omega
    rw[kwj,this]
  intro (w':List Int) (hw':w'=bBk wd k wl 4)
  refine tr_nil ?_
  refine tr_vc hsp mixed _ _ ?_
  refine vcx (X:=((byA wd (IntKind.i64.wrap ((↑k:Int)+(1:Int)),w')).triv ((∃ k_1,k_1<=(8:Nat)/\IntKind.i64.wrap ((↑k:Int)+(1:Int))=(↑k_1:Int)/\w'=bAk wd k_1)/\(8:Nat)-(IntKind.i64.wrap ((↑k:Int)+(1:Int))).toNat<(8:Nat)-(↑k:Int).toNat))) (by kernel_rfl) ?_
  rw[wrap_succ (by omega)]
  exact tvi ⟨⟨k+1,hlt,rfl,by rw[hw',kw];rfl⟩,by rw[Int.toNat_natCast,Int.toNat_natCast];omega⟩
 rintro⟨i1,w1⟩ hw1
 revert i1 w1
 intro (i1:Int) (w1:List Int) (hw1:w1=bAk wd 8)
 refine tr_vc hsp mixed _ _ ?_
 refine vcx (X:=((w1,())=(byt wd,()))) (by kernel_rfl) ?_
 rw[hw1,byt,opq_eq]
def spBytes:Nat × Eng.Spec:=(160,fnSpec [.arr 8 uK] [.val (.arr 32 bK)] (fun _=>True) (fun (w,_)=>(byt w,())))
end
end Go.Proofs.YteldhmehjkhanaaGreatDoor.xmd
namespace Go.Proofs.YteldhmehjkhanaaGreatDoor.xmd
noncomputable section
open Go Go.Eng Go.RowKit Cr sha
abbrev bsl:Kd:=.sl bK
def overS:List Int:=[72,50,67,45,79,86,69,82,83,73,90,69,45,68,83,84,45]
def tagF (tag:List Int):List Int:=match decide (255<tag.length) with
 | true=>dig (overS++tag)
 | false=>tag
def endF (t:List Int):List Int:=[IntKind.u8.wrap t.length]
def fstF (msg t:List Int) (n:Int):List Int:=spl (dig (List.flatten [List.replicate 64 0,msg,[IntKind.u8.wrap (n.fdiv (2^min (8:Nat) IntKind.i64.bits)),IntKind.u8.wrap n,0],t,endF t]))
def nxD (f t:List Int) (i:Nat) (last:List Int):List Int:=dig (List.flatten [byt (ovr f last),[IntKind.u8.wrap ((i:Int)+1)],t,endF t])
def exK (f t:List Int) (i:Nat):List Int × List Int:=it (fun i s=>(s.1++nxD f t i s.2,spl (nxD f t i s.2))) ([],List.replicate 8 0) i
theorem exK_len (f t:List Int):∀ i,(exK f t i).1.length=32*i
 | 0=>rfl
 | i+1=>by show ((exK f t i).1++nxD f t i _).length=_;rw[List.length_append,exK_len f t i,nxD,dig_len];omega
def expF (msg tag:List Int) (n:Int):List Int:=(exK (fstF msg (tagF tag) n) (tagF tag) ((n.toNat+31)/32)).1.take n.toNat
def expo (msg tag:List Int) (n:Int):List Int:=opq (expF msg tag n)
theorem expo_len (msg tag:List Int) (n:Int):(expo msg tag n).length=n.toNat:=by
 rw[expo,opq_eq,expF,List.length_take,exK_len];omega
def exA (msg tag:List Int) (n:Int):List Int × Int:=match decide (n<0)||decide (n>8160) with
 | true=>([],1)
 | false=>(expo msg tag n,0)
def exS (m:List Int) (n:Int) (t:List Int):St:=mkSt Tryz.f125.ntmps 88 [(0,.is (.one (.ro bK m))),(1,.is (.one (.ro bK t))),(2,sI .i64 n)] []
def exS0 (m:List Int) (n:Int) (t:List Int):St:=mkSt Tryz.f125.ntmps 88 [(0,.is (.one (.ro bK m))),(1,.is (.one (.ro bK t))),(2,sI .i64 n),(24,.is (.one (.v (.bool (decide ((t.length:Int)>255))))))] []
theorem tr_eqL {E:Env} {N:Nat} {n r:St->Prop} {x:Nat->St->Prop} {l l':List Code} {σ:St} (h:l=l') (ht:Tr E N l' σ n r x):Tr E N l σ n r x:=h▸ht
def exS1 (m:List Int) (n:Int) (d:List Int):St:=mkSt Tryz.f125.ntmps 160 [(0,.is (.one (.ro bK m))),(1,.is (.one (.sl 128 0 0 32 1))),(2,sI .i64 n)] [(128,[.ints .u8 32 d])]
abbrev Xg:Type:=Int × Nat × Nat × List Int × List Int
def exI (n:Int) (t e f:List Int) (g:Xg):St:=mkSt Tryz.f125.ntmps 296 [(1,.is (.one (.ro bK t))),(2,sI .i64 n),(9,.is (.one (.sl 112 0 0 1 1))),(10,.is (.one (.ptr 232 0))),(11,.is (.one (.sl 264 0 0 g.2.1 1))),(12,.is (.one (.ptr 280 0))),(13,sI .i64 g.1)] [(280,[.ints .u32 8 g.2.2.2.2]),(264,[.ints .u8 g.2.2.1 g.2.2.2.1]),(232,[.ints .u32 8 f]),(112,[.ints .u8 1 e])]
def exJ (n:Int) (t f:List Int) (g:Xg):Prop:=∃ k:Nat,g.1=(k:Int)+1/\g.2.1=32*k/\g.2.1<=g.2.2.1/\g.2.2.2.1.take (32*k)=(exK f t k).1/\g.2.2.2.2=(exK f t k).2/\((32*k:Nat):Int)<n+32
theorem ent_expand:enters Tryz.prog 125 Tryz.f125:=ek
abbrev preEx:HL [bsl,bsl,.int .i64]->Prop:=fun (m,t,_)=>List.length m<=1048576/\List.length t<=1048576
theorem fn_expand:FnOk Tryz.prog 125 [bsl,bsl,.int .i64] [.own bK,.val (.int .i64)] shaG preEx (fun (m,t,n,_)=>((exA m t n).1,(exA m t n).2,())):=by
 have hsp:SpecsOk Tryz.prog (sps [spOf,spSplit,spOver,spBytes]):=spk (fgk fn_of) (spk (fok fn_split) (spk (fok fn_over) (spk (fok fn_bytes) snl)))
 refine fn_of_tr (sp:=sps [spOf,spSplit,spOver,spBytes]) ent_expand (by decide) (by decide) (by kernel_rfl) ?_
 rintro w M0 ⟨m,t,n,⟨⟩⟩
 revert m t n
 intro (m:List Int) (t:List Int) (n:Int) hw hp
 have hm:m.length<=1048576:=hp.1
 have ht:t.length<=1048576:=hp.2
 show Tr _ _ _ _ _ _ _
 have rest:∀ t':List Int,t'.length<=255->0<=n->n<=8160->tagF t=t'->Tr ⟨Tryz.prog,sps [spOf,spSplit,spOver,spBytes],⟨w,[],shaG,M0,fun p=>sizeAt w p.2,0⟩⟩ Tryz.f125.ntmps (List.drop 5 (codeOf Tryz.f125)) (exS m n t') (retK ⟨Tryz.prog,sps [spOf,spSplit,spOver,spBytes],⟨w,[],shaG,M0,fun p=>sizeAt w p.2,0⟩⟩ Tryz.f125 (post [.own bK,.val (.int .i64)] ((exA m t n).1,(exA m t n).2,()))) (retK ⟨Tryz.prog,sps [spOf,spSplit,spOver,spBytes],⟨w,[],shaG,M0,fun p=>sizeAt w p.2,0⟩⟩ Tryz.f125 (post [.own bK,.val (.int .i64)] ((exA m t n).1,(exA m t n).2,()))) (fun _ _=>False):=by
  intro t' ht' hn0 hn1 htag
  refine tr_cutF hsp mixed 5 (fun σ=>(rdR uK 232 σ,rdR bK 112 σ,rdR bK 264 σ)) (fun g=>exI n t' g.2.1 g.1 (1,0,(IntKind.i64.wrap (n+32)).toNat,g.2.2,List.replicate 8 0)) (fun g=>g.1=fstF m t' n/\g.2.1=endF t') ?_ ?_
  ·refine vcx (X:=(((0:Int)<=(64:Int)/\(64:Int)<=(64:Int)/\(↑(1:Nat):Int)*(64:Int)<=(281474976710656:Int)/\(64:Int)<=(9223372036854775807:Int))/\(0:Int)<=(8:Int)/\(∀ (g:Nat) (s:Sigma Car),shaG g=some s->Decidable.rec (fun h=>(fun x=>if g=(1:Nat) then some ⟨Kd.arr (64:Nat) uK,rootsL⟩ else none) h) (fun h=>(fun x=>some ⟨Kd.arr (8:Nat) uK,firstL⟩) h) (instDecidableEqNat g (0:Nat))=some s)/\0+64<=64/\0+3<=3/\0+1<=1/\preOf ([List.take 64 (List.replicate (64:Nat) (0:Int)),m,List.take 3 [IntKind.u8.wrap (n.fdiv ((2:Int)^min (8:Nat) IntKind.i64.bits)),IntKind.u8.wrap n,(0:Int)],t',List.take 1 [IntKind.u8.wrap (↑t'.length:Int)]],())/\True/\((0:Int)<=(0:Int)/\(0:Int)<=IntKind.i64.wrap (n+(32:Int))/\(↑(1:Nat):Int)*IntKind.i64.wrap (n+(32:Int))<=(281474976710656:Int)/\IntKind.i64.wrap (n+(32:Int))<=(9223372036854775807:Int))/\(exI n t' ((spl (dig [List.take 64 (List.replicate (64:Nat) (0:Int)),m,List.take 3 [IntKind.u8.wrap (n.fdiv ((2:Int)^min (8:Nat) IntKind.i64.bits)),IntKind.u8.wrap n,(0:Int)],t',List.take 1 [IntKind.u8.wrap (↑t'.length:Int)]].flatten,()).fst,()).fst,[IntKind.u8.wrap (↑t'.length:Int)],List.replicate (IntKind.i64.wrap (n+(32:Int))).toNat (0:Int)).snd.fst ((spl (dig [List.take 64 (List.replicate (64:Nat) (0:Int)),m,List.take 3 [IntKind.u8.wrap (n.fdiv ((2:Int)^min (8:Nat) IntKind.i64.bits)),IntKind.u8.wrap n,(0:Int)],t',List.take 1 [IntKind.u8.wrap (↑t'.length:Int)]].flatten,()).fst,()).fst,[IntKind.u8.wrap (↑t'.length:Int)],List.replicate (IntKind.i64.wrap (n+(32:Int))).toNat (0:Int)).fst ((1:Int),(0:Nat),(IntKind.i64.wrap (n+(32:Int))).toNat,((spl (dig [List.take 64 (List.replicate (64:Nat) (0:Int)),m,List.take 3 [IntKind.u8.wrap (n.fdiv ((2:Int)^min (8:Nat) IntKind.i64.bits)),IntKind.u8.wrap n,(0:Int)],t',List.take 1 [IntKind.u8.wrap (↑t'.length:Int)]].flatten,()).fst,()).fst,[IntKind.u8.wrap (↑t'.length:Int)],List.replicate (IntKind.i64.wrap (n+(32:Int))).toNat (0:Int)).snd.snd,List.replicate (8:Nat) (0:Int))).triv (spl (dig [List.take 64 (List.replicate (64:Nat) (0:Int)),m,List.take 3 [IntKind.u8.wrap (n.fdiv ((2:Int)^min (8:Nat) IntKind.i64.bits)),IntKind.u8.wrap n,(0:Int)],t',List.take 1 [IntKind.u8.wrap (↑t'.length:Int)]].flatten)=fstF m t' n/\[IntKind.u8.wrap (↑t'.length:Int)]=endF t'))) (by kernel_rfl) ?_
   have e1:IntKind.i64.wrap (n+32)=n+32:=wrap_i64' (by omega) (by omega)
   have e2:List.take 64 (List.replicate 64 (0:Int))=List.replicate 64 0:=by rw[List.take_of_length_le (by simp)]
   have e3:∀ a b c:Int,List.take 3 [a,b,c]=[a,b,c]:=fun _ _ _=>rfl
   have e4:∀ a:Int,List.take 1 [a]=[a]:=fun _=>rfl
   rw[e1,e2,e3,e4]
   refine⟨⟨by decide,by decide,by decide,by decide⟩,by decide,fun _ _ h=>h,by decide,by decide,by decide,⟨?_,by show 5<=_;decide⟩,trivial,⟨by decide,by omega,by omega,by omega⟩,tvi ⟨rfl,rfl⟩⟩
   show (List.flatten [List.replicate 64 (0:Int),m,[_,_,0],t',[_]]).length<=1099511627776
   simp only[List.flatten_cons,List.flatten_nil,List.length_append,List.length_replicate,List.length_cons,List.length_nil]
   omega
  rintro⟨f,e,x0⟩ ⟨hf,he⟩
  revert f e x0
  intro (f:List Int) (e:List Int) (x0:List Int) (hf:f=fstF m t' n) (he:e=endF t')
  refine tr_while hsp mixed (fun σ=>[(264,rdI 11 σ)]) (fun σ=>(rdS (.int .i64) 13 σ,rdL 11 σ,rdN 264 σ,rdR bK 264 σ,rdR uK 280 σ)) (exI n t' e f) (exJ n t' f) (fun g=>n.toNat-g.2.1)
   (fun σ=>(rdS (.int .i64) 13 σ,rdL 11 σ,rdN 264 σ,rdR bK 264 σ,rdR uK 280 σ)) (exI n t' e f) (fun g=>exJ n t' f g/\n<=(g.2.1:Int)) (1,0,(IntKind.i64.wrap (n+32)).toNat,x0,List.replicate 8 0) (c:=nthC (codeOf Tryz.f125) 10) (by kernel_rfl) (by kernel_rfl) (le_of_proj (by kernel_rfl) (by kernel_rfl) ?_) ?_ ?_
  ·refine⟨0,rfl,rfl,Nat.zero_le _,rfl,rfl,?_⟩
   show ((0:Nat):Int)<n+32
   omega
  ·rintro⟨i,L,N,xs,last⟩ hj
   revert i xs last
   intro (i:Int) (xs:List Int) (last:List Int) (hj:exJ n t' f (i,L,N,xs,last))
   obtain⟨k,ei,eL,hLN,hx,hl,hk⟩:=hj
   have ei:i=(k:Int)+1:=ei
   have eL:L=32*k:=eL
   have hLN:L<=N:=hLN
   have hx:xs.take (32*k)=(exK f t' k).1:=hx
   have hl:last=(exK f t' k).2:=hl
   have hbl:=byt_len (ovr f last)
   refine vcx (X:=((decide ((↑L:Int)<n)=true->True/\True/\(∀ (g:Nat) (s:Sigma Car),shaG g=some s->Decidable.rec (fun h=>(fun x=>if g=(1:Nat) then some ⟨Kd.arr (64:Nat) uK,rootsL⟩ else none) h) (fun h=>(fun x=>some ⟨Kd.arr (8:Nat) uK,firstL⟩) h) (instDecidableEqNat g (0:Nat))=some s)/\0+32<=32/\0+1<=1/\0+1<=1/\preOf ([List.take 32 (byt (ovr f last)),List.take 1 [IntKind.u8.wrap i],t',List.take 1 e],())/\0+32<=32/\L<=N/\(L+(32:Nat))*(1:Nat)<=(140737488355328:Nat)/\L+(32:Nat)<=(4611686018427387904:Nat)/\True/\(exI n t' e f (IntKind.i64.wrap (i+(1:Int)),L+(32:Nat),L+(32:Nat),List.take L xs++List.take 32 (dig [List.take 32 (byt (ovr f last,()).fst,()).fst,List.take 1 [IntKind.u8.wrap i],t',List.take 1 e].flatten,()).fst,(spl (dig [List.take 32 (byt (ovr f last,()).fst,()).fst,List.take 1 [IntKind.u8.wrap i],t',List.take 1 e].flatten,()).fst,()).fst)).triv (exJ n t' f (IntKind.i64.wrap (i+(1:Int)),L+(32:Nat),L+(32:Nat),List.take L xs++List.take 32 (dig [List.take 32 (byt (ovr f last)),List.take 1 [IntKind.u8.wrap i],t',List.take 1 e].flatten),spl (dig [List.take 32 (byt (ovr f last)),List.take 1 [IntKind.u8.wrap i],t',List.take 1 e].flatten))/\n.toNat-(L+(32:Nat))<n.toNat-L))/\(decide ((↑L:Int)<n)=false->(exI n t' e f (i,L,N,xs,last)).triv (exJ n t' f (i,L,N,xs,last)/\n<=(↑L:Int))))) (by kernel_rfl) ?_
   have e5:List.take 32 (byt (ovr f last))=byt (ovr f last):=List.take_of_length_le (by omega)
   have e4:∀ a:Int,List.take 1 [a]=[a]:=fun _=>rfl
   have e6:List.take 1 e=e:=by rw[he];rfl
   have e7:∀ l,List.take 32 (dig l)=dig l:=fun l=>List.take_of_length_le (by rw[dig_len];omega)
   refine⟨fun h=>?_,fun h=>tvi ⟨⟨k,ei,eL,hLN,hx,hl,hk⟩,by have:=of_decide_eq_false h;omega⟩⟩
   have hLn:(L:Int)<n:=of_decide_eq_true h
   have e8:dig (List.flatten [byt (ovr f last),[IntKind.u8.wrap i],t',e])=nxD f t' k (exK f t' k).2:=by
    rw[nxD,hl,ei,he]
   rw[e5,e4,e6,e8]
   refine⟨trivial,trivial,fun _ _ h=>h,by decide,by decide,by decide,⟨?_,by show 4<=_;decide⟩,by decide,hLN,by omega,by omega,trivial,?_⟩
   ·show (List.flatten [byt (ovr f last),[IntKind.u8.wrap i],t',e]).length<=1099511627776
    rw[he]
    simp only[List.flatten_cons,List.flatten_nil,List.length_append,List.length_cons,List.length_nil,hbl,endF]
    omega
   ·refine tvi ⟨⟨k+1,?_,?_,Nat.le_refl _,?_,?_,?_⟩,by omega⟩
    ·show IntKind.i64.wrap (i+1)=_
     rw[ei,wrap_i64' (by omega) (by omega)];omega
    ·show L+32=_
     omega
    ·show List.take (32*(k+1)) (List.take L xs++List.take 32 (nxD f t' k (exK f t' k).2))=_
     rw[nxD,e7,List.take_of_length_le (by rw[List.length_append,List.length_take,dig_len];omega),eL,hx]
     rfl
    ·rfl
    ·show ((32*(k+1):Nat):Int)<n+32
     omega
  rintro⟨i,L,N,xs,last⟩ hj
  revert i xs last
  intro (i:Int) (xs:List Int) (last:List Int) (hj:exJ n t' f (i,L,N,xs,last)/\n<=(L:Int))
  refine tr_vc hsp mixed _ _ ?_
  obtain⟨⟨k,ei,eL,hLN,hx,hl,hk⟩,hnL⟩:=hj
  have eL:L=32*k:=eL
  have hLN:L<=N:=hLN
  have hx:xs.take (32*k)=(exK f t' k).1:=hx
  have hk:((32*k:Nat):Int)<n+32:=hk
  have hnL:n<=(L:Int):=hnL
  have hA:exA m t n=(expo m t n,0):=by
   rw[exA,decide_eq_false (by omega),decide_eq_false (by omega)];rfl
  have hkk:(n.toNat+31)/32=k:=by omega
  have hE:xs.take n.toNat=expo m t n:=by
   rw[expo,opq_eq,expF,htag,hkk,<- hf,<- hx,List.take_take,Nat.min_eq_left (by omega)]
  rw[hA]
  refine vcx (X:=(((0:Int)<=n/\n<=n/\n<=(↑L:Int))/\(0:Nat)+(n-(0:Int)).toNat<=N/\(List.take (n-(0:Int)).toNat xs,(0:Int),())=(expo m t n,(0:Int),()))) (by kernel_rfl) ?_
  have e1:(n-0).toNat=n.toNat:=by omega
  rw[e1,hE]
  exact⟨⟨by omega,by omega,hnL⟩,by omega,rfl⟩
 refine tr_cut hsp mixed 4 (exS0 m n t) (0<=n/\n<=8160) ?_ (fun hn=>?_)
 ·refine vcx (X:=((decide (n<(0:Int))=true->([],(1:Int),())=((exA m t n).fst,(exA m t n).snd,()))/\(decide (n<(0:Int))=false->(decide (n>(8160:Int))=true->([],(1:Int),())=((exA m t n).fst,(exA m t n).snd,()))/\(decide (n>(8160:Int))=false->(exS0 m n t).triv ((0:Int)<=n/\n<=(8160:Int)))))) (by kernel_rfl) ?_
  refine⟨fun h=>?_,fun h=>⟨fun h2=>?_,fun h2=>tvi ⟨by have:=of_decide_eq_false h;omega,by have:=of_decide_eq_false h2;omega⟩⟩⟩
  ·rw[exA,h];rfl
  ·rw[exA,h,h2];rfl
 refine tr_cond (c:=nthC (codeOf Tryz.f125) 4) (decide ((t.length:Int)>255)) (by kernel_rfl) (by kernel_rfl) (by kernel_rfl) (fun hT=>?_) (fun hT=>?_)
 ·have hT:255<t.length:=by have:=of_decide_eq_true hT;omega
  refine tr_cutF hsp mixed 2 (fun σ=>rdR bK 128 σ) (exS1 m n) (fun d=>d=dig (overS++t)) ?_ ?_
  ·refine vcx (X:=((∀ (g:Nat) (s:Sigma Car),shaG g=some s->Decidable.rec (fun h=>(fun x=>if g=(1:Nat) then some ⟨Kd.arr (64:Nat) uK,rootsL⟩ else none) h) (fun h=>(fun x=>some ⟨Kd.arr (8:Nat) uK,firstL⟩) h) (instDecidableEqNat g (0:Nat))=some s)/\(0:Nat)+(nat_lit 16+(1:Nat))<=(17:Nat)/\preOf ([List.take (nat_lit 16+(1:Nat)) [(72:Int),(50:Int),(67:Int),(45:Int),(79:Int),(86:Int),(69:Int),(82:Int),(83:Int),(73:Int),(90:Int),(69:Int),(45:Int),(68:Int),(83:Int),(84:Int),(45:Int)],t],())/\(exS1 m n (dig [List.take (nat_lit 16+(1:Nat)) [(72:Int),(50:Int),(67:Int),(45:Int),(79:Int),(86:Int),(69:Int),(82:Int),(83:Int),(73:Int),(90:Int),(69:Int),(45:Int),(68:Int),(83:Int),(84:Int),(45:Int)],t].flatten,()).fst).triv (dig [List.take (nat_lit 16+(1:Nat)) [(72:Int),(50:Int),(67:Int),(45:Int),(79:Int),(86:Int),(69:Int),(82:Int),(83:Int),(73:Int),(90:Int),(69:Int),(45:Int),(68:Int),(83:Int),(84:Int),(45:Int)],t].flatten=dig (overS++t)))) (by kernel_rfl) ?_
   refine⟨fun _ _ h=>h,by decide,⟨?_,by show 2<=_;decide⟩,tvi ?_⟩
   ·show (List.flatten [overS,t]).length<=1099511627776
    simp only[List.flatten_cons,List.flatten_nil,List.length_append,List.length_nil]
    have:overS.length=17:=rfl
    omega
   ·show dig (List.flatten [overS,t])=_
    simp only[List.flatten_cons,List.flatten_nil,List.append_nil]
  intro (d:List Int) (hd:d=dig (overS++t))
  have hdl:d.length=32:=by rw[hd,dig_len]
  refine tr_frzI 1 128 32 1 .u8 d (by kernel_rfl) (by kernel_rfl) hdl ?_
  refine tr_le (τ:=exS m n d) (K:=True) (le_of_proj (by kernel_rfl) (by kernel_rfl) trivial) (fun _=>?_)
  exact tr_eqL (by kernel_rfl) (rest d (by omega) hn.1 hn.2 (by rw[tagF,decide_eq_true hT,hd]))
 ·have hT:¬ 255<t.length:=by have:=of_decide_eq_false hT;omega
  refine tr_le (τ:=exS m n t) (K:=True) (le_of_proj (by kernel_rfl) (by kernel_rfl) trivial) (fun _=>?_)
  exact tr_eqL (by kernel_rfl) (rest t (by omega) hn.1 hn.2 (by rw[tagF,decide_eq_false hT]))
end
end Go.Proofs.YteldhmehjkhanaaGreatDoor.xmd
namespace Cr
class Rg (F:Type) extends Add F,Mul F,Neg F,Sub F,Zero F,One F where
 add_comm:∀ a b:F,a+b=b+a
 add_assoc:∀ a b c:F,a+b+c=a+(b+c)
 zero_add:∀ a:F,0+a=a
 neg_add:∀ a:F,-a+a=0
 sub_def:∀ a b:F,a-b=a + -b
 mul_comm:∀ a b:F,a*b=b*a
 mul_assoc:∀ a b c:F,a*b*c=a*(b*c)
 one_mul:∀ a:F,1*a=a
 add_mul:∀ a b c:F,(a+b)*c=a*c+b*c
namespace Rg
variable {F:Type} [Rg F]
theorem add_zero (a:F):a+0=a:=by rw[add_comm,zero_add]
theorem add_neg (a:F):a + -a=0:=by rw[add_comm,neg_add]
theorem mul_one (a:F):a*1=a:=by rw[mul_comm,one_mul]
theorem mul_add (a b c:F):a*(b+c)=a*b+a*c:=by rw[mul_comm,add_mul,mul_comm b,mul_comm c]
theorem add_left {a b c:F} (h:a+b=a+c):b=c:=by
 have:=congrArg (fun x => -a+x) h
 simpa only[<- add_assoc,neg_add,zero_add] using this
theorem zero_mul (a:F):0*a=0:=by
 have h:0*a+0*a=0*a+0:=by rw[<- add_mul,add_zero,add_zero]
 exact add_left h
theorem mul_zero (a:F):a*0=0:=by rw[mul_comm,zero_mul]
theorem neg_eq {a b:F} (h:a+b=0) : -a=b:=by
 have : -a+(a+b)=-a+0:=by rw[h]
 rw[<- add_assoc,neg_add,zero_add,add_zero] at this
 exact this.symm
theorem neg_mul (a b:F) : -a*b=-(a*b):=by
 refine (neg_eq ?_).symm
 rw[<- add_mul,add_neg,zero_mul]
theorem mul_neg (a b:F):a * -b=-(a*b):=by rw[mul_comm,neg_mul,mul_comm]
theorem neg_neg (a:F) : - -a=a:=neg_eq (neg_add a)
theorem neg_zero : -(0:F)=0:=neg_eq (zero_add 0)
theorem neg_add_rev (a b:F) : -(a+b)=-a + -b:=by
 refine neg_eq ?_
 rw[add_assoc,<- add_assoc b,add_comm b,add_assoc (-a),add_neg,add_zero,add_neg]
theorem sub_self (a:F):a-a=0:=by rw[sub_def,add_neg]
theorem eq_of_sub {a b:F} (h:a-b=0):a=b:=by
 rw[sub_def,add_comm] at h
 have:=neg_eq h
 rw[neg_neg] at this
 exact this.symm
theorem sub_of_eq {a b:F} (h:a=b):a-b=0:=by rw[h,sub_self]
theorem add_add_add (a b c d:F):a+b+(c+d)=a+c+(b+d):=by
 rw[add_assoc,add_assoc,<- add_assoc b,add_comm b c,add_assoc c]
def nc:Nat->F
 | 0=>0
 | n+1=>nc n+1
theorem nc_add (m n:Nat):nc (m+n)=(nc m+nc n:F):=by
 induction n with
 | zero=>exact (add_zero _).symm
 | succ n ih=>show nc (m+n)+1=nc m+(nc n+1);rw[ih,add_assoc]
theorem nc_mul (m n:Nat):nc (m*n)=(nc m*nc n:F):=by
 induction n with
 | zero=>exact (mul_zero _).symm
 | succ n ih=>show nc (m*n+m)=nc m*(nc n+1);rw[nc_add,ih,mul_add,mul_one]
def ic (a:Int):F:=nc a.toNat + -nc (-a).toNat
theorem ic_of {a:Int} {x y:Nat} (h:a=(x:Int)-y):ic a=(nc x + -nc y:F):=by
 unfold ic
 have e:a.toNat+y=x+(-a).toNat:=by omega
 have e2:(nc a.toNat+nc y:F)=nc x+nc (-a).toNat:=by rw[<- nc_add,<- nc_add,e]
 generalize (nc a.toNat:F)=p at *
 generalize (nc (-a).toNat:F)=q at *
 generalize (nc x:F)=u at *
 generalize (nc y:F)=v at *
 have:p=u+q + -v:=by rw[<- e2,add_assoc,add_neg,add_zero]
 rw[this,add_assoc,add_assoc,add_comm (-v),<- add_assoc q,add_neg,zero_add]
theorem ic_split (a:Int):a=(a.toNat:Int)-((-a).toNat:Nat):=by omega
theorem ic_add (a b:Int):ic (a+b)=(ic a+ic b:F):=by
 rw[ic_of (a:=a+b) (x:=a.toNat+b.toNat) (y:=(-a).toNat+(-b).toNat) (by omega),nc_add,nc_add,neg_add_rev]
 exact add_add_add _ _ _ _
theorem ic_mul (a b:Int):ic (a*b)=(ic a*ic b:F):=by
 have h:a*b=((a.toNat*b.toNat+(-a).toNat*(-b).toNat:Nat):Int)-((a.toNat*(-b).toNat+(-a).toNat*b.toNat:Nat):Int):=by
  conv=>lhs;rw[ic_split a,ic_split b]
  simp only[Int.natCast_add,Int.natCast_mul,Int.sub_mul,Int.mul_sub]
  omega
 rw[ic_of h]
 unfold ic
 generalize hp:(nc a.toNat:F)=p
 generalize hq:(nc (-a).toNat:F)=q
 generalize hu:(nc b.toNat:F)=u
 generalize hv:(nc (-b).toNat:F)=v
 rw[nc_add,nc_add,nc_mul,nc_mul,nc_mul,nc_mul,hp,hq,hu,hv,add_mul,mul_add,mul_add,mul_neg,neg_mul,neg_mul,mul_neg,neg_neg,neg_add_rev]
 rw[add_add_add (p*u) (q*v),add_comm (q*v)]
theorem ic_one:ic 1=(1:F):=by
 show (0+1:F) + -0=1
 rw[zero_add,neg_zero,add_zero]
theorem ic_zero:ic 0=(0:F):=by
 show (0:F) + -0=0
 rw[zero_add,neg_zero]
theorem ic_neg_one:ic (-1)=(-1:F):=by
 show (0:F) + -(0+1)=-1
 rw[zero_add,zero_add]
end Rg
inductive PE
 | v (i:Nat)
 | one
 | zero
 | add (a b:PE)
 | mul (a b:PE)
 | sub (a b:PE)
 | neg (a:PE)
instance : Add PE := ⟨.add⟩
instance : Mul PE := ⟨.mul⟩
instance : Sub PE := ⟨.sub⟩
instance : Neg PE := ⟨.neg⟩
instance : One PE := ⟨.one⟩
instance : Zero PE := ⟨.zero⟩
def nth {F:Type} [Zero F]:List F->Nat->F
 | [],_=>0
 | x::_,0=>x
 | _::l,n+1=>nth l n
def PE.ev {F:Type} [Rg F] (l:List F):PE->F
 | .v i=>nth l i
 | .one=>1
 | .zero=>0
 | .add a b=>a.ev l+b.ev l
 | .mul a b=>a.ev l*b.ev l
 | .sub a b=>a.ev l-b.ev l
 | .neg a => -a.ev l
abbrev Mo:=List Nat
abbrev Po:=List (Mo × Int)
def insM (i:Nat):Mo->Mo
 | []=>[i]
 | j::l=>match Nat.ble i j with
  | true=>i::j::l
  | false=>j::insM i l
def mulM:Mo->Mo->Mo
 | [],m=>m
 | i::l,m=>insM i (mulM l m)
def eqM:Mo->Mo->Bool
 | [],[]=>true
 | i::l,j::m=>match Nat.beq i j with
  | true=>eqM l m
  | false=>false
 | _,_=>false
def ltM:Mo->Mo->Bool
 | [],[]=>false
 | [],_=>true
 | _,[]=>false
 | i::l,j::m=>match Nat.beq i j with
  | true=>ltM l m
  | false=>Nat.blt i j
def addT (m:Mo) (c:Int):Po->Po
 | []=>[(m,c)]
 | t::p=>match eqM m t.1 with
  | true=>(m,c+t.2)::p
  | false=>match ltM m t.1 with
   | true=>(m,c)::t::p
   | false=>t::addT m c p
def addP:Po->Po->Po
 | [],q=>q
 | t::p,q=>addT t.1 t.2 (addP p q)
def mulT (m:Mo) (c:Int):Po->Po->Po
 | [],acc=>acc
 | t::q,acc=>addT (mulM m t.1) (c*t.2) (mulT m c q acc)
def mulP:Po->Po->Po
 | [],_=>[]
 | t::p,q=>mulT t.1 t.2 q (mulP p q)
def scP (c:Int):Po->Po
 | []=>[]
 | t::p=>(t.1,c*t.2)::scP c p
def PE.nf:PE->Po
 | .v i=>[([i],1)]
 | .one=>[([],1)]
 | .zero=>[]
 | .add a b=>addP a.nf b.nf
 | .mul a b=>mulP a.nf b.nf
 | .sub a b=>addP (scP (-1) b.nf) a.nf
 | .neg a=>scP (-1) a.nf
def isZ:Po->Bool
 | []=>true
 | t::p=>match t.2 with
  | .ofNat 0=>isZ p
  | _=>false
section
variable {F:Type} [Rg F] (l:List F)
open Rg
def evM:Mo->F
 | []=>1
 | i::m=>nth l i*evM m
def evP:Po->F
 | []=>0
 | t::p=>ic t.2*evM l t.1+evP p
theorem insM_ev (i:Nat):∀ m:Mo,evM l (insM i m)=nth l i*evM l m:=by
 intro m
 induction m with
 | nil=>rfl
 | cons j m ih =>
  unfold insM
  split
  ·rfl
  ·show nth l j*evM l (insM i m)=nth l i*(nth l j*evM l m)
   rw[ih,<- mul_assoc,<- mul_assoc,mul_comm (nth l j)]
theorem mulM_ev:∀ a m:Mo,evM l (mulM a m)=evM l a*evM l m:=by
 intro a
 induction a with
 | nil=>intro m;exact (one_mul _).symm
 | cons i a ih=>intro m;show evM l (insM i (mulM a m))=nth l i*evM l a*evM l m;rw[insM_ev,ih,mul_assoc]
theorem eqM_eq:∀ {a b:Mo},eqM a b=true->a=b:=by
 intro a
 induction a with
 | nil=>intro b h;cases b with
  | nil=>rfl
  | cons j m=>simp[eqM] at h
 | cons i a ih=>intro b h;cases b with
  | nil=>simp[eqM] at h
  | cons j m =>
   unfold eqM at h
   split at h
   ·rename_i hb;rw[Nat.eq_of_beq_eq_true hb,ih h]
   ·cases h
theorem addT_ev (m:Mo) (c:Int):∀ p:Po,evP l (addT m c p)=ic c*evM l m+evP l p:=by
 intro p
 induction p with
 | nil=>rfl
 | cons t p ih =>
  unfold addT
  split
  ·rename_i h
   show ic (c+t.2)*evM l m+evP l p=ic c*evM l m+(ic t.2*evM l t.1+evP l p)
   rw[eqM_eq h,ic_add,add_mul,add_assoc]
  ·split
   ·rfl
   ·show ic t.2*evM l t.1+evP l (addT m c p)=ic c*evM l m+(ic t.2*evM l t.1+evP l p)
    rw[ih,<- add_assoc,<- add_assoc,add_comm (ic t.2*evM l t.1)]
theorem addP_ev:∀ p q:Po,evP l (addP p q)=evP l p+evP l q:=by
 intro p
 induction p with
 | nil=>intro q;exact (zero_add _).symm
 | cons t p ih=>intro q;show evP l (addT t.1 t.2 (addP p q))=_;rw[addT_ev,ih];exact (add_assoc _ _ _).symm
theorem mulT_ev (m:Mo) (c:Int):∀ q acc:Po,evP l (mulT m c q acc)=ic c*evM l m*evP l q+evP l acc:=by
 intro q
 induction q with
 | nil=>intro acc;show evP l acc=ic c*evM l m*0+evP l acc;rw[mul_zero,zero_add]
 | cons t q ih =>
  intro acc
  show evP l (addT (mulM m t.1) (c*t.2) (mulT m c q acc))=ic c*evM l m*(ic t.2*evM l t.1+evP l q)+evP l acc
  rw[addT_ev,ih,mulM_ev,ic_mul,mul_add,add_assoc]
  congr 1
  rw[mul_assoc,mul_assoc,<- mul_assoc (ic t.2),mul_comm (ic t.2),mul_assoc (evM l m)]
theorem mulP_ev:∀ p q:Po,evP l (mulP p q)=evP l p*evP l q:=by
 intro p
 induction p with
 | nil=>intro q;exact (zero_mul _).symm
 | cons t p ih=>intro q;show evP l (mulT t.1 t.2 q (mulP p q))=(ic t.2*evM l t.1+evP l p)*evP l q;rw[mulT_ev,ih,add_mul]
theorem scP_ev (c:Int):∀ p:Po,evP l (scP c p)=ic c*evP l p:=by
 intro p
 induction p with
 | nil=>exact (mul_zero _).symm
 | cons t p ih=>show ic (c*t.2)*evM l t.1+evP l (scP c p)=ic c*(ic t.2*evM l t.1+evP l p);rw[ih,ic_mul,mul_add,mul_assoc]
theorem nf_ev:∀ e:PE,evP l e.nf=e.ev l:=by
 intro e
 induction e with
 | v i=>show ic 1*(nth l i*1)+0=nth l i;rw[ic_one,add_zero,one_mul,mul_one]
 | one=>show ic 1*1+0=(1:F);rw[ic_one,add_zero,one_mul]
 | zero=>rfl
 | add a b iha ihb=>show evP l (addP a.nf b.nf)=a.ev l+b.ev l;rw[addP_ev,iha,ihb]
 | mul a b iha ihb=>show evP l (mulP a.nf b.nf)=a.ev l*b.ev l;rw[mulP_ev,iha,ihb]
 | sub a b iha ihb=>show evP l (addP (scP (-1) b.nf) a.nf)=a.ev l-b.ev l;rw[addP_ev,scP_ev,iha,ihb,ic_neg_one,neg_mul,one_mul,sub_def,add_comm]
 | neg a iha=>show evP l (scP (-1) a.nf)=-a.ev l;rw[scP_ev,iha,ic_neg_one,neg_mul,one_mul]
theorem isZ_ev:∀ {p:Po},isZ p=true->evP l p=0:=by
 intro p
 induction p with
 | nil=>intro _;rfl
 | cons t p ih =>
  intro h
  obtain⟨m,c⟩:=t
  unfold isZ at h
  split at h
  ·rename_i hc
   have hc:c=0:=hc
   show ic c*evM l m+evP l p=0
   rw[hc,ic_zero,zero_mul,zero_add,ih h]
  ·cases h
theorem rid (a b:PE) (h:isZ (PE.nf (.sub a b))=true):a.ev l=b.ev l:=by
 have:=isZ_ev l h
 rw[nf_ev] at this
 exact eq_of_sub this
end
class Fd (F:Type) extends Rg F where
 deq:DecidableEq F
 inv:F->F
 mul_inv:∀ a:F,a≠0->a*inv a=1
 one_ne:(1:F)≠0
 two_ne:(1+1:F)≠0
 three_ne:(1+1+1:F)≠0
attribute [instance_reducible,instance] Fd.deq
namespace Fd
open Rg
variable {F:Type} [Fd F]
theorem mul_eq_zero {a b:F} (h:a*b=0):a=0\/b=0:=by
 by_cases ha:a=0
 ·exact .inl ha
 ·right
  have:inv a*(a*b)=0:=by rw[h,mul_zero]
  rwa [<- mul_assoc,mul_comm (inv a),mul_inv a ha,one_mul] at this
theorem mul_ne {a b:F} (ha:a≠0) (hb:b≠0):a*b≠0:=fun h=>(mul_eq_zero h).elim ha hb
theorem mul_left {a b c:F} (ha:a≠0) (h:a*b=a*c):b=c:=by
 have:inv a*(a*b)=inv a*(a*c):=by rw[h]
 rwa [<- mul_assoc,<- mul_assoc,mul_comm (inv a),mul_inv a ha,one_mul,one_mul] at this
theorem double_eq_zero {a:F} (h:a+a=0):a=0:=by
 have:(1+1)*a=0:=by rw[add_mul,one_mul];exact h
 exact (mul_eq_zero this).resolve_left two_ne
theorem sub_ne {a b:F} (h:a≠b):a-b≠0:=fun e=>h (eq_of_sub e)
end Fd
end Cr
namespace Cr
open Rg Fd
def On {F:Type} [Rg F] (b x y:F):Prop:=y*y=x*x*x+b
def Ln {F:Type} [Rg F] (x1 y1 x2 y2 l:F):Prop:=l*(x2-x1)=y2-y1/\l*(y1+y2)=x1*x1+x1*x2+x2*x2
def sx {F:Type} [Rg F] (x1 x2 l:F):F:=l*l-x1-x2
def sy {F:Type} [Rg F] (x1 y1 x2 l:F):F:=-(y1+l*(sx x1 x2 l-x1))
section
variable {F:Type} [Rg F]
theorem lc1 {a b p q:F} (c:F) (h:a-b=c*(p-q)) (h1:p=q):a=b:=by
 rw[sub_of_eq h1,mul_zero] at h;exact eq_of_sub h
theorem lc2 {a b p q p' q':F} (c c':F) (h:a-b=c*(p-q)+c'*(p'-q')) (h1:p=q) (h2:p'=q'):a=b:=by
 rw[sub_of_eq h1,sub_of_eq h2,mul_zero,mul_zero,zero_add] at h;exact eq_of_sub h
theorem lc3 {a b p q p' q' p'' q'':F} (c c' c'':F) (h:a-b=c*(p-q)+c'*(p'-q')+c''*(p''-q'')) (h1:p=q) (h2:p'=q') (h3:p''=q''):a=b:=by
 rw[sub_of_eq h1,sub_of_eq h2,sub_of_eq h3,mul_zero,mul_zero,mul_zero,zero_add,zero_add] at h;exact eq_of_sub h
theorem lc4 {a b p q p' q' p'' q'' u v:F} (c c' c'' d:F) (h:a-b=c*(p-q)+c'*(p'-q')+c''*(p''-q'')+d*(u-v)) (h1:p=q) (h2:p'=q') (h3:p''=q'') (h4:u=v):a=b:=by
 rw[sub_of_eq h1,sub_of_eq h2,sub_of_eq h3,sub_of_eq h4,mul_zero,mul_zero,mul_zero,mul_zero,zero_add,zero_add,zero_add] at h;exact eq_of_sub h
end
theorem i_on {F:Type} [Rg F] (x1 y1 x2 y2 l x b:F):(y1+l*(x-x1))*(y1+l*(x-x1))-(x*x*x+b)=1*(y1*y1-(x1*x1*x1+b))+(x-x1)*(l*(y1+y2)-(x1*x1+x1*x2+x2*x2))+(x-x1)*l*(l*(x2-x1)-(y2-y1))+(x-x1)*(x-x2)*((l*l-x1-x2)-x) :=
 rid [x1,y1,x2,y2,l,x,b] ((fun (x1 y1 x2 y2 l x b:PE)=>((y1+l*(x-x1))*(y1+l*(x-x1))-(x*x*x+b))) (.v 0) (.v 1) (.v 2) (.v 3) (.v 4) (.v 5) (.v 6)) ((fun (x1 y1 x2 y2 l x b:PE)=>(1*(y1*y1-(x1*x1*x1+b))+(x-x1)*(l*(y1+y2)-(x1*x1+x1*x2+x2*x2))+(x-x1)*l*(l*(x2-x1)-(y2-y1))+(x-x1)*(x-x2)*((l*l-x1-x2)-x))) (.v 0) (.v 1) (.v 2) (.v 3) (.v 4) (.v 5) (.v 6)) (by kernel_rfl)
theorem i_neg2 {F:Type} [Rg F] (a:F):(- a)*(- a)=a*a :=
 rid [a] ((fun (a:PE)=>((- a)*(- a))) (.v 0)) ((fun (a:PE)=>(a*a)) (.v 0)) (by kernel_rfl)
theorem i_third {F:Type} [Rg F] (x1 y1 x2 y2 l:F):l*(y1 + - -(y1+l*((l*l-x1-x2)-x1)))-(x1*x1+x1*(l*l-x1-x2)+(l*l-x1-x2)*(l*l-x1-x2))=1*(l*(y1+y2)-(x1*x1+x1*x2+x2*x2))+l*(l*(x2-x1)-(y2-y1)) :=
 rid [x1,y1,x2,y2,l] ((fun (x1 y1 x2 y2 l:PE)=>(l*(y1 + - -(y1+l*((l*l-x1-x2)-x1)))-(x1*x1+x1*(l*l-x1-x2)+(l*l-x1-x2)*(l*l-x1-x2)))) (.v 0) (.v 1) (.v 2) (.v 3) (.v 4)) ((fun (x1 y1 x2 y2 l:PE)=>(1*(l*(y1+y2)-(x1*x1+x1*x2+x2*x2))+l*(l*(x2-x1)-(y2-y1)))) (.v 0) (.v 1) (.v 2) (.v 3) (.v 4)) (by kernel_rfl)
theorem i_third1 {F:Type} [Rg F] (x1 y1 x2 l:F):l*((l*l-x1-x2)-x1)=- -(y1+l*((l*l-x1-x2)-x1))-y1 :=
 rid [x1,y1,x2,l] ((fun (x1 y1 x2 l:PE)=>(l*((l*l-x1-x2)-x1))) (.v 0) (.v 1) (.v 2) (.v 3)) ((fun (x1 y1 x2 l:PE)=>(- -(y1+l*((l*l-x1-x2)-x1))-y1)) (.v 0) (.v 1) (.v 2) (.v 3)) (by kernel_rfl)
theorem i_symx {F:Type} [Rg F] (x1 x2 l:F):l*l-x1-x2=l*l-x2-x1 :=
 rid [x1,x2,l] ((fun (x1 x2 l:PE)=>(l*l-x1-x2)) (.v 0) (.v 1) (.v 2)) ((fun (x1 x2 l:PE)=>(l*l-x2-x1)) (.v 0) (.v 1) (.v 2)) (by kernel_rfl)
theorem i_symy {F:Type} [Rg F] (x1 y1 x2 y2 l:F) : -(y1+l*((l*l-x1-x2)-x1)) - -(y2+l*((l*l-x2-x1)-x2))=(-1)*(l*(x2-x1)-(y2-y1)) :=
 rid [x1,y1,x2,y2,l] ((fun (x1 y1 x2 y2 l:PE)=>(-(y1+l*((l*l-x1-x2)-x1)) - -(y2+l*((l*l-x2-x1)-x2)))) (.v 0) (.v 1) (.v 2) (.v 3) (.v 4)) ((fun (x1 y1 x2 y2 l:PE)=>((-1)*(l*(x2-x1)-(y2-y1)))) (.v 0) (.v 1) (.v 2) (.v 3) (.v 4)) (by kernel_rfl)
theorem i_sym1 {F:Type} [Rg F] (x1 y1 x2 y2 l:F):l*(x1-x2)-(y1-y2)=(-1)*(l*(x2-x1)-(y2-y1)) :=
 rid [x1,y1,x2,y2,l] ((fun (x1 y1 x2 y2 l:PE)=>(l*(x1-x2)-(y1-y2))) (.v 0) (.v 1) (.v 2) (.v 3) (.v 4)) ((fun (x1 y1 x2 y2 l:PE)=>((-1)*(l*(x2-x1)-(y2-y1)))) (.v 0) (.v 1) (.v 2) (.v 3) (.v 4)) (by kernel_rfl)
theorem i_sym2 {F:Type} [Rg F] (x1 y1 x2 y2 l:F):l*(y2+y1)-(x2*x2+x2*x1+x1*x1)=1*(l*(y1+y2)-(x1*x1+x1*x2+x2*x2)) :=
 rid [x1,y1,x2,y2,l] ((fun (x1 y1 x2 y2 l:PE)=>(l*(y2+y1)-(x2*x2+x2*x1+x1*x1))) (.v 0) (.v 1) (.v 2) (.v 3) (.v 4)) ((fun (x1 y1 x2 y2 l:PE)=>(1*(l*(y1+y2)-(x1*x1+x1*x2+x2*x2)))) (.v 0) (.v 1) (.v 2) (.v 3) (.v 4)) (by kernel_rfl)
theorem i_f1 {F:Type} [Rg F] (x y u v l m:F):(x*x+(u+l*m)*x+(u*u-l*m*u+(l-m)*v)-(l+m)*y)-0=(-1)*(l*(y + -v)-(x*x+x*u+u*u))+(-m)*(l*(u-x)-(-v-y)) :=
 rid [x,y,u,v,l,m] ((fun (x y u v l m:PE)=>((x*x+(u+l*m)*x+(u*u-l*m*u+(l-m)*v)-(l+m)*y)-0)) (.v 0) (.v 1) (.v 2) (.v 3) (.v 4) (.v 5)) ((fun (x y u v l m:PE)=>((-1)*(l*(y + -v)-(x*x+x*u+u*u))+(-m)*(l*(u-x)-(-v-y)))) (.v 0) (.v 1) (.v 2) (.v 3) (.v 4) (.v 5)) (by kernel_rfl)
theorem i_f2 {F:Type} [Rg F] (x y u v l m:F):(x*x+(u+l*m)*x+(u*u-l*m*u+(l-m)*v)-(l+m)*y)-0=(-1)*(m*(v+y)-(u*u+u*x+x*x))+l*(m*(x-u)-(y-v)) :=
 rid [x,y,u,v,l,m] ((fun (x y u v l m:PE)=>((x*x+(u+l*m)*x+(u*u-l*m*u+(l-m)*v)-(l+m)*y)-0)) (.v 0) (.v 1) (.v 2) (.v 3) (.v 4) (.v 5)) ((fun (x y u v l m:PE)=>((-1)*(m*(v+y)-(u*u+u*x+x*x))+l*(m*(x-u)-(y-v)))) (.v 0) (.v 1) (.v 2) (.v 3) (.v 4) (.v 5)) (by kernel_rfl)
theorem i_chord {F:Type} [Rg F] (x1 y1 x2 y2 l i b:F):(l*(y1+y2)-(x1*x1+x1*x2+x2*x2))*(x2-x1)-0=(y1+y2)*(l*(x2-x1)-(y2-y1))+1*(y2*y2-(x2*x2*x2+b))+(-1)*(y1*y1-(x1*x1*x1+b)) :=
 rid [x1,y1,x2,y2,l,i,b] ((fun (x1 y1 x2 y2 l i b:PE)=>((l*(y1+y2)-(x1*x1+x1*x2+x2*x2))*(x2-x1)-0)) (.v 0) (.v 1) (.v 2) (.v 3) (.v 4) (.v 5) (.v 6)) ((fun (x1 y1 x2 y2 l i b:PE)=>((y1+y2)*(l*(x2-x1)-(y2-y1))+1*(y2*y2-(x2*x2*x2+b))+(-1)*(y1*y1-(x1*x1*x1+b)))) (.v 0) (.v 1) (.v 2) (.v 3) (.v 4) (.v 5) (.v 6)) (by kernel_rfl)
theorem i_dsq {F:Type} [Rg F] (a b:F):(a-b)*(a+b)=a*a-b*b :=
 rid [a,b] ((fun (a b:PE)=>((a-b)*(a+b))) (.v 0) (.v 1)) ((fun (a b:PE)=>(a*a-b*b)) (.v 0) (.v 1)) (by kernel_rfl)
theorem i_h {F:Type} [Rg F] (a1 a0 g b1 b0 h l xP yP xQ xR yR:F):(g-h)*(l*(xR-xP)-(yR-yP))=(xR*xR+a1*xR+a0-g*yR)-(xP*xP+a1*xP+a0-g*yP)-(xR*xR+b1*xR+b0-h*yR)+(xP*xP+b1*xP+b0-h*yP)-(xR-xP)*(((xP+xQ+a1)-g*l)-((xP+xQ+b1)-h*l)) :=
 rid [a1,a0,g,b1,b0,h,l,xP,yP,xQ,xR,yR] ((fun (a1 a0 g b1 b0 h l xP yP xQ xR yR:PE)=>((g-h)*(l*(xR-xP)-(yR-yP)))) (.v 0) (.v 1) (.v 2) (.v 3) (.v 4) (.v 5) (.v 6) (.v 7) (.v 8) (.v 9) (.v 10) (.v 11)) ((fun (a1 a0 g b1 b0 h l xP yP xQ xR yR:PE)=>((xR*xR+a1*xR+a0-g*yR)-(xP*xP+a1*xP+a0-g*yP)-(xR*xR+b1*xR+b0-h*yR)+(xP*xP+b1*xP+b0-h*yP)-(xR-xP)*(((xP+xQ+a1)-g*l)-((xP+xQ+b1)-h*l)))) (.v 0) (.v 1) (.v 2) (.v 3) (.v 4) (.v 5) (.v 6) (.v 7) (.v 8) (.v 9) (.v 10) (.v 11)) (by kernel_rfl)
theorem i_a1 {F:Type} [Rg F] (a1 b1 g l xP xQ:F):a1-b1=1*((xP+xQ+a1)-g*l)+(-1)*((xP+xQ+b1)-g*l) :=
 rid [a1,b1,g,l,xP,xQ] ((fun (a1 b1 g l xP xQ:PE)=>(a1-b1)) (.v 0) (.v 1) (.v 2) (.v 3) (.v 4) (.v 5)) ((fun (a1 b1 g l xP xQ:PE)=>(1*((xP+xQ+a1)-g*l)+(-1)*((xP+xQ+b1)-g*l))) (.v 0) (.v 1) (.v 2) (.v 3) (.v 4) (.v 5)) (by kernel_rfl)
theorem i_a0 {F:Type} [Rg F] (a0 b0 a1 g xP yP:F):a0-b0=1*((xP*xP+a1*xP+a0-g*yP)-0)+(-1)*((xP*xP+a1*xP+b0-g*yP)-0) :=
 rid [a0,b0,a1,g,xP,yP] ((fun (a0 b0 a1 g xP yP:PE)=>(a0-b0)) (.v 0) (.v 1) (.v 2) (.v 3) (.v 4) (.v 5)) ((fun (a0 b0 a1 g xP yP:PE)=>(1*((xP*xP+a1*xP+a0-g*yP)-0)+(-1)*((xP*xP+a1*xP+b0-g*yP)-0))) (.v 0) (.v 1) (.v 2) (.v 3) (.v 4) (.v 5)) (by kernel_rfl)
theorem i_g {F:Type} [Rg F] (a1 a0 xP yP xR yR:F):(xR-xP)*(xR+xP+a1)=(xR*xR+a1*xR+a0-0*yR)-(xP*xP+a1*xP+a0-0*yP) :=
 rid [a1,a0,xP,yP,xR,yR] ((fun (a1 a0 xP yP xR yR:PE)=>((xR-xP)*(xR+xP+a1))) (.v 0) (.v 1) (.v 2) (.v 3) (.v 4) (.v 5)) ((fun (a1 a0 xP yP xR yR:PE)=>((xR*xR+a1*xR+a0-0*yR)-(xP*xP+a1*xP+a0-0*yP))) (.v 0) (.v 1) (.v 2) (.v 3) (.v 4) (.v 5)) (by kernel_rfl)
theorem i_g2 {F:Type} [Rg F] (a1 xP xQ xR l:F):xR-xQ=1*((xR+xP+a1)-0)+(-1)*((xP+xQ+a1)-0*l) :=
 rid [a1,xP,xQ,xR,l] ((fun (a1 xP xQ xR l:PE)=>(xR-xQ)) (.v 0) (.v 1) (.v 2) (.v 3) (.v 4)) ((fun (a1 xP xQ xR l:PE)=>(1*((xR+xP+a1)-0)+(-1)*((xP+xQ+a1)-0*l))) (.v 0) (.v 1) (.v 2) (.v 3) (.v 4)) (by kernel_rfl)
theorem i_y {F:Type} [Rg F] (a1 a0 g x y t:F):g*(y-t)-0=1*((x*x+a1*x+a0-g * -y)-0)+(-1)*((x*x+a1*x+a0-g * -t)-0) :=
 rid [a1,a0,g,x,y,t] ((fun (a1 a0 g x y t:PE)=>(g*(y-t)-0)) (.v 0) (.v 1) (.v 2) (.v 3) (.v 4) (.v 5)) ((fun (a1 a0 g x y t:PE)=>(1*((x*x+a1*x+a0-g * -y)-0)+(-1)*((x*x+a1*x+a0-g * -t)-0))) (.v 0) (.v 1) (.v 2) (.v 3) (.v 4) (.v 5)) (by kernel_rfl)
theorem i_c1 {F:Type} [Rg F] (x1 x2 l:F):(-l)*(-l)-x1-(l*l-x1-x2)=x2 :=
 rid [x1,x2,l] ((fun (x1 x2 l:PE)=>((-l)*(-l)-x1-(l*l-x1-x2))) (.v 0) (.v 1) (.v 2)) ((fun (x1 x2 l:PE)=>(x2)) (.v 0) (.v 1) (.v 2)) (by kernel_rfl)
theorem i_c2 {F:Type} [Rg F] (x1 y1 x2 y2 l:F) : -(-y1 + -l*(x2-x1))-y2=1*(l*(x2-x1)-(y2-y1)) :=
 rid [x1,y1,x2,y2,l] ((fun (x1 y1 x2 y2 l:PE)=>(-(-y1 + -l*(x2-x1))-y2)) (.v 0) (.v 1) (.v 2) (.v 3) (.v 4)) ((fun (x1 y1 x2 y2 l:PE)=>(1*(l*(x2-x1)-(y2-y1)))) (.v 0) (.v 1) (.v 2) (.v 3) (.v 4)) (by kernel_rfl)
theorem i_n1 {F:Type} [Rg F] (x1 y1 u v l:F) : -l*(u-x1)-(v - -y1)=(-1)*(l*(u-x1)-(-v-y1)) :=
 rid [x1,y1,u,v,l] ((fun (x1 y1 u v l:PE)=>(-l*(u-x1)-(v - -y1))) (.v 0) (.v 1) (.v 2) (.v 3) (.v 4)) ((fun (x1 y1 u v l:PE)=>((-1)*(l*(u-x1)-(-v-y1)))) (.v 0) (.v 1) (.v 2) (.v 3) (.v 4)) (by kernel_rfl)
theorem i_n2 {F:Type} [Rg F] (x1 y1 u v l:F) : -l*(-y1+v)-(x1*x1+x1*u+u*u)=1*(l*(y1 + -v)-(x1*x1+x1*u+u*u)) :=
 rid [x1,y1,u,v,l] ((fun (x1 y1 u v l:PE)=>(-l*(-y1+v)-(x1*x1+x1*u+u*u))) (.v 0) (.v 1) (.v 2) (.v 3) (.v 4)) ((fun (x1 y1 u v l:PE)=>(1*(l*(y1 + -v)-(x1*x1+x1*u+u*u)))) (.v 0) (.v 1) (.v 2) (.v 3) (.v 4)) (by kernel_rfl)
theorem i_t2 {F:Type} [Rg F] (xP xQ a1 g l yP yQ a0:F):(xQ-xP)*((xP+xQ+a1)-g*l)-0=1*((xQ*xQ+a1*xQ+a0-g*yQ)-0)+(-1)*((xP*xP+a1*xP+a0-g*yP)-0)+(-g)*(l*(xQ-xP)-(yQ-yP)) :=
 rid [xP,xQ,a1,g,l,yP,yQ,a0] ((fun (xP xQ a1 g l yP yQ a0:PE)=>((xQ-xP)*((xP+xQ+a1)-g*l)-0)) (.v 0) (.v 1) (.v 2) (.v 3) (.v 4) (.v 5) (.v 6) (.v 7)) ((fun (xP xQ a1 g l yP yQ a0:PE)=>(1*((xQ*xQ+a1*xQ+a0-g*yQ)-0)+(-1)*((xP*xP+a1*xP+a0-g*yP)-0)+(-g)*(l*(xQ-xP)-(yQ-yP)))) (.v 0) (.v 1) (.v 2) (.v 3) (.v 4) (.v 5) (.v 6) (.v 7)) (by kernel_rfl)
theorem i_t3 {F:Type} [Rg F] (x y u v k m l:F):(u-x)*((x+x+(u+k*m))-(k+m)*l)-0=(-l)*(k*(u-x)-(-v-y))+(k-l)*(m*(u-x)-(v-y))+(-1)*(k*(y + -v)-(x*x+x*u+u*u))+1*(l*(y+y)-(x*x+x*x+x*x)) :=
 rid [x,y,u,v,k,m,l] ((fun (x y u v k m l:PE)=>((u-x)*((x+x+(u+k*m))-(k+m)*l)-0)) (.v 0) (.v 1) (.v 2) (.v 3) (.v 4) (.v 5) (.v 6)) ((fun (x y u v k m l:PE)=>((-l)*(k*(u-x)-(-v-y))+(k-l)*(m*(u-x)-(v-y))+(-1)*(k*(y + -v)-(x*x+x*u+u*u))+1*(l*(y+y)-(x*x+x*x+x*x)))) (.v 0) (.v 1) (.v 2) (.v 3) (.v 4) (.v 5) (.v 6)) (by kernel_rfl)
theorem i_perm {F:Type} [Rg F] (g a p r:F):g-a-(p+r+p)=g-a-(p+p+r) :=
 rid [g,a,p,r] ((fun (g a p r:PE)=>(g-a-(p+r+p))) (.v 0) (.v 1) (.v 2) (.v 3)) ((fun (g a p r:PE)=>(g-a-(p+p+r))) (.v 0) (.v 1) (.v 2) (.v 3)) (by kernel_rfl)
theorem i_perm2 {F:Type} [Rg F] (g a p q r:F):g-a-(q+r+p)=g-a-(p+q+r) :=
 rid [g,a,p,q,r] ((fun (g a p q r:PE)=>(g-a-(q+r+p))) (.v 0) (.v 1) (.v 2) (.v 3) (.v 4)) ((fun (g a p q r:PE)=>(g-a-(p+q+r))) (.v 0) (.v 1) (.v 2) (.v 3) (.v 4)) (by kernel_rfl)
theorem i_m1 {F:Type} [Rg F] (x1 y1 x2 y2 l:F) : -l*(x2-x1)-(-y2 - -y1)=(-1)*(l*(x2-x1)-(y2-y1)) :=
 rid [x1,y1,x2,y2,l] ((fun (x1 y1 x2 y2 l:PE)=>(-l*(x2-x1)-(-y2 - -y1))) (.v 0) (.v 1) (.v 2) (.v 3) (.v 4)) ((fun (x1 y1 x2 y2 l:PE)=>((-1)*(l*(x2-x1)-(y2-y1)))) (.v 0) (.v 1) (.v 2) (.v 3) (.v 4)) (by kernel_rfl)
theorem i_m2 {F:Type} [Rg F] (x1 y1 x2 y2 l:F) : -l*(-y1 + -y2)-(x1*x1+x1*x2+x2*x2)=1*(l*(y1+y2)-(x1*x1+x1*x2+x2*x2)) :=
 rid [x1,y1,x2,y2,l] ((fun (x1 y1 x2 y2 l:PE)=>(-l*(-y1 + -y2)-(x1*x1+x1*x2+x2*x2))) (.v 0) (.v 1) (.v 2) (.v 3) (.v 4)) ((fun (x1 y1 x2 y2 l:PE)=>(1*(l*(y1+y2)-(x1*x1+x1*x2+x2*x2)))) (.v 0) (.v 1) (.v 2) (.v 3) (.v 4)) (by kernel_rfl)
theorem i_m3 {F:Type} [Rg F] (x1 x2 l:F):l*l-x1-x2=-l * -l-x1-x2 :=
 rid [x1,x2,l] ((fun (x1 x2 l:PE)=>(l*l-x1-x2)) (.v 0) (.v 1) (.v 2)) ((fun (x1 x2 l:PE)=>(-l * -l-x1-x2)) (.v 0) (.v 1) (.v 2)) (by kernel_rfl)
theorem i_m4 {F:Type} [Rg F] (x1 y1 x2 l:F) : - -(y1+l*((l*l-x1-x2)-x1))=-(-y1 + -l*((-l * -l-x1-x2)-x1)) :=
 rid [x1,y1,x2,l] ((fun (x1 y1 x2 l:PE)=>(- -(y1+l*((l*l-x1-x2)-x1)))) (.v 0) (.v 1) (.v 2) (.v 3)) ((fun (x1 y1 x2 l:PE)=>(-(-y1 + -l*((-l * -l-x1-x2)-x1)))) (.v 0) (.v 1) (.v 2) (.v 3)) (by kernel_rfl)
theorem i_T1 {F:Type} [Rg F] (xP xQ l m:F):xP+xQ+((l*l-xP-xQ)+l*m)=(l+m)*l :=
 rid [xP,xQ,l,m] ((fun (xP xQ l m:PE)=>(xP+xQ+((l*l-xP-xQ)+l*m))) (.v 0) (.v 1) (.v 2) (.v 3)) ((fun (xP xQ l m:PE)=>((l+m)*l)) (.v 0) (.v 1) (.v 2) (.v 3)) (by kernel_rfl)
theorem i_S {F:Type} [Rg F] (xP xQ xR l m:F):m*m-(l*l-xP-xQ)-xR=(l+m)*(l+m)-(((l*l-xP-xQ)+l*m)+((l*l-xP-xQ)+l*m))-(xP+xQ+xR) :=
 rid [xP,xQ,xR,l,m] ((fun (xP xQ xR l m:PE)=>(m*m-(l*l-xP-xQ)-xR)) (.v 0) (.v 1) (.v 2) (.v 3) (.v 4)) ((fun (xP xQ xR l m:PE)=>((l+m)*(l+m)-(((l*l-xP-xQ)+l*m)+((l*l-xP-xQ)+l*m))-(xP+xQ+xR))) (.v 0) (.v 1) (.v 2) (.v 3) (.v 4)) (by kernel_rfl)
section
variable {F:Type} [Fd F] {b:F}
theorem sq_zero {a:F} (h:a*a=0):a=0:=(mul_eq_zero h).elim id id
theorem three_zero {a:F} (h:a+a+a=0):a=0:=by
 have:(1+1+1)*a=0:=by rw[add_mul,add_mul,one_mul];exact h
 exact (mul_eq_zero this).resolve_left three_ne
theorem eq_neg_self {a:F} (h:a=-a):a=0:=double_eq_zero (by
 have:=sub_of_eq h
 rwa [sub_def,neg_neg] at this)
theorem Ln.symm {x1 y1 x2 y2 l:F} (h:Ln x1 y1 x2 y2 l):Ln x2 y2 x1 y1 l:=⟨lc1 _ (i_sym1 x1 y1 x2 y2 l) h.1,lc1 _ (i_sym2 x1 y1 x2 y2 l) h.2⟩
theorem sx_symm (x1 x2 l:F):sx x1 x2 l=sx x2 x1 l:=i_symx x1 x2 l
theorem sy_symm {x1 y1 x2 y2 l:F} (h:Ln x1 y1 x2 y2 l):sy x1 y1 x2 l=sy x2 y2 x1 l:=lc1 _ (i_symy x1 y1 x2 y2 l) h.1
theorem Ln.third {x1 y1 x2 y2 l:F} (h:Ln x1 y1 x2 y2 l):Ln x1 y1 (sx x1 x2 l) (-sy x1 y1 x2 l) l :=
 ⟨i_third1 x1 y1 x2 l,lc2 _ _ (i_third x1 y1 x2 y2 l) h.2 h.1⟩
theorem Ln.third' {x1 y1 x2 y2 l:F} (h:Ln x1 y1 x2 y2 l):Ln x2 y2 (sx x1 x2 l) (-sy x1 y1 x2 l) l:=by
 have t:=h.symm.third
 rw[<- sx_symm x1 x2 l,<- sy_symm h] at t
 exact t
theorem Ln.sum_on {x1 y1 x2 y2 l:F} (h:Ln x1 y1 x2 y2 l) (h1:On b x1 y1):On b (sx x1 x2 l) (sy x1 y1 x2 l):=by
 unfold On sy
 rw[i_neg2]
 exact lc4 _ _ _ _ (i_on x1 y1 x2 y2 l (sx x1 x2 l) b) h1 h.2 h.1 rfl
theorem Ln.which {x1 y1 x2 y2 l x y:F} (h:Ln x1 y1 x2 y2 l) (h1:On b x1 y1) (ho:On b x y) (hy:y=y1+l*(x-x1)):x=x1\/x=x2\/x=sx x1 x2 l:=by
 have e:=i_on x1 y1 x2 y2 l x b
 rw[<- hy,sub_of_eq ho,sub_of_eq h1,sub_of_eq h.1,sub_of_eq h.2,mul_zero,mul_zero,mul_zero,zero_add,zero_add,zero_add] at e
 rcases mul_eq_zero e.symm with e|e
 ·rcases mul_eq_zero e with e|e
  ·exact .inl (eq_of_sub e)
  ·exact .inr (.inl (eq_of_sub e))
 ·exact .inr (.inr (eq_of_sub e).symm)
theorem Ln.not_neg (hb:b≠0) {x1 y1 x2 y2 l:F} (h:Ln x1 y1 x2 y2 l) (h1:On b x1 y1):¬(x1=x2/\y2=-y1):=by
 rintro⟨rfl,rfl⟩
 obtain⟨e1,e2⟩:=h
 rw[sub_self,mul_zero] at e1
 have hy:y1=0:=eq_neg_self (eq_of_sub e1.symm).symm
 subst hy
 rw[neg_zero,add_zero,mul_zero] at e2
 have hx:x1=0:=sq_zero (three_zero e2.symm)
 subst hx
 unfold On at h1
 rw[mul_zero,mul_zero,zero_add] at h1
 exact hb h1.symm
theorem Ln.unique (hb:b≠0) {x1 y1 x2 y2 l m:F} (h:Ln x1 y1 x2 y2 l) (k:Ln x1 y1 x2 y2 m) (h1:On b x1 y1):l=m:=by
 by_cases hx:x2-x1=0
 ·by_cases hy:y1+y2=0
  ·exact absurd ⟨(eq_of_sub hx).symm,(neg_eq hy).symm⟩ (h.not_neg hb h1)
  ·refine mul_left hy ?_
   rw[mul_comm _ l,h.2,mul_comm _ m,k.2]
 ·refine mul_left hx ?_
  rw[mul_comm _ l,h.1,mul_comm _ m,k.1]
def slope (x1 y1 x2 y2:F):F:=if x1=x2 then (x1*x1+x1*x1+x1*x1)*inv (y1+y1) else (y2-y1)*inv (x2-x1)
theorem slope_ln {x1 y1 x2 y2:F} (h1:On b x1 y1) (h2:On b x2 y2) (hn:¬(x1=x2/\y2=-y1)):Ln x1 y1 x2 y2 (slope x1 y1 x2 y2):=by
 unfold slope
 split
 ·rename_i hx
  subst hx
  have e:(y2-y1)*(y2+y1)=0:=by
   have:(y2-y1)*(y2+y1)=y2*y2-y1*y1:=i_dsq y2 y1
   rw[this,h1,h2,sub_self]
  rcases mul_eq_zero e with e|e
  ·have e:=eq_of_sub e
   subst e
   have hy:y2+y2≠0:=fun h=>hn ⟨rfl,(neg_eq h).symm⟩
   refine⟨by rw[sub_self,sub_self,mul_zero],?_⟩
   rw[mul_assoc,mul_comm (inv _),mul_inv _ hy,mul_one]
  ·exact absurd ⟨rfl,(neg_eq (by rw[add_comm];exact e)).symm⟩ hn
 ·rename_i hx
  have hd:x2-x1≠0:=sub_ne (fun e=>hx e.symm)
  have e1:(y2-y1)*inv (x2-x1)*(x2-x1)=y2-y1:=by rw[mul_assoc,mul_comm (inv _),mul_inv _ hd,mul_one]
  refine⟨e1,?_⟩
  generalize (y2-y1)*inv (x2-x1)=l at *
  have:=lc3 _ _ _ (i_chord x1 y1 x2 y2 l 0 b) e1 h2 h1
  exact eq_of_sub ((mul_eq_zero this).resolve_right hd)
def fn (u v l m x y:F):F:=x*x+(u+l*m)*x+(u*u-l*m*u+(l-m)*v)-(l+m)*y
theorem fn1 {u v l m x y:F} (h:Ln x y u (-v) l):fn u v l m x y=0:=lc2 _ _ (i_f1 x y u v l m) h.2 h.1
theorem fn2 {u v l m x y:F} (h:Ln u v x y m):fn u v l m x y=0:=lc2 _ _ (i_f2 x y u v l m) h.2 h.1
theorem same {a1 a0 g b1 b0 h l xP yP xQ xR yR:F} (f1P:xP*xP+a1*xP+a0-g*yP=0) (f1R:xR*xR+a1*xR+a0-g*yR=0) (f2P:xP*xP+b1*xP+b0-h*yP=0) (f2R:xR*xR+b1*xR+b0-h*yR=0)
  (T1:xP+xQ+a1=g*l) (T2:xP+xQ+b1=h*l) (hne:yR≠yP+l*(xR-xP)):a1=b1/\a0=b0/\g=h:=by
 have e:=i_h a1 a0 g b1 b0 h l xP yP xQ xR yR
 rw[f1P,f1R,f2P,f2R,sub_of_eq T1,sub_of_eq T2,sub_self,sub_self,add_zero,mul_zero,sub_self] at e
 have hg:g=h:=by
  rcases mul_eq_zero e with e|e
  ·exact eq_of_sub e
  ·exfalso
   have:=eq_of_sub e
   exact hne (by rw[this,sub_def,add_comm,add_assoc,neg_add,add_zero])
 subst hg
 have h1:=lc2 _ _ (i_a1 a1 b1 g l xP xQ) T1 T2
 subst h1
 exact⟨rfl,lc2 _ _ (i_a0 a0 b0 a1 g xP yP) f1P f2P,rfl⟩
theorem g_ne {a1 a0 g l xP yP xQ xR yR:F} (f1P:xP*xP+a1*xP+a0-g*yP=0) (f1R:xR*xR+a1*xR+a0-g*yR=0) (T1:xP+xQ+a1=g*l) (h1:xR≠xP) (h2:xR≠xQ):g≠0:=by
 intro hg
 subst hg
 have e:=i_g a1 a0 xP yP xR yR
 rw[f1P,f1R,sub_self] at e
 rcases mul_eq_zero e with e|e
 ·exact h1 (eq_of_sub e)
 ·exact h2 (lc2 _ _ (i_g2 a1 xP xQ xR l) e T1)
theorem main {xP yP xQ yQ xR yR l m u v l' m' s t:F} (hb:b≠0) (oP:On b xP yP) (oR:On b xR yR) (hl:Ln xP yP xQ yQ l) (hm:Ln (sx xP xQ l) (sy xP yP xQ l) xR yR m)
  (T2:xP+xQ+(u+l'*m')=(l'+m')*l) (f2P:fn u v l' m' xP yP=0) (f2R:fn u v l' m' xR yR=0) (f2S:fn u v l' m' s (-t)=0)
  (hs:s=(l'+m')*(l'+m')-((u+l'*m')+(u+l'*m'))-(xP+xQ+xR)) (h1:xR≠xP) (h2:xR≠xQ) :
  sx (sx xP xQ l) xR m=s/\sy (sx xP xQ l) (sy xP yP xQ l) xR m=t:=by
 have f1P:fn (sx xP xQ l) (sy xP yP xQ l) l m xP yP=0:=fn1 hl.third
 have f1R:fn (sx xP xQ l) (sy xP yP xQ l) l m xR yR=0:=fn2 hm
 have f1S:fn (sx xP xQ l) (sy xP yP xQ l) l m (sx (sx xP xQ l) xR m) (-sy (sx xP xQ l) (sy xP yP xQ l) xR m)=0:=fn2 hm.third
 have T1:xP+xQ+(sx xP xQ l+l*m)=(l+m)*l:=i_T1 xP xQ l m
 have hne:yR≠yP+l*(xR-xP):=by
  intro hy
  rcases hl.which oP oR hy with e|e|e
  ·exact h1 e
  ·exact h2 e
  ·refine hm.not_neg hb (hl.sum_on oP) ⟨e.symm,?_⟩
   unfold sy
   rw[neg_neg,<- e]
   exact hy
 have hg:=g_ne f1P f1R T1 h1 h2
 obtain⟨e1,e2,e3⟩:=same f1P f1R f2P f2R T1 T2 hne
 have hS:sx (sx xP xQ l) xR m=s:=by
  rw[hs,<- e1,<- e3]
  exact i_S xP xQ xR l m
 refine⟨hS,?_⟩
 rw[hS] at f1S
 unfold fn at f1S f2S
 rw[<- e1,<- e2,<- e3] at f2S
 have:=lc2 _ _ (i_y _ _ _ s _ t) f1S f2S
 exact eq_of_sub ((mul_eq_zero this).resolve_left hg)
abbrev O2:F × F:=(0,0)
def pneg (P:F × F):F × F:=(P.1,-P.2)
def padd (P Q:F × F):F × F :=
 if P=O2 then Q else if Q=O2 then P else if P.1=Q.1/\Q.2=-P.2 then O2 else (sx P.1 Q.1 (slope P.1 P.2 Q.1 Q.2),sy P.1 P.2 Q.1 (slope P.1 P.2 Q.1 Q.2))
def OnP (b:F) (P:F × F):Prop:=P=O2\/On b P.1 P.2
abbrev LnP (P Q:F × F) (l:F):Prop:=Ln P.1 P.2 Q.1 Q.2 l
abbrev OnF (b:F) (P:F × F):Prop:=On b P.1 P.2
variable (hb:b≠0)
include hb
theorem on_ne {P:F × F} (h:OnF b P):P≠O2:=by
 rintro rfl
 have h:(0:F)*0=0*0*0+b:=h
 rw[mul_zero,mul_zero,zero_add] at h
 exact hb h.symm
omit hb in
theorem pneg_O:pneg (O2:F × F)=O2:=by show ((0:F),-(0:F))=_;rw[neg_zero]
omit hb in
theorem pneg_pneg (P:F × F):pneg (pneg P)=P:=by show (P.1,- -P.2)=P;rw[neg_neg]
omit hb in
theorem pneg_on {P:F × F} (h:OnF b P):OnF b (pneg P):=by
 have h:P.2*P.2=P.1*P.1*P.1+b:=h
 show -P.2 * -P.2=P.1*P.1*P.1+b
 rw[i_neg2,h]
omit hb in
theorem pneg_onP {P:F × F} (h:OnP b P):OnP b (pneg P):=by
 rcases h with rfl|h
 ·exact .inl pneg_O
 ·exact .inr (pneg_on h)
theorem padd_ln {P Q:F × F} {l:F} (oP:OnF b P) (oQ:OnF b Q) (h:LnP P Q l):padd P Q=(sx P.1 Q.1 l,sy P.1 P.2 Q.1 l):=by
 unfold padd
 have hn:=h.not_neg hb oP
 rw[if_neg (on_ne hb oP),if_neg (on_ne hb oQ),if_neg hn,(slope_ln oP oQ hn).unique hb h oP]
omit hb in
theorem O_add (Q:F × F):padd O2 Q=Q:=by unfold padd;rw[if_pos rfl]
omit hb in
theorem add_O (P:F × F):padd P O2=P:=by
 unfold padd
 split
 ·rename_i h;exact h.symm
 ·rw[if_pos rfl]
omit hb in
theorem ln_or {P Q:F × F} (oP:OnF b P) (oQ:OnF b Q):Q=pneg P\/∃ l,LnP P Q l:=by
 by_cases h:P.1=Q.1/\Q.2=-P.2
 ·left;exact Prod.ext h.1.symm h.2
 ·exact .inr ⟨_,slope_ln oP oQ h⟩
omit hb in
theorem add_neg_self (P:F × F):padd P (pneg P)=O2:=by
 unfold padd
 split
 ·rename_i h;rw[h];exact pneg_O
 ·split
  ·rename_i h1 h2
   have:=congrArg pneg h2
   rw[pneg_pneg,pneg_O] at this
   exact absurd this h1
  ·rw[if_pos ⟨rfl,rfl⟩]
omit hb in
theorem neg_add_self (P:F × F):padd (pneg P) P=O2:=by
 have:=add_neg_self (pneg P)
 rwa [pneg_pneg] at this
theorem padd_on {P Q:F × F} (oP:OnP b P) (oQ:OnP b Q):OnP b (padd P Q):=by
 rcases oP with rfl|oP
 ·rw[O_add];exact oQ
 ·rcases oQ with rfl|oQ
  ·rw[add_O];exact .inr oP
  ·rcases ln_or oP oQ with rfl|⟨l,h⟩
   ·rw[add_neg_self];exact .inl rfl
   ·rw[padd_ln hb oP oQ h];exact .inr (h.sum_on oP)
theorem padd_comm {P Q:F × F} (oP:OnP b P) (oQ:OnP b Q):padd P Q=padd Q P:=by
 rcases oP with rfl|oP
 ·rw[O_add,add_O]
 ·rcases oQ with rfl|oQ
  ·rw[O_add,add_O]
  ·rcases ln_or oP oQ with rfl|⟨l,h⟩
   ·rw[add_neg_self,neg_add_self]
   ·rw[padd_ln hb oP oQ h,padd_ln hb oQ oP h.symm,sx_symm,sy_symm h]
theorem cancel {P Q:F × F} (oP:OnP b P) (oQ:OnP b Q):padd (pneg P) (padd P Q)=Q:=by
 rcases oP with rfl|oP
 ·rw[pneg_O,O_add,O_add]
 ·rcases oQ with rfl|oQ
  ·rw[add_O,neg_add_self]
  ·rcases ln_or oP oQ with rfl|⟨l,h⟩
   ·rw[add_neg_self,add_O]
   ·rw[padd_ln hb oP oQ h]
    have ht:=h.third
    have hn:LnP (pneg P) (sx P.1 Q.1 l,sy P.1 P.2 Q.1 l) (-l):=⟨lc1 _ (i_n1 P.1 P.2 _ _ l) ht.1,lc1 _ (i_n2 P.1 P.2 _ _ l) ht.2⟩
    rw[padd_ln hb (pneg_on oP) (h.sum_on oP) hn]
    have ex:sx P.1 (sx P.1 Q.1 l) (-l)=Q.1:=i_c1 P.1 Q.1 l
    refine Prod.ext ex ?_
    show -(-P.2 + -l*(sx P.1 (sx P.1 Q.1 l) (-l)-P.1))=Q.2
    rw[ex]
    exact lc1 _ (i_c2 P.1 P.2 Q.1 Q.2 l) h.1
theorem assoc_two {P R:F × F} (oP:OnF b P) (oR:OnF b R) (h1:R.1≠P.1) {l m l' m':F} (hl:LnP P P l) (hm:LnP (sx P.1 P.1 l,sy P.1 P.2 P.1 l) R m) (hl':LnP P R l') (hm':LnP P (sx P.1 R.1 l',sy P.1 P.2 R.1 l') m') :
  padd (padd P P) R=padd P (padd P R):=by
 rw[padd_ln hb oP oP hl,padd_ln hb oP oR hl',padd_ln hb (hl.sum_on oP) oR hm,padd_ln hb oP (hl'.sum_on oP) hm']
 have hV:sx P.1 R.1 l'≠P.1:=by
  intro e
  have hn:=hm'.not_neg hb oP
  have oV:On b (sx P.1 R.1 l') (sy P.1 P.2 R.1 l'):=hl'.sum_on oP
  have e2:sy P.1 P.2 R.1 l'=P.2:=by
   have:(sy P.1 P.2 R.1 l'-P.2)*(sy P.1 P.2 R.1 l'+P.2)=0:=by
    have oV:sy P.1 P.2 R.1 l'*sy P.1 P.2 R.1 l'=_:=oV
    have oP:P.2*P.2=P.1*P.1*P.1+b:=oP
    rw[i_dsq,oV,oP,e,sub_self]
   rcases mul_eq_zero this with h|h
   ·exact eq_of_sub h
   ·exact absurd ⟨e.symm,(neg_eq (by rw[add_comm];exact h)).symm⟩ hn
  have hc:=cancel hb (.inr oP) (.inr oR)
  rw[padd_ln hb oP oR hl',e,e2] at hc
  have:padd (pneg P) P=R:=hc
  rw[neg_add_self] at this
  exact on_ne hb oR this.symm
 have T2:P.1+P.1+(sx P.1 R.1 l'+l'*m')=(l'+m')*l:=by
  have e:=lc4 _ _ _ _ (i_t3 P.1 P.2 (sx P.1 R.1 l') (sy P.1 P.2 R.1 l') l' m' l) hl'.third.1 hm'.1 hl'.third.2 hl.2
  exact eq_of_sub ((mul_eq_zero e).resolve_left (sub_ne hV))
 obtain⟨e1,e2⟩:=main (u:=sx P.1 R.1 l') (v:=sy P.1 P.2 R.1 l') (l':=l') (m':=m') (s:=sx P.1 (sx P.1 R.1 l') m') (t:=sy P.1 P.2 (sx P.1 R.1 l') m') hb oP oR hl hm T2 (fn1 hl'.third)
  (fn1 hl'.third')
  (fn2 hm'.third') ((sx_symm _ _ _).trans ((i_S P.1 R.1 P.1 l' m').trans (i_perm _ _ _ _))) h1 h1
 exact Prod.ext e1 e2
theorem assoc_three {P Q R:F × F} (oP:OnF b P) (oQ:OnF b Q) (oR:OnF b R) (h0:Q.1≠P.1) (h1:R.1≠P.1) (h2:R.1≠Q.1) {l m l' m':F} (hl:LnP P Q l) (hm:LnP (sx P.1 Q.1 l,sy P.1 P.2 Q.1 l) R m) (hl':LnP Q R l') (hm':LnP P (sx Q.1 R.1 l',sy Q.1 Q.2 R.1 l') m') :
  padd (padd P Q) R=padd P (padd Q R):=by
 rw[padd_ln hb oP oQ hl,padd_ln hb oQ oR hl',padd_ln hb (hl.sum_on oP) oR hm,padd_ln hb oP (hl'.sum_on oQ) hm']
 have f2P:fn (sx Q.1 R.1 l') (sy Q.1 Q.2 R.1 l') l' m' P.1 P.2=0:=fn2 hm'.symm
 have f2Q:fn (sx Q.1 R.1 l') (sy Q.1 Q.2 R.1 l') l' m' Q.1 Q.2=0:=fn1 hl'.third
 have T2:P.1+Q.1+(sx Q.1 R.1 l'+l'*m')=(l'+m')*l:=by
  have e:=lc3 _ _ _ (i_t2 P.1 Q.1 (sx Q.1 R.1 l'+l'*m') (l'+m') l P.2 Q.2 _) f2Q f2P hl.1
  exact eq_of_sub ((mul_eq_zero e).resolve_left (sub_ne h0))
 obtain⟨e1,e2⟩:=main (u:=sx Q.1 R.1 l') (v:=sy Q.1 Q.2 R.1 l') (l':=l') (m':=m') (s:=sx P.1 (sx Q.1 R.1 l') m') (t:=sy P.1 P.2 (sx Q.1 R.1 l') m') hb oP oR hl hm T2 f2P
  (fn1 hl'.third')
  (fn2 hm'.third') ((sx_symm _ _ _).trans ((i_S Q.1 R.1 P.1 l' m').trans (i_perm2 _ _ _ _ _))) h1 h2
 exact Prod.ext e1 e2
theorem pneg_add {P Q:F × F} (oP:OnP b P) (oQ:OnP b Q):pneg (padd P Q)=padd (pneg P) (pneg Q):=by
 rcases oP with rfl|oP
 ·rw[O_add,pneg_O,O_add]
 ·rcases oQ with rfl|oQ
  ·rw[add_O,pneg_O,add_O]
  ·rcases ln_or oP oQ with rfl|⟨l,h⟩
   ·rw[add_neg_self,pneg_pneg,neg_add_self,pneg_O]
   ·have hn:LnP (pneg P) (pneg Q) (-l):=⟨lc1 _ (i_m1 P.1 P.2 Q.1 Q.2 l) h.1,lc1 _ (i_m2 P.1 P.2 Q.1 Q.2 l) h.2⟩
    rw[padd_ln hb oP oQ h,padd_ln hb (pneg_on oP) (pneg_on oQ) hn]
    exact Prod.ext (i_m3 P.1 Q.1 l) (i_m4 P.1 P.2 Q.1 l)
theorem cancel' {P Q:F × F} (oP:OnP b P) (oQ:OnP b Q):padd (padd P Q) (pneg Q)=P:=by
 rw[padd_comm hb (padd_on hb oP oQ) (pneg_onP oQ),padd_comm hb oP oQ,cancel hb oQ oP]
theorem turn {P Q R:F × F} (oP:OnP b P) (oQ:OnP b Q) (h:R=pneg (padd P Q)):padd Q R=pneg P:=by
 rw[h,pneg_add hb oP oQ,padd_comm hb (pneg_onP oP) (pneg_onP oQ)]
 have:=cancel hb (pneg_onP oQ) (pneg_onP oP)
 rwa [pneg_pneg] at this
omit hb in
theorem x_ne {P Q:F × F} (oP:OnF b P) (oQ:OnF b Q) (h1:Q≠P) (h2:Q≠pneg P):Q.1≠P.1:=by
 intro e
 have oP':P.2*P.2=P.1*P.1*P.1+b:=oP
 have oQ':Q.2*Q.2=Q.1*Q.1*Q.1+b:=oQ
 have:(Q.2-P.2)*(Q.2+P.2)=0:=by rw[i_dsq,oP',oQ',e,sub_self]
 rcases mul_eq_zero this with h|h
 ·exact h1 (Prod.ext e (eq_of_sub h))
 ·exact h2 (Prod.ext e (neg_eq (by rw[add_comm];exact h)).symm)
theorem padd_assoc {P Q R:F × F} (oP:OnP b P) (oQ:OnP b Q) (oR:OnP b R):padd (padd P Q) R=padd P (padd Q R):=by
 have oPQ:=padd_on hb oP oQ
 have oQR:=padd_on hb oQ oR
 by_cases c1:Q=pneg P
 ·have:padd P (padd (pneg P) R)=R:=by
   have:=cancel hb (pneg_onP oP) oR
   rwa [pneg_pneg] at this
  rw[c1,add_neg_self,O_add,this]
 by_cases c2:R=pneg Q
 ·rw[c2,add_neg_self,add_O,cancel' hb oP oQ]
 by_cases c3:R=P
 ·rw[c3,padd_comm hb oPQ oP,padd_comm hb oP oQ]
 by_cases c4:R=pneg P
 ·have e:padd P (padd Q (pneg P))=Q:=by
   rw[padd_comm hb oQ (pneg_onP oP)]
   have:=cancel hb (pneg_onP oP) oQ
   rwa [pneg_pneg] at this
  rw[c4,e,padd_comm hb oP oQ,cancel' hb oQ oP]
 by_cases c5:R=pneg (padd P Q)
 ·rw[turn hb oP oQ c5,add_neg_self]
  rw[c5,add_neg_self]
 by_cases c6:padd Q R=pneg P
 ·rw[c6,add_neg_self]
  have h1:P=pneg (padd Q R):=by rw[c6,pneg_pneg]
  have h2:=turn hb oQ oR h1
  have h3:padd R P=pneg Q:=h2
  have h4:Q=pneg (padd R P):=by rw[h3,pneg_pneg]
  have h5:=turn hb oR oP h4
  rw[h5,neg_add_self]
 rcases oP with rfl|oP
 ·rw[O_add,O_add]
 rcases oQ with rfl|oQ
 ·rw[O_add,add_O]
 rcases oR with rfl|oR
 ·rw[add_O,add_O]
 obtain⟨l,hl⟩:=(ln_or oP oQ).resolve_left c1
 obtain⟨l',hl'⟩:=(ln_or oQ oR).resolve_left c2
 have eU:=padd_ln hb oP oQ hl
 have eV:=padd_ln hb oQ oR hl'
 have oU:OnF b (padd P Q):=by rw[eU];exact hl.sum_on oP
 have oV:OnF b (padd Q R):=by rw[eV];exact hl'.sum_on oQ
 obtain⟨m,hm⟩:=(ln_or oU oR).resolve_left c5
 obtain⟨m',hm'⟩:=(ln_or oP oV).resolve_left c6
 rw[eU] at hm
 rw[eV] at hm'
 have n1:R.1≠P.1:=x_ne oP oR c3 c4
 by_cases c7:Q=P
 ·subst c7
  exact assoc_two hb oP oR n1 hl hm hl' hm'
 by_cases c8:R=Q
 ·subst c8
  have k:=hl.symm
  rw[padd_comm hb oPQ (.inr oR),padd_comm hb (.inr oP) (.inr oR),padd_comm hb (.inr oP) oQR]
  have n2:P.1≠R.1:=fun e=>n1 e.symm
  refine (assoc_two hb oR oP n2 (m:=m') (m':=m) hl' hm'.symm k ?_).symm
  have hm:=hm.symm
  rw[sx_symm P.1,sy_symm hl] at hm
  exact hm
 exact assoc_three hb oP oQ oR (x_ne oP oQ c7 c1) n1 (x_ne oQ oR c8 c2) hl hm hl' hm'
end
end Cr
namespace Cr
open Rg Fd
section
variable {F:Type} [Fd F]
abbrev Jc (F:Type):=F × F × F
abbrev J0:Jc F:=(0,0,0)
def jlift (p:F × F):Jc F:=if p=O2 then J0 else (p.1,p.2,1)
def jpoint (a:Jc F):F × F:=if a.2.2=0 then O2 else (a.1*(inv a.2.2*inv a.2.2),a.2.1*(inv a.2.2*inv a.2.2)*inv a.2.2)
def jdX (x y:F):F:=(x*x+x*x+x*x)*(x*x+x*x+x*x)-(x*(y*y)+x*(y*y)+(x*(y*y)+x*(y*y)))-(x*(y*y)+x*(y*y)+(x*(y*y)+x*(y*y)))
def jdbN (a:Jc F):Jc F :=
 (jdX a.1 a.2.1,
  (a.1*a.1+a.1*a.1+a.1*a.1)*(a.1*(a.2.1*a.2.1)+a.1*(a.2.1*a.2.1)+(a.1*(a.2.1*a.2.1)+a.1*(a.2.1*a.2.1))-jdX a.1 a.2.1)-(a.2.1*a.2.1+a.2.1*a.2.1)*(a.2.1*a.2.1+a.2.1*a.2.1)-(a.2.1*a.2.1+a.2.1*a.2.1)*(a.2.1*a.2.1+a.2.1*a.2.1),
  a.2.1*a.2.2+a.2.1*a.2.2)
def jdbl (a:Jc F):Jc F:=if a.2.2=0 then J0 else jdbN a
def jaX (wide rise left:F):F:=rise*rise-wide*wide*wide-left*(wide*wide)-left*(wide*wide)
def jfin (wide rise left low z1 z2:F):Jc F :=
 (jaX wide rise left,rise*(left*(wide*wide)-jaX wide rise left)-low*(wide*wide*wide),z1*z2*wide)
def jadd (a b:Jc F):Jc F:=if a.2.2=0 then b else if b.2.2=0 then a else
 if b.1*(a.2.2*a.2.2)-a.1*(b.2.2*b.2.2)=0 then
  (if b.2.1*(a.2.2*a.2.2)*a.2.2-a.2.1*(b.2.2*b.2.2)*b.2.2=0 then jdbl a else J0)
 else jfin (b.1*(a.2.2*a.2.2)-a.1*(b.2.2*b.2.2)) (b.2.1*(a.2.2*a.2.2)*a.2.2-a.2.1*(b.2.2*b.2.2)*b.2.2) (a.1*(b.2.2*b.2.2)) (a.2.1*(b.2.2*b.2.2)*b.2.2) a.2.2 b.2.2
end
theorem j_slope {F:Type} [Rg F] (X Y z l:F):(X*(z*z)*(X*(z*z))+X*(z*z)*(X*(z*z))+X*(z*z)*(X*(z*z)))-l*(Y*(z*(z*z))*z+Y*(z*(z*z))*z)=(-(z*z*z*z))*(l*(Y+Y)-(X*X+X*X+X*X)) :=
 rid [X,Y,z,l] ((fun (X Y z l:PE)=>((X*(z*z)*(X*(z*z))+X*(z*z)*(X*(z*z))+X*(z*z)*(X*(z*z)))-l*(Y*(z*(z*z))*z+Y*(z*(z*z))*z))) (.v 0) (.v 1) (.v 2) (.v 3)) ((fun (X Y z l:PE)=>((-(z*z*z*z))*(l*(Y+Y)-(X*X+X*X+X*X)))) (.v 0) (.v 1) (.v 2) (.v 3)) (by kernel_rfl)
theorem j_mid {F:Type} [Rg F] (X Y z:F):X*(z*z)*(Y*(z*(z*z))*(Y*(z*(z*z))))+X*(z*z)*(Y*(z*(z*z))*(Y*(z*(z*z))))+(X*(z*z)*(Y*(z*(z*z))*(Y*(z*(z*z))))+X*(z*z)*(Y*(z*(z*z))*(Y*(z*(z*z)))))=X*((Y*(z*(z*z))*z+Y*(z*(z*z))*z)*(Y*(z*(z*z))*z+Y*(z*(z*z))*z)) :=
 rid [X,Y,z] ((fun (X Y z:PE)=>(X*(z*z)*(Y*(z*(z*z))*(Y*(z*(z*z))))+X*(z*z)*(Y*(z*(z*z))*(Y*(z*(z*z))))+(X*(z*z)*(Y*(z*(z*z))*(Y*(z*(z*z))))+X*(z*z)*(Y*(z*(z*z))*(Y*(z*(z*z))))))) (.v 0) (.v 1) (.v 2)) ((fun (X Y z:PE)=>(X*((Y*(z*(z*z))*z+Y*(z*(z*z))*z)*(Y*(z*(z*z))*z+Y*(z*(z*z))*z)))) (.v 0) (.v 1) (.v 2)) (by kernel_rfl)
theorem j_fall {F:Type} [Rg F] (Y z:F):(Y*(z*(z*z))*(Y*(z*(z*z)))+Y*(z*(z*z))*(Y*(z*(z*z))))*(Y*(z*(z*z))*(Y*(z*(z*z)))+Y*(z*(z*z))*(Y*(z*(z*z))))+(Y*(z*(z*z))*(Y*(z*(z*z)))+Y*(z*(z*z))*(Y*(z*(z*z))))*(Y*(z*(z*z))*(Y*(z*(z*z)))+Y*(z*(z*z))*(Y*(z*(z*z))))=Y*((Y*(z*(z*z))*z+Y*(z*(z*z))*z)*((Y*(z*(z*z))*z+Y*(z*(z*z))*z)*(Y*(z*(z*z))*z+Y*(z*(z*z))*z))) :=
 rid [Y,z] ((fun (Y z:PE)=>((Y*(z*(z*z))*(Y*(z*(z*z)))+Y*(z*(z*z))*(Y*(z*(z*z))))*(Y*(z*(z*z))*(Y*(z*(z*z)))+Y*(z*(z*z))*(Y*(z*(z*z))))+(Y*(z*(z*z))*(Y*(z*(z*z)))+Y*(z*(z*z))*(Y*(z*(z*z))))*(Y*(z*(z*z))*(Y*(z*(z*z)))+Y*(z*(z*z))*(Y*(z*(z*z)))))) (.v 0) (.v 1)) ((fun (Y z:PE)=>(Y*((Y*(z*(z*z))*z+Y*(z*(z*z))*z)*((Y*(z*(z*z))*z+Y*(z*(z*z))*z)*(Y*(z*(z*z))*z+Y*(z*(z*z))*z))))) (.v 0) (.v 1)) (by kernel_rfl)
theorem j_x {F:Type} [Rg F] (X Z l:F):l*Z*(l*Z)-X*(Z*Z)-X*(Z*Z)=(l*l-X-X)*(Z*Z) :=
 rid [X,Z,l] ((fun (X Z l:PE)=>(l*Z*(l*Z)-X*(Z*Z)-X*(Z*Z))) (.v 0) (.v 1) (.v 2)) ((fun (X Z l:PE)=>((l*l-X-X)*(Z*Z))) (.v 0) (.v 1) (.v 2)) (by kernel_rfl)
theorem j_y {F:Type} [Rg F] (X Y Z l s:F):l*Z*(X*(Z*Z)-s*(Z*Z))-Y*(Z*(Z*Z))=-(Y+l*(s-X))*(Z*(Z*Z)) :=
 rid [X,Y,Z,l,s] ((fun (X Y Z l s:PE)=>(l*Z*(X*(Z*Z)-s*(Z*Z))-Y*(Z*(Z*Z)))) (.v 0) (.v 1) (.v 2) (.v 3) (.v 4)) ((fun (X Y Z l s:PE)=>(-(Y+l*(s-X))*(Z*(Z*Z)))) (.v 0) (.v 1) (.v 2) (.v 3) (.v 4)) (by kernel_rfl)
theorem j_subsub {F:Type} [Rg F] (a f:F):a-f-f=a-(f+f) :=
 rid [a,f] ((fun (a f:PE)=>(a-f-f)) (.v 0) (.v 1)) ((fun (a f:PE)=>(a-(f+f))) (.v 0) (.v 1)) (by kernel_rfl)
theorem j_z {F:Type} [Rg F] (Y z:F):Y*(z*(z*z))*z+Y*(z*(z*z))*z=(Y+Y)*(z*z*(z*z)) :=
 rid [Y,z] ((fun (Y z:PE)=>(Y*(z*(z*z))*z+Y*(z*(z*z))*z)) (.v 0) (.v 1)) ((fun (Y z:PE)=>((Y+Y)*(z*z*(z*z)))) (.v 0) (.v 1)) (by kernel_rfl)
theorem j_wide {F:Type} [Rg F] (X1 X2 z1 z2:F):X2*(z2*z2)*(z1*z1)-X1*(z1*z1)*(z2*z2)=(X2-X1)*(z1*z2*(z1*z2)) :=
 rid [X1,X2,z1,z2] ((fun (X1 X2 z1 z2:PE)=>(X2*(z2*z2)*(z1*z1)-X1*(z1*z1)*(z2*z2))) (.v 0) (.v 1) (.v 2) (.v 3)) ((fun (X1 X2 z1 z2:PE)=>((X2-X1)*(z1*z2*(z1*z2)))) (.v 0) (.v 1) (.v 2) (.v 3)) (by kernel_rfl)
theorem j_rise {F:Type} [Rg F] (Y1 Y2 z1 z2:F):Y2*(z2*(z2*z2))*(z1*z1)*z1-Y1*(z1*(z1*z1))*(z2*z2)*z2=(Y2-Y1)*(z1*z2*(z1*z2*(z1*z2))) :=
 rid [Y1,Y2,z1,z2] ((fun (Y1 Y2 z1 z2:PE)=>(Y2*(z2*(z2*z2))*(z1*z1)*z1-Y1*(z1*(z1*z1))*(z2*z2)*z2)) (.v 0) (.v 1) (.v 2) (.v 3)) ((fun (Y1 Y2 z1 z2:PE)=>((Y2-Y1)*(z1*z2*(z1*z2*(z1*z2))))) (.v 0) (.v 1) (.v 2) (.v 3)) (by kernel_rfl)
theorem j_riseZ {F:Type} [Rg F] (X1 Y1 X2 Y2 w l:F):(Y2-Y1)*(w*(w*w))-l*(w*((X2-X1)*(w*w)))=(-(w*(w*w)))*(l*(X2-X1)-(Y2-Y1)) :=
 rid [X1,Y1,X2,Y2,w,l] ((fun (X1 Y1 X2 Y2 w l:PE)=>((Y2-Y1)*(w*(w*w))-l*(w*((X2-X1)*(w*w))))) (.v 0) (.v 1) (.v 2) (.v 3) (.v 4) (.v 5)) ((fun (X1 Y1 X2 Y2 w l:PE)=>((-(w*(w*w)))*(l*(X2-X1)-(Y2-Y1)))) (.v 0) (.v 1) (.v 2) (.v 3) (.v 4) (.v 5)) (by kernel_rfl)
theorem j_ax {F:Type} [Rg F] (X1 z1 z2 D l:F):l*(z1*z2*(D*(z1*z2*(z1*z2))))*(l*(z1*z2*(D*(z1*z2*(z1*z2)))))-D*(z1*z2*(z1*z2))*(D*(z1*z2*(z1*z2)))*(D*(z1*z2*(z1*z2)))-X1*(z1*z1)*(z2*z2)*(D*(z1*z2*(z1*z2))*(D*(z1*z2*(z1*z2))))-X1*(z1*z1)*(z2*z2)*(D*(z1*z2*(z1*z2))*(D*(z1*z2*(z1*z2))))=(l*l-D-X1-X1)*(z1*z2*(D*(z1*z2*(z1*z2)))*(z1*z2*(D*(z1*z2*(z1*z2))))) :=
 rid [X1,z1,z2,D,l] ((fun (X1 z1 z2 D l:PE)=>(l*(z1*z2*(D*(z1*z2*(z1*z2))))*(l*(z1*z2*(D*(z1*z2*(z1*z2)))))-D*(z1*z2*(z1*z2))*(D*(z1*z2*(z1*z2)))*(D*(z1*z2*(z1*z2)))-X1*(z1*z1)*(z2*z2)*(D*(z1*z2*(z1*z2))*(D*(z1*z2*(z1*z2))))-X1*(z1*z1)*(z2*z2)*(D*(z1*z2*(z1*z2))*(D*(z1*z2*(z1*z2)))))) (.v 0) (.v 1) (.v 2) (.v 3) (.v 4)) ((fun (X1 z1 z2 D l:PE)=>((l*l-D-X1-X1)*(z1*z2*(D*(z1*z2*(z1*z2)))*(z1*z2*(D*(z1*z2*(z1*z2))))))) (.v 0) (.v 1) (.v 2) (.v 3) (.v 4)) (by kernel_rfl)
theorem j_ay {F:Type} [Rg F] (X1 Y1 z1 z2 D l s:F):l*(z1*z2*(D*(z1*z2*(z1*z2))))*(X1*(z1*z1)*(z2*z2)*(D*(z1*z2*(z1*z2))*(D*(z1*z2*(z1*z2))))-s*(z1*z2*(D*(z1*z2*(z1*z2)))*(z1*z2*(D*(z1*z2*(z1*z2))))))-Y1*(z1*(z1*z1))*(z2*z2)*z2*(D*(z1*z2*(z1*z2))*(D*(z1*z2*(z1*z2)))*(D*(z1*z2*(z1*z2))))=-(Y1+l*(s-X1))*(z1*z2*(D*(z1*z2*(z1*z2)))*(z1*z2*(D*(z1*z2*(z1*z2)))*(z1*z2*(D*(z1*z2*(z1*z2)))))) :=
 rid [X1,Y1,z1,z2,D,l,s] ((fun (X1 Y1 z1 z2 D l s:PE)=>(l*(z1*z2*(D*(z1*z2*(z1*z2))))*(X1*(z1*z1)*(z2*z2)*(D*(z1*z2*(z1*z2))*(D*(z1*z2*(z1*z2))))-s*(z1*z2*(D*(z1*z2*(z1*z2)))*(z1*z2*(D*(z1*z2*(z1*z2))))))-Y1*(z1*(z1*z1))*(z2*z2)*z2*(D*(z1*z2*(z1*z2))*(D*(z1*z2*(z1*z2)))*(D*(z1*z2*(z1*z2)))))) (.v 0) (.v 1) (.v 2) (.v 3) (.v 4) (.v 5) (.v 6)) ((fun (X1 Y1 z1 z2 D l s:PE)=>(-(Y1+l*(s-X1))*(z1*z2*(D*(z1*z2*(z1*z2)))*(z1*z2*(D*(z1*z2*(z1*z2)))*(z1*z2*(D*(z1*z2*(z1*z2)))))))) (.v 0) (.v 1) (.v 2) (.v 3) (.v 4) (.v 5) (.v 6)) (by kernel_rfl)
theorem j_D {F:Type} [Rg F] (X1 X2 l:F):l*l-(X2-X1)-X1-X1=l*l-X1-X2 :=
 rid [X1,X2,l] ((fun (X1 X2 l:PE)=>(l*l-(X2-X1)-X1-X1)) (.v 0) (.v 1) (.v 2)) ((fun (X1 X2 l:PE)=>(l*l-X1-X2)) (.v 0) (.v 1) (.v 2)) (by kernel_rfl)
theorem j_p1 {F:Type} [Rg F] (X z i:F):X*(z*z)*(i*i)=X*(z*i*(z*i)) :=
 rid [X,z,i] ((fun (X z i:PE)=>(X*(z*z)*(i*i))) (.v 0) (.v 1) (.v 2)) ((fun (X z i:PE)=>(X*(z*i*(z*i)))) (.v 0) (.v 1) (.v 2)) (by kernel_rfl)
theorem j_p2 {F:Type} [Rg F] (Y z i:F):Y*(z*(z*z))*(i*i)*i=Y*(z*i*(z*i*(z*i))) :=
 rid [Y,z,i] ((fun (Y z i:PE)=>(Y*(z*(z*z))*(i*i)*i)) (.v 0) (.v 1) (.v 2)) ((fun (Y z i:PE)=>(Y*(z*i*(z*i*(z*i))))) (.v 0) (.v 1) (.v 2)) (by kernel_rfl)
section
variable {F:Type} [Fd F] {b:F}
def Rep (b:F) (a:Jc F) (P:F × F):Prop:=(a.2.2=0/\P=O2)\/(a.2.2≠0/\a.1=P.1*(a.2.2*a.2.2)/\a.2.1=P.2*(a.2.2*(a.2.2*a.2.2))/\OnF b P)
theorem Rep.on {a:Jc F} {P:F × F} (h:Rep b a P):OnP b P:=by
 rcases h with ⟨_,h⟩|⟨_,_,_,h⟩
 ·exact .inl h
 ·exact .inr h
theorem rep_lift {P:F × F} (h:OnP b P):Rep b (jlift P) P:=by
 unfold jlift
 split
 ·rename_i e;exact .inl ⟨rfl,e⟩
 ·rename_i e
  rcases h with h|h
  ·exact absurd h e
  ·refine .inr ⟨one_ne,?_,?_,h⟩
   ·show P.1=P.1*(1*1);rw[one_mul,mul_one]
   ·show P.2=P.2*(1*(1*1));rw[one_mul,one_mul,mul_one]
theorem rep_point {a:Jc F} {P:F × F} (h:Rep b a P):jpoint a=P:=by
 unfold jpoint
 rcases h with ⟨h,e⟩|⟨h,e1,e2,_⟩
 ·rw[if_pos h,e]
 ·rw[if_neg h]
  refine Prod.ext ?_ ?_
  ·show a.1*(inv a.2.2*inv a.2.2)=P.1
   rw[e1,j_p1,mul_inv _ h,one_mul,mul_one]
  ·show a.2.1*(inv a.2.2*inv a.2.2)*inv a.2.2=P.2
   rw[e2,j_p2,mul_inv _ h,one_mul,one_mul,mul_one]
theorem rep_dbl (hb:b≠0) {a:Jc F} {P:F × F} (h:Rep b a P):Rep b (jdbl a) (padd P P):=by
 unfold jdbl jdbN
 rcases h with ⟨h,rfl⟩|⟨h,e1,e2,oP⟩
 ·rw[if_pos h,O_add];exact .inl ⟨rfl,rfl⟩
 ·rw[if_neg h]
  obtain⟨x,y,z⟩:=a
  obtain⟨X,Y⟩:=P
  simp only at h e1 e2 ⊢
  subst e1 e2
  have hz:Y*(z*(z*z))*z+Y*(z*(z*z))*z=(Y+Y)*(z*z*(z*z)):=j_z Y z
  have hz4:z*z*(z*z)≠0:=mul_ne (mul_ne h h) (mul_ne h h)
  by_cases hY:Y=0
  ·subst hY
   left
   refine⟨?_,?_⟩
   ·show (0:F)*(z*(z*z))*z+0*(z*(z*z))*z=0
    rw[hz,add_zero,zero_mul]
   ·have:=add_neg_self ((X,0):F × F)
    rwa [show pneg ((X,0):F × F)=(X,0) from by show (X,-(0:F))=_;rw[neg_zero]] at this
  ·have hY2:Y+Y≠0:=fun e=>hY (double_eq_zero e)
   obtain⟨l,hl⟩:=(ln_or (P:=(X,Y)) (Q:=(X,Y)) oP oP).resolve_left (fun e=>hY (eq_neg_self (congrArg Prod.snd e)))
   right
   have ex:jdX (X*(z*z)) (Y*(z*(z*z)))=sx X X l*((Y*(z*(z*z))*z+Y*(z*(z*z))*z)*(Y*(z*(z*z))*z+Y*(z*(z*z))*z)):=by
    unfold jdX
    rw[j_mid X Y z,lc1 _ (j_slope X Y z l) hl.2]
    exact j_x _ _ _
   refine⟨?_,?_,?_,?_⟩
   ·show Y*(z*(z*z))*z+Y*(z*(z*z))*z≠0
    rw[hz];exact mul_ne hY2 hz4
   ·rw[padd_ln hb oP oP hl];exact ex
   ·rw[padd_ln hb oP oP hl]
    show _-_-_=sy X Y X l*_
    rw[j_subsub,j_fall Y z,ex,j_mid X Y z,lc1 _ (j_slope X Y z l) hl.2]
    exact j_y _ _ _ _ _
   ·rw[padd_ln hb oP oP hl];exact hl.sum_on oP
theorem rep_add (hb:b≠0) {a c:Jc F} {P Q:F × F} (h:Rep b a P) (k:Rep b c Q):Rep b (jadd a c) (padd P Q):=by
 have hd:=rep_dbl hb h
 unfold jadd
 rcases h with ⟨h,rfl⟩|⟨h,e1,e2,oP⟩
 ·rw[if_pos h,O_add];exact k
 ·rw[if_neg h]
  rcases k with ⟨k,rfl⟩|⟨k,f1,f2,oQ⟩
  ·rw[if_pos k,add_O];exact .inr ⟨h,e1,e2,oP⟩
  ·rw[if_neg k]
   obtain⟨x,y,z⟩:=a
   obtain⟨x',y',z'⟩:=c
   obtain⟨X,Y⟩:=P
   obtain⟨X',Y'⟩:=Q
   simp only at h k e1 e2 f1 f2 hd ⊢
   subst e1 e2 f1 f2
   rw[j_wide X X' z z',j_rise Y Y' z z']
   have hw:z*z'≠0:=mul_ne h k
   have hww:z*z'*(z*z')≠0:=mul_ne hw hw
   have hwww:z*z'*(z*z'*(z*z'))≠0:=mul_ne hw hww
   by_cases hX:X'-X=0
   ·rw[if_pos (by rw[hX,zero_mul])]
    have hX:=eq_of_sub hX
    subst hX
    by_cases hY:Y'-Y=0
    ·rw[if_pos (by rw[hY,zero_mul])]
     have hY:=eq_of_sub hY
     subst hY
     exact hd
    ·rw[if_neg (mul_ne hY hwww)]
     left
     refine⟨rfl,?_⟩
     rcases ln_or (P:=(X',Y)) (Q:=(X',Y')) oP oQ with e|⟨l,hl⟩
     ·rw[e,add_neg_self]
     ·exfalso
      have:=hl.1
      rw[sub_self,mul_zero] at this
      exact hY this.symm
   ·rw[if_neg (mul_ne hX hww)]
    obtain⟨l,hl⟩:=(ln_or (P:=(X,Y)) (Q:=(X',Y')) oP oQ).resolve_left (fun e=>hX (by rw[show X'=X from congrArg Prod.fst e,sub_self]))
    have er:(Y'-Y)*(z*z'*(z*z'*(z*z')))=l*(z*z'*((X'-X)*(z*z'*(z*z')))):=lc1 _ (j_riseZ X Y X' Y' (z*z') l) hl.1
    rw[er,padd_ln hb oP oQ hl]
    have ex:jaX ((X'-X)*(z*z'*(z*z'))) (l*(z*z'*((X'-X)*(z*z'*(z*z'))))) (X*(z*z)*(z'*z'))=sx X X' l*(z*z'*((X'-X)*(z*z'*(z*z')))*(z*z'*((X'-X)*(z*z'*(z*z'))))):=by
     unfold jaX
     rw[j_ax X z z' (X'-X) l,j_D]
     rfl
    right
    refine⟨mul_ne hw (mul_ne hX hww),ex,?_,hl.sum_on oP⟩
    show _*(_-jaX _ _ _)-_=sy X Y X' l*_
    rw[ex]
    exact j_ay _ _ _ _ _ _ _
end
end Cr
namespace Cr
def Prm (p:Nat):Prop:=1<p/\∀ d,d∣p->d=1\/d=p
theorem Prm.coprime {p k:Nat} (h:Prm p) (hk:¬ p∣k):Nat.Coprime p k:=by
 rcases h.2 (Nat.gcd p k) (Nat.gcd_dvd_left p k) with e|e
 ·exact e
 ·exact absurd (e▸Nat.gcd_dvd_right p k) hk
theorem Prm.dvd_mul {p a b:Nat} (h:Prm p) (hd:p∣a*b):p∣a\/p∣b:=by
 by_cases ha:p∣a
 ·exact .inl ha
 ·exact .inr ((h.coprime ha).dvd_of_dvd_mul_left hd)
def ch:Nat->Nat->Nat
 | _,0=>1
 | 0,_+1=>0
 | n+1,k+1=>ch n k+ch n (k+1)
theorem ch_zero (n:Nat):ch n 0=1:=by cases n<;>rfl
theorem ch_mul:∀ n k:Nat,(k+1)*ch (n+1) (k+1)=(n+1)*ch n k:=by
 intro n
 induction n with
 | zero =>
  intro k
  cases k with
  | zero=>rfl
  | succ k=>simp[ch]
 | succ n ih =>
  intro k
  cases k with
  | zero =>
   have h:(0+1)*ch (n+1) 1=(n+1)*ch n 0:=ih 0
   rw[ch_zero] at h
   show 1*(ch (n+1) 0+ch (n+1) 1)=(n+1+1)*ch (n+1) 0
   rw[ch_zero]
   omega
  | succ j =>
   have h1:=ih j
   have h2:=ih (j+1)
   have e1:ch (n+1+1) (j+1+1)=ch (n+1) (j+1)+ch (n+1) (j+1+1):=rfl
   have e2:ch (n+1) (j+1)=ch n j+ch n (j+1):=rfl
   rw[e1,Nat.mul_add,h2,Nat.add_mul (j+1) 1,h1,Nat.one_mul]
   rw[e2,Nat.mul_add,Nat.add_mul (n+1) 1,Nat.add_mul (n+1) 1]
   omega
theorem ch_self:∀ n:Nat,ch n n=1/\∀ k,n<k->ch n k=0:=by
 intro n
 induction n with
 | zero=>exact⟨rfl,fun k hk=>by cases k with|zero=>omega|succ k=>rfl⟩
 | succ n ih =>
  refine⟨?_,fun k hk=>?_⟩
  ·show ch n n+ch n (n+1)=1
   rw[ih.1,ih.2 (n+1) (by omega)]
  ·cases k with
   | zero=>omega
   | succ k=>show ch n k+ch n (k+1)=0;rw[ih.2 k (by omega),ih.2 (k+1) (by omega)]
def chS (n a:Nat):Nat->Nat
 | 0=>0
 | m+1=>chS n a m+ch n m*a^m
theorem chS_succ (n a:Nat):∀ m,chS (n+1) a (m+1)=a*chS n a m+chS n a (m+1):=by
 intro m
 induction m with
 | zero=>simp[chS,ch_zero]
 | succ m ih =>
  show chS (n+1) a (m+1)+ch (n+1) (m+1)*a^(m+1)=a*(chS n a m+ch n m*a^m)+(chS n a (m+1)+ch n (m+1)*a^(m+1))
  rw[ih]
  have e:ch (n+1) (m+1)=ch n m+ch n (m+1):=rfl
  rw[e,Nat.add_mul,Nat.mul_add,Nat.pow_succ,Nat.mul_comm (a^m) a,Nat.mul_left_comm a (ch n m)]
  omega
theorem binom (a:Nat):∀ n m,n<m->(a+1)^n=chS n a m:=by
 intro n
 induction n with
 | zero =>
  intro m hm
  cases m with
  | zero=>omega
  | succ m =>
   clear hm
   induction m with
   | zero=>simp[chS,ch_zero]
   | succ m ih=>show _=chS 0 a (m+1)+ch 0 (m+1)*a^(m+1);rw[<- ih,show ch 0 (m+1)=0 from rfl,Nat.zero_mul];rfl
 | succ n ih =>
  intro m hm
  cases m with
  | zero=>omega
  | succ m =>
   rw[chS_succ,<- ih m (by omega),<- ih (m+1) (by omega),Nat.pow_succ,Nat.mul_add,Nat.mul_one,Nat.mul_comm a]
theorem Prm.ch_dvd {p k:Nat} (h:Prm p) (h0:0<k) (h1:k<p):p∣ch p k:=by
 obtain⟨j,rfl⟩:∃ j,k=j+1:=⟨k-1,by omega⟩
 obtain⟨q,rfl⟩:∃ q,p=q+1:=⟨p-1,by omega⟩
 have e:=ch_mul q j
 have:q+1∣(j+1)*ch (q+1) (j+1):=⟨ch q j,e⟩
 rcases h.dvd_mul this with h2|h2
 ·exact absurd (Nat.le_of_dvd (by omega) h2) (by omega)
 ·exact h2
theorem Prm.chS_mod {p:Nat} (h:Prm p) (a:Nat):∀ m,m<p->chS p a (m+1)%p=1:=by
 intro m
 have hp:=h.1
 induction m with
 | zero=>intro _;show (0+ch p 0*a^0)%p=1;rw[ch_zero,Nat.pow_zero,Nat.zero_add,Nat.mul_one];exact Nat.mod_eq_of_lt hp
 | succ m ih =>
  intro hm
  show (chS p a (m+1)+ch p (m+1)*a^(m+1))%p=1
  obtain⟨c,hc⟩:=h.ch_dvd (k:=m+1) (by omega) hm
  rw[hc,Nat.mul_assoc,Nat.add_mul_mod_self_left,ih (by omega)]
theorem Prm.step {p:Nat} (h:Prm p) (a:Nat):(a+1)^p%p=(a^p+1)%p:=by
 rw[binom a p (p+1) (by omega)]
 show (chS p a p+ch p p*a^p)%p=_
 obtain⟨q,hq⟩:∃ q,p=q+1:=⟨p-1,by have:=h.1;omega⟩
 have:=h.chS_mod a q (by omega)
 rw[<- hq] at this
 rw[(ch_self p).1,Nat.one_mul,Nat.add_mod,this,Nat.add_comm,<- Nat.add_mod_mod (a^p%p),Nat.mod_add_mod]
 have:1%p=1:=Nat.mod_eq_of_lt h.1
 rw[Nat.add_mod (a^p) 1,this,Nat.add_mod (a^p) 1,this]
theorem Prm.fermat {p:Nat} (h:Prm p) (a:Nat):a^p%p=a%p:=by
 induction a with
 | zero=>rw[Nat.zero_pow (by have:=h.1;omega)]
 | succ a ih=>rw[h.step,Nat.add_mod,ih,<- Nat.add_mod]
theorem Prm.fermat' {p a:Nat} (h:Prm p) (ha:¬ p∣a):a^(p-1)%p=1:=by
 have hp:=h.1
 have e:a^p=a^(p-1)*a:=by rw[<- Nat.pow_succ];congr 1;omega
 have f:=h.fermat a
 rw[e] at f
 have h1:1<=a^(p-1):=Nat.pos_of_ne_zero (fun z=>by
  have:a=0:=by
   rcases Nat.eq_zero_or_pos a with h|h
   ·exact h
   ·exact absurd z (Nat.ne_of_gt (Nat.pow_pos h))
  exact ha (this▸Nat.dvd_zero p))
 have hd:p∣(a^(p-1)-1)*a:=by
  rw[Nat.sub_mul,Nat.one_mul]
  exact Nat.dvd_of_mod_eq_zero (Nat.sub_mod_eq_zero_of_mod_eq f)
 rcases h.dvd_mul hd with h2|h2
 ·obtain⟨c,hc⟩:=h2
  have:a^(p-1)=1+p*c:=by omega
  rw[this,Nat.add_mul_mod_self_left,Nat.mod_eq_of_lt hp]
 ·exact absurd h2 ha
theorem pow_gcd {d e:Nat}:∀ m n,e^m%d=1->e^n%d=1->e^(Nat.gcd m n)%d=1:=by
 intro m n
 induction m,n using Nat.gcd.induction with
 | H0 n=>intro _ h;rwa [Nat.gcd_zero_left]
 | H1 m n hm ih =>
  intro h1 h2
  rw[Nat.gcd_rec]
  refine ih ?_ h1
  have e1:e^n=(e^m)^(n/m)*e^(n%m):=by rw[<- Nat.pow_mul,<- Nat.pow_add,Nat.div_add_mod]
  rw[e1,Nat.mul_mod,Nat.pow_mod,h1,Nat.one_pow] at h2
  have hd:d≠1:=by intro hd;subst hd;rw[Nat.mod_one] at h1;cases h1
  have h1d:1%d=1:=by
   rcases Nat.eq_zero_or_pos d with h|h
   ·subst h;rfl
   ·exact Nat.mod_eq_of_lt (by omega)
  rw[h1d,Nat.one_mul,Nat.mod_mod] at h2
  exact h2
theorem exists_prime:∀ n:Nat,1<n->∃ d,Prm d/\d∣n:=by
 intro n
 induction n using Nat.strongRecOn with
 | _ n ih =>
  intro hn
  by_cases hp:Prm n
  ·exact⟨n,hp,Nat.dvd_refl n⟩
  ·have:∃ d,d∣n/\d≠1/\d≠n:=by
    refine Classical.byContradiction fun hc=>hp ⟨hn,fun d hd=>?_⟩
    by_cases h1:d=1
    ·exact .inl h1
    ·by_cases h2:d=n
     ·exact .inr h2
     ·exact absurd ⟨d,hd,h1,h2⟩ hc
   obtain⟨d,hd,h1,h2⟩:=this
   have hdn:=Nat.le_of_dvd (by omega) hd
   have hd0:d≠0:=by rintro rfl;have:=Nat.eq_zero_of_zero_dvd hd;omega
   obtain⟨q,hq,hqd⟩:=ih d (by omega) (by omega)
   exact⟨q,hq,Nat.dvd_trans hqd hd⟩
theorem small_prime {n:Nat} (hn:1<n) (hp:¬ Prm n):∃ d,Prm d/\d∣n/\d*d<=n:=by
 have:∃ d,d∣n/\d≠1/\d≠n:=by
  refine Classical.byContradiction fun hc=>hp ⟨hn,fun d hd=>?_⟩
  by_cases h1:d=1
  ·exact .inl h1
  ·by_cases h2:d=n
   ·exact .inr h2
   ·exact absurd ⟨d,hd,h1,h2⟩ hc
 obtain⟨d,⟨c,hc⟩,h1,h2⟩:=this
 have hd0:d≠0:=by rintro rfl;omega
 have hc0:c≠0:=by rintro rfl;omega
 have hc1:c≠1:=by rintro rfl;omega
 by_cases hle:d<=c
 ·obtain⟨q,hq,hqd⟩:=exists_prime d (by omega)
  have:=Nat.le_of_dvd (by omega) hqd
  refine⟨q,hq,Nat.dvd_trans hqd ⟨c,hc⟩,?_⟩
  rw[hc];exact Nat.mul_le_mul this (by omega)
 ·obtain⟨q,hq,hqc⟩:=exists_prime c (by omega)
  have:=Nat.le_of_dvd (by omega) hqc
  refine⟨q,hq,Nat.dvd_trans hqc ⟨d,by rw[hc,Nat.mul_comm]⟩,?_⟩
  rw[hc];exact Nat.mul_le_mul (by omega) this
def pm:Nat->Nat->Nat->Nat->Nat
 | 0,_,_,n=>1%n
 | f+1,a,e,n=>match Nat.beq e 0 with
  | true=>1%n
  | false=>match Nat.beq (e%2) 1 with
   | true=>a*pm f (a*a%n) (e/2) n%n
   | false=>pm f (a*a%n) (e/2) n
theorem pm_eq:∀ f a e n,e<2^f->pm f a e n=a^e%n:=by
 intro f
 induction f with
 | zero=>intro a e n h;have:e=0:=by simp at h;exact h
         subst this;rfl
 | succ f ih =>
  intro a e n h
  unfold pm
  split
  ·rename_i h0;have:=Nat.eq_of_beq_eq_true h0;subst this;rfl
  ·have hr:=ih (a*a%n) (e/2) n (by rw[Nat.pow_succ] at h;omega)
   have hsq:(a*a%n)^(e/2)%n=a^(2*(e/2))%n:=by rw[<- Nat.pow_mod,Nat.pow_mul,Nat.pow_two]
   split
   ·rename_i h1
    have h1:=Nat.eq_of_beq_eq_true h1
    rw[hr,hsq,Nat.mul_mod_mod,<- Nat.pow_succ']
    congr 2;omega
   ·rename_i h1
    have h1:e%2≠1:=fun h2=>by rw[h2] at h1;exact absurd h1 (by decide)
    rw[hr,hsq]
    congr 2;omega
theorem dvd_pow_self' {a q:Nat} (h:0<q):a∣a^q:=by
 obtain⟨j,rfl⟩:∃ j,q=j+1:=⟨q-1,by omega⟩
 exact⟨a^j,by rw[Nat.pow_succ,Nat.mul_comm]⟩
theorem pock {N q k a f:Nat} (hq:Prm q) (hN:N=q*k+1) (hf:N<2^f) (h1:pm f a (q*k) N=1) (h2:Nat.gcd (pm f a k N+(N-1)) N=1) {d:Nat} (hd:Prm d) (hdN:d∣N):q∣d-1:=by
 have hk:k<2^f:=by
  have:k<=q*k:=Nat.le_mul_of_pos_left k (by have:=hq.1;omega)
  omega
 have hd1:=hd.1
 rw[pm_eq f a _ N (by omega)] at h1
 rw[pm_eq f a k N hk] at h2
 have e1:(a^k)^q%d=1:=by
  rw[<- Nat.pow_mul,Nat.mul_comm k q,<- Nat.mod_mod_of_dvd _ hdN,h1,Nat.mod_eq_of_lt hd1]
 have hne:a^k%d≠1:=by
  intro he
  have hdv:d∣a^k%N+(N-1):=by
   have h3:(a^k%N)%d=1:=by rw[Nat.mod_mod_of_dvd _ hdN];exact he
   refine Nat.dvd_of_mod_eq_zero ?_
   obtain⟨c,hc⟩:=hdN
   have:a^k%N+(N-1)+1=a^k%N+d*c:=by omega
   have h5:(a^k%N+(N-1)+1)%d=1:=by rw[this,Nat.add_mul_mod_self_left,h3]
   have h6:=Nat.add_mod (a^k%N+(N-1)) 1 d
   rw[h5,Nat.mod_eq_of_lt hd1] at h6
   have h7:=Nat.mod_lt (a^k%N+(N-1)) (show 0<d by omega)
   generalize (a^k%N+(N-1))%d=r at *
   by_cases hr:r+1=d
   ·rw[hr,Nat.mod_self] at h6;cases h6
   ·rw[Nat.mod_eq_of_lt (by omega)] at h6;omega
  have:=Nat.dvd_gcd hdv hdN
  rw[h2] at this
  have:=Nat.le_of_dvd (by omega) this
  omega
 have hda:¬ d∣a^k:=by
  intro h
  have:(a^k)^q%d=0:=Nat.mod_eq_zero_of_dvd (Nat.dvd_trans h (dvd_pow_self' (by have:=hq.1;omega)))
  rw[this] at e1;cases e1
 have e2:=hd.fermat' hda
 refine Classical.byContradiction fun hnd=>?_
 have hg:=hq.coprime hnd
 have:=pow_gcd q (d-1) e1 e2
 rw[hg,Nat.pow_one] at this
 exact hne this
def noDiv (n:Nat):Nat->Nat->Bool
 | 0,lo => !(Nat.beq (n%lo) 0)
 | f+1,lo=>noDiv n f lo&&noDiv n f (lo+2^f)
theorem noDiv_spec {n:Nat}:∀ f lo,noDiv n f lo=true->∀ d,lo<=d->d<lo+2^f->¬ d∣n:=by
 intro f
 induction f with
 | zero =>
  intro lo h d h1 h2 hd
  have:d=lo:=by simp at h2;omega
  subst this
  unfold noDiv at h
  rw[Nat.mod_eq_zero_of_dvd hd] at h
  simp at h
 | succ f ih =>
  intro lo h d h1 h2
  unfold noDiv at h
  simp only[Bool.and_eq_true] at h
  rw[Nat.pow_succ] at h2
  by_cases hm:d<lo+2^f
  ·exact ih lo h.1 d h1 hm
  ·exact ih (lo+2^f) h.2 d (by omega) (by omega)
theorem trial {n f:Nat} (hn:1<n) (hf:n<(2+2^f)*(2+2^f)) (h:noDiv n f 2=true):Prm n:=by
 refine Classical.byContradiction fun hp=>?_
 obtain⟨d,hd,hdn,hdd⟩:=small_prime hn hp
 refine noDiv_spec f 2 h d hd.1 ?_ hdn
 refine Classical.byContradiction fun hc=>?_
 have:(2+2^f)*(2+2^f)<=d*d:=Nat.mul_le_mul (by omega) (by omega)
 omega
end Cr
namespace Cr
theorem pock_fin {K d n:Nat} (hd:1<d) (h:K∣d-1) (hdd:d*d<=n) (hK:n<K*K):False:=by
 have hle:=Nat.le_of_dvd (by omega) h
 have:K*K<=d*d:=Nat.mul_le_mul (by omega) (by omega)
 omega
theorem prm_421987:Prm 421987:=trial (f:=10) (by decide) (by decide) (by kernel_rfl)
theorem prm_13090036741:Prm 13090036741:=by
 refine Classical.byContradiction fun hp=>?_
 obtain⟨d,hd,hdn,hdd⟩:=small_prime (n:=13090036741) (by decide) hp
 have h0:421987∣d-1:=pock (k:=31020) (a:=2) (f:=34) prm_421987 (by kernel_rfl) (of_decide_eq_true (by kernel_rfl)) (by kernel_rfl) (by kernel_rfl) hd hdn
 exact pock_fin hd.1 h0 hdd (of_decide_eq_true (by kernel_rfl))
theorem prm_755057:Prm 755057:=trial (f:=10) (by decide) (by decide) (by kernel_rfl)
theorem prm_3819663927398918131021:Prm 3819663927398918131021:=by
 refine Classical.byContradiction fun hp=>?_
 obtain⟨d,hd,hdn,hdd⟩:=small_prime (n:=3819663927398918131021) (by decide) hp
 have h0:13090036741∣d-1:=pock (k:=291799328220) (a:=2) (f:=72) prm_13090036741 (by kernel_rfl) (of_decide_eq_true (by kernel_rfl)) (by kernel_rfl) (by kernel_rfl) hd hdn
 have h1:755057∣d-1:=pock (k:=5058775598926860) (a:=2) (f:=72) prm_755057 (by kernel_rfl) (of_decide_eq_true (by kernel_rfl)) (by kernel_rfl) (by kernel_rfl) hd hdn
 have g1:13090036741*755057∣d-1:=Nat.Coprime.mul_dvd_of_dvd_of_dvd (show Nat.gcd 13090036741 755057=1 by kernel_rfl) h0 h1
 rw[show 13090036741*755057=9883723871549237 by kernel_rfl] at g1
 exact pock_fin hd.1 g1 hdd (of_decide_eq_true (by kernel_rfl))
theorem prm_1125266252156850182658904441386709967:Prm 1125266252156850182658904441386709967:=by
 refine Classical.byContradiction fun hp=>?_
 obtain⟨d,hd,hdn,hdd⟩:=small_prime (n:=1125266252156850182658904441386709967) (by decide) hp
 have h0:3819663927398918131021∣d-1:=pock (k:=294598235223046) (a:=2) (f:=120) prm_3819663927398918131021 (by kernel_rfl) (of_decide_eq_true (by kernel_rfl)) (by kernel_rfl) (by kernel_rfl) hd hdn
 exact pock_fin hd.1 h0 hdd (of_decide_eq_true (by kernel_rfl))
theorem prm_15778400344354997994418419698270088123916926905054652752758194827714659:Prm 15778400344354997994418419698270088123916926905054652752758194827714659:=by
 refine Classical.byContradiction fun hp=>?_
 obtain⟨d,hd,hdn,hdd⟩:=small_prime (n:=15778400344354997994418419698270088123916926905054652752758194827714659) (by decide) hp
 have h0:1125266252156850182658904441386709967∣d-1:=pock (k:=14021926201120671579994175730661374) (a:=2) (f:=234) prm_1125266252156850182658904441386709967 (by kernel_rfl) (of_decide_eq_true (by kernel_rfl)) (by kernel_rfl) (by kernel_rfl) hd hdn
 exact pock_fin hd.1 h0 hdd (of_decide_eq_true (by kernel_rfl))
theorem prm_p:Prm 4002409555221667393417789825735904156556882819939007885332058136124031650490837864442687629129015664037894272559787:=by
 refine Classical.byContradiction fun hp=>?_
 obtain⟨d,hd,hdn,hdd⟩:=small_prime (n:=4002409555221667393417789825735904156556882819939007885332058136124031650490837864442687629129015664037894272559787) (by decide) hp
 have h0:15778400344354997994418419698270088123916926905054652752758194827714659∣d-1:=pock (k:=253663835868735594330404923636534084567099854) (a:=2) (f:=381) prm_15778400344354997994418419698270088123916926905054652752758194827714659 (by kernel_rfl) (of_decide_eq_true (by kernel_rfl)) (by kernel_rfl) (by kernel_rfl) hd hdn
 exact pock_fin hd.1 h0 hdd (of_decide_eq_true (by kernel_rfl))
theorem prm_254760293:Prm 254760293:=trial (f:=14) (by decide) (by decide) (by kernel_rfl)
theorem prm_52437899:Prm 52437899:=trial (f:=13) (by decide) (by decide) (by kernel_rfl)
theorem prm_2529403:Prm 2529403:=trial (f:=11) (by decide) (by decide) (by kernel_rfl)
theorem prm_2508409:Prm 2508409:=trial (f:=11) (by decide) (by decide) (by kernel_rfl)
theorem prm_906349:Prm 906349:=trial (f:=10) (by decide) (by decide) (by kernel_rfl)
theorem prm_859267:Prm 859267:=trial (f:=10) (by decide) (by decide) (by kernel_rfl)
theorem prm_r:Prm 52435875175126190479447740508185965837690552500527637822603658699938581184513:=by
 refine Classical.byContradiction fun hp=>?_
 obtain⟨d,hd,hdn,hdd⟩:=small_prime (n:=52435875175126190479447740508185965837690552500527637822603658699938581184513) (by decide) hp
 have h0:254760293∣d-1:=pock (k:=205824363591567193241718168805002771125288949563767528806397073424384) (a:=2) (f:=255) prm_254760293 (by kernel_rfl) (of_decide_eq_true (by kernel_rfl)) (by kernel_rfl) (by kernel_rfl) hd hdn
 have h1:52437899∣d-1:=pock (k:=999961405302035279473110478895921551656570994587857873989262207090688) (a:=2) (f:=255) prm_52437899 (by kernel_rfl) (of_decide_eq_true (by kernel_rfl)) (by kernel_rfl) (by kernel_rfl) hd hdn
 have h2:2529403∣d-1:=pock (k:=20730534112249487519168649878325425342537568153642435714120548880482304) (a:=2) (f:=255) prm_2529403 (by kernel_rfl) (of_decide_eq_true (by kernel_rfl)) (by kernel_rfl) (by kernel_rfl) hd hdn
 have h3:2508409∣d-1:=pock (k:=20904037250355181503274681484632675866531555460264908084209416686010368) (a:=2) (f:=255) prm_2508409 (by kernel_rfl) (of_decide_eq_true (by kernel_rfl)) (by kernel_rfl) (by kernel_rfl) hd hdn
 have h4:906349∣d-1:=pock (k:=57853956009358636109763171259841369977448590444219211167666824479244288) (a:=2) (f:=255) prm_906349 (by kernel_rfl) (of_decide_eq_true (by kernel_rfl)) (by kernel_rfl) (by kernel_rfl) hd hdn
 have h5:859267∣d-1:=pock (k:=61023960160376449321861238134579782346686830170980193377150127608692736) (a:=2) (f:=255) prm_859267 (by kernel_rfl) (of_decide_eq_true (by kernel_rfl)) (by kernel_rfl) (by kernel_rfl) hd hdn
 have g1:254760293*52437899∣d-1:=Nat.Coprime.mul_dvd_of_dvd_of_dvd (show Nat.gcd 254760293 52437899=1 by kernel_rfl) h0 h1
 rw[show 254760293*52437899=13359094513544407 by kernel_rfl] at g1
 have g2:13359094513544407*2529403∣d-1:=Nat.Coprime.mul_dvd_of_dvd_of_dvd (show Nat.gcd 13359094513544407 2529403=1 by kernel_rfl) g1 h2
 rw[show 13359094513544407*2529403=33790533739842763699021 by kernel_rfl] at g2
 have g3:33790533739842763699021*2508409∣d-1:=Nat.Coprime.mul_dvd_of_dvd_of_dvd (show Nat.gcd 33790533739842763699021 2508409=1 by kernel_rfl) g2 h3
 rw[show 33790533739842763699021*2508409=84760478947825247047497567589 by kernel_rfl] at g3
 have g4:84760478947825247047497567589*906349∣d-1:=Nat.Coprime.mul_dvd_of_dvd_of_dvd (show Nat.gcd 84760478947825247047497567589 906349=1 by kernel_rfl) g3 h4
 rw[show 84760478947825247047497567589*906349=76822575333882464836252372886722561 by kernel_rfl] at g4
 have g5:76822575333882464836252372886722561*859267∣d-1:=Nat.Coprime.mul_dvd_of_dvd_of_dvd (show Nat.gcd 76822575333882464836252372886722561 859267=1 by kernel_rfl) g4 h5
 rw[show 76822575333882464836252372886722561*859267=66011103839419183912452067693255434822787 by kernel_rfl] at g5
 exact pock_fin hd.1 g5 hdd (of_decide_eq_true (by kernel_rfl))
end Cr
namespace Cr
section
variable {M:Int} [Md M]
theorem one_mul' (a:Zm M):1*a=a:=by rw[mul_comm',mul_one']
def zpow (x:Zm M):Nat->Zm M
 | 0=>1
 | n+1=>zpow x n*x
theorem zpow_add (x:Zm M) (m n:Nat):zpow x (m+n)=zpow x m*zpow x n:=by
 induction n with
 | zero=>rw[zpow,mul_one'];rfl
 | succ n ih=>rw[<- Nat.add_assoc,zpow,ih,zpow,mul_assoc']
theorem zpow_two (x:Zm M) (m:Nat):zpow x m*zpow x m=zpow x (2*m):=by rw[<- zpow_add,Nat.two_mul]
def sqn (x:Zm M):Nat->Zm M
 | 0=>x
 | k+1=>sqn x k*sqn x k
theorem sqn_zpow (x:Zm M) (m:Nat):∀ k,sqn (zpow x m) k=zpow x (2^k*m):=by
 intro k
 induction k with
 | zero=>simp[sqn]
 | succ k ih=>rw[sqn,ih,zpow_two,Nat.pow_succ];congr 1;rw[Nat.mul_comm (2^k) 2,Nat.mul_assoc]
noncomputable def zpw (x:Zm M) (E:Int):Zm M:=Classical.choose (⟨zpow x E.toNat,rfl⟩:∃ y,y=zpow x E.toNat)
theorem zpw_eq (x:Zm M) (E:Int):zpw x E=zpow x E.toNat:=Classical.choose_spec (⟨zpow x E.toNat,rfl⟩:∃ y,y=zpow x E.toNat)
end
def p16:Nat->Int
 | 0=>1
 | n+1=>16*p16 n
theorem p16_pos (n:Nat):0<p16 n:=by
 induction n with
 | zero=>decide
 | succ n ih=>simp only[p16];omega
theorem p16_add (m n:Nat):p16 (m+n)=p16 m*p16 n:=by
 induction m with
 | zero=>simp[p16]
 | succ m ih=>rw[Nat.succ_add];simp only[p16,ih,Int.mul_assoc]
theorem p16_16 (n:Nat):p16 (16*n)=pw n:=by
 induction n with
 | zero=>rfl
 | succ n ih=>rw[Nat.mul_succ,Nat.add_comm,p16_add,ih];rfl
theorem p16_dvd {m:Nat} (h:m<=16):∃ c:Int,(18446744073709551616:Int)=c*p16 m/\0<c:=by
 refine⟨p16 (16-m),?_,p16_pos _⟩
 rw[<- p16_add,Nat.sub_add_cancel h];rfl
theorem p16_pow (n:Nat):p16 n=(2:Int)^(4*n):=by
 induction n with
 | zero=>rfl
 | succ n ih=>rw[p16,ih,Nat.mul_succ,Int.pow_add];rw[Int.mul_comm];rfl
theorem digit_at {n:Nat} {N:Int} {i:Nat} (hi:i<16*n):((lim n N).getD (n-1-i/16) 0)/p16 (15-i%16)%16=N/p16 (16*n-1-i)%16:=by
 rw[lim_get _ _ _ (by omega)]
 obtain⟨c,hc,hc0⟩:=p16_dvd (m:=15-i%16+1) (by omega)
 have e1:p16 (16*n-1-i)=pw (n-1-i/16)*p16 (15-i%16):=by
  rw[<- p16_16,<- p16_add];congr 1;omega
 rw[e1,<- Int.ediv_ediv_of_nonneg (Int.le_of_lt (pw_pos _))]
 generalize N/pw (n-1-i/16)=A
 have hp:=p16_pos (15-i%16)
 rw[hc,show p16 (15-i%16+1)=16*p16 (15-i%16) from rfl]
 generalize p16 (15-i%16)=P at *
 have h1:A%(c*(16*P))=A%(P*(16*c)):=by congr 1;rw[Int.mul_comm c,Int.mul_comm 16 P,Int.mul_assoc]
 rw[h1]
 have h2:A%(P*(16*c))/P=(A/P)%(16*c):=by
  rw[Int.emod_def,Int.emod_def,Int.mul_assoc,<- Int.sub_mul_ediv_left _ _ (show P≠0 by omega),<- Int.ediv_ediv_of_nonneg (Int.le_of_lt hp)]
 rw[h2,Int.emod_emod_of_dvd _ ⟨c,rfl⟩]
theorem digit_step {N:Int} (h:0<=N) (k:Nat):(N/p16 k).toNat=16*(N/p16 (k+1)).toNat+(N/p16 k%16).toNat:=by
 have e:N/p16 (k+1)=N/p16 k/16:=by
  rw[show p16 (k+1)=p16 k*16 from by rw[p16,Int.mul_comm],Int.ediv_ediv_of_nonneg (Int.le_of_lt (p16_pos k))]
 have h0:0<=N/p16 k:=Int.ediv_nonneg h (Int.le_of_lt (p16_pos k))
 rw[e]
 omega
end Cr
namespace Cr
section
variable {M:Int} [Md M]
instance rgZm : Rg (Zm M) where
 add_comm a b:=Zm.ext (by simp only[add_v,Int.add_comm])
 add_assoc a b c:=by rw[<- zm_self a,<- zm_self b,<- zm_self c];simp only[zm_add,Int.add_assoc]
 zero_add a:=by rw[<- zm_self a,<- zm_zero];simp only[zm_add,Int.zero_add]
 neg_add a:=by rw[<- zm_self a,<- zm_zero];simp only[zm_add,zm_neg];congr 1;omega
 sub_def a b:=by rw[<- zm_self a,<- zm_self b];simp only[zm_add,zm_neg,zm_sub];congr 1
 mul_comm:=mul_comm'
 mul_assoc:=mul_assoc'
 one_mul:=one_mul'
 add_mul:=add_mul'
theorem zpow_v (x:Zm M) (n:Nat):(zpow x n).v=x.v^n%M:=by
 induction n with
 | zero=>show (1:Zm M).v=_;rw[one_v,Int.pow_zero,Int.emod_eq_of_lt (by omega) Md.gt]
 | succ n ih=>show (zpow x n*x).v=_;rw[mul_v,ih,Int.pow_succ,Int.mul_emod,Int.emod_emod,<- Int.mul_emod]
theorem zm_fermat {P:Nat} (hM:M=(P:Int)) (hp:Prm P) {x:Zm M} (hx:x≠0) {n:Nat} (hn:n+2=P):x*zpow x n=1:=by
 obtain⟨a,ha⟩:=Int.eq_ofNat_of_zero_le x.nn
 have hna:¬ P∣a:=by
  intro hd
  have hlt:a<P:=by have:=x.lt;omega
  have:a=0:=Nat.eq_zero_of_dvd_of_lt hd hlt
  exact hx (Zm.ext (by rw[zero_v,ha,this];rfl))
 have hf:=hp.fermat' hna
 refine Zm.ext ?_
 rw[mul_v,zpow_v,one_v,Int.mul_emod,Int.emod_emod,<- Int.mul_emod,Int.mul_comm,<- Int.pow_succ,ha,hM,<- Int.natCast_pow]
 have e:P-1=n+1:=by omega
 rw[e] at hf
 rw[<- Int.natCast_emod,hf]
 rfl
end
theorem Mp_nat:Mp=((4002409555221667393417789825735904156556882819939007885332058136124031650490837864442687629129015664037894272559787:Nat):Int):=rfl
theorem Mr_nat:Mr=((52435875175126190479447740508185965837690552500527637822603658699938581184513:Nat):Int):=rfl
theorem zpw_inv {x:Fp} (hx:x≠0):x*zpw x 4002409555221667393417789825735904156556882819939007885332058136124031650490837864442687629129015664037894272559785=1:=by
 rw[zpw_eq]
 exact zm_fermat Mp_nat prm_p hx (of_decide_eq_true (by kernel_rfl))
theorem zpw_inv_r {x:Fr} (hx:x≠0):x*zpw x 52435875175126190479447740508185965837690552500527637822603658699938581184511=1:=by
 rw[zpw_eq]
 exact zm_fermat Mr_nat prm_r hx (of_decide_eq_true (by kernel_rfl))
noncomputable instance fdFp:Fd Fp where
 deq:=inferInstance
 inv x:=zpw x 4002409555221667393417789825735904156556882819939007885332058136124031650490837864442687629129015664037894272559785
 mul_inv _ h:=zpw_inv h
 one_ne:=by decide
 two_ne:=by decide
 three_ne:=by decide
noncomputable instance fdFr:Fd Fr where
 deq:=inferInstance
 inv x:=zpw x 52435875175126190479447740508185965837690552500527637822603658699938581184511
 mul_inv _ h:=zpw_inv_r h
 one_ne:=by decide
 two_ne:=by decide
 three_ne:=by decide
end Cr
namespace Cr
open Rg Fd Go.Eng
abbrev F2:=Fp × Fp
instance : Zero F2 := ⟨((0 : Fp), (0 : Fp))⟩
instance : One F2 := ⟨((1 : Fp), (0 : Fp))⟩
noncomputable instance:Add F2:=⟨fun x y=>opq (x.1+y.1,x.2+y.2)⟩
noncomputable instance:Sub F2:=⟨fun x y=>opq (x.1-y.1,x.2-y.2)⟩
noncomputable instance:Neg F2:=⟨fun x=>opq (-x.1,-x.2)⟩
noncomputable instance:Mul F2:=⟨fun x y=>opq (x.1*y.1-x.2*y.2,x.1*y.2+x.2*y.1)⟩
theorem F2.add_def (x y:F2):x+y=(x.1+y.1,x.2+y.2):=opq_eq _
theorem F2.sub_def (x y:F2):x-y=(x.1-y.1,x.2-y.2):=opq_eq _
theorem F2.neg_def (x:F2) : -x=(-x.1,-x.2):=opq_eq _
theorem F2.mul_def (x y:F2):x*y=(x.1*y.1-x.2*y.2,x.1*y.2+x.2*y.1):=opq_eq _
theorem F2.ext {x y:F2} (h1:x.1=y.1) (h2:x.2=y.2):x=y:=Prod.ext h1 h2
theorem F2.add1 (x y:F2):(x+y).1=x.1+y.1:=by rw[F2.add_def]
theorem F2.add2 (x y:F2):(x+y).2=x.2+y.2:=by rw[F2.add_def]
theorem F2.sub1 (x y:F2):(x-y).1=x.1-y.1:=by rw[F2.sub_def]
theorem F2.sub2 (x y:F2):(x-y).2=x.2-y.2:=by rw[F2.sub_def]
theorem F2.neg1 (x:F2):(-x).1=-x.1:=by rw[F2.neg_def]
theorem F2.neg2 (x:F2):(-x).2=-x.2:=by rw[F2.neg_def]
theorem F2.mul1 (x y:F2):(x*y).1=x.1*y.1-x.2*y.2:=by rw[F2.mul_def]
theorem F2.mul2 (x y:F2):(x*y).2=x.1*y.2+x.2*y.1:=by rw[F2.mul_def]
theorem F2.zero1:(0:F2).1=0:=rfl
theorem F2.zero2:(0:F2).2=0:=rfl
theorem F2.one1:(1:F2).1=1:=rfl
theorem F2.one2:(1:F2).2=0:=rfl
theorem f2_as1 {F:Type} [Rg F] (a b c d e f:F):(a*c-b*d)*e-(a*d+b*c)*f=a*(c*e-d*f)-b*(c*f+d*e) :=
 rid [a,b,c,d,e,f] ((fun (a b c d e f:PE)=>((a*c-b*d)*e-(a*d+b*c)*f)) (.v 0) (.v 1) (.v 2) (.v 3) (.v 4) (.v 5)) ((fun (a b c d e f:PE)=>(a*(c*e-d*f)-b*(c*f+d*e))) (.v 0) (.v 1) (.v 2) (.v 3) (.v 4) (.v 5)) (by kernel_rfl)
theorem f2_as2 {F:Type} [Rg F] (a b c d e f:F):(a*c-b*d)*f+(a*d+b*c)*e=a*(c*f+d*e)+b*(c*e-d*f) :=
 rid [a,b,c,d,e,f] ((fun (a b c d e f:PE)=>((a*c-b*d)*f+(a*d+b*c)*e)) (.v 0) (.v 1) (.v 2) (.v 3) (.v 4) (.v 5)) ((fun (a b c d e f:PE)=>(a*(c*f+d*e)+b*(c*e-d*f))) (.v 0) (.v 1) (.v 2) (.v 3) (.v 4) (.v 5)) (by kernel_rfl)
theorem f2_co1 {F:Type} [Rg F] (a b c d:F):a*c-b*d=c*a-d*b :=
 rid [a,b,c,d] ((fun (a b c d:PE)=>(a*c-b*d)) (.v 0) (.v 1) (.v 2) (.v 3)) ((fun (a b c d:PE)=>(c*a-d*b)) (.v 0) (.v 1) (.v 2) (.v 3)) (by kernel_rfl)
theorem f2_co2 {F:Type} [Rg F] (a b c d:F):a*d+b*c=c*b+d*a :=
 rid [a,b,c,d] ((fun (a b c d:PE)=>(a*d+b*c)) (.v 0) (.v 1) (.v 2) (.v 3)) ((fun (a b c d:PE)=>(c*b+d*a)) (.v 0) (.v 1) (.v 2) (.v 3)) (by kernel_rfl)
theorem f2_om1 {F:Type} [Rg F] (a b:F):1*a-0*b=a :=
 rid [a,b] ((fun (a b:PE)=>(1*a-0*b)) (.v 0) (.v 1)) ((fun (a b:PE)=>(a)) (.v 0) (.v 1)) (by kernel_rfl)
theorem f2_om2 {F:Type} [Rg F] (a b:F):1*b+0*a=b :=
 rid [a,b] ((fun (a b:PE)=>(1*b+0*a)) (.v 0) (.v 1)) ((fun (a b:PE)=>(b)) (.v 0) (.v 1)) (by kernel_rfl)
theorem f2_am1 {F:Type} [Rg F] (a b c d e f:F):(a+c)*e-(b+d)*f=a*e-b*f+(c*e-d*f) :=
 rid [a,b,c,d,e,f] ((fun (a b c d e f:PE)=>((a+c)*e-(b+d)*f)) (.v 0) (.v 1) (.v 2) (.v 3) (.v 4) (.v 5)) ((fun (a b c d e f:PE)=>(a*e-b*f+(c*e-d*f))) (.v 0) (.v 1) (.v 2) (.v 3) (.v 4) (.v 5)) (by kernel_rfl)
theorem f2_am2 {F:Type} [Rg F] (a b c d e f:F):(a+c)*f+(b+d)*e=a*f+b*e+(c*f+d*e) :=
 rid [a,b,c,d,e,f] ((fun (a b c d e f:PE)=>((a+c)*f+(b+d)*e)) (.v 0) (.v 1) (.v 2) (.v 3) (.v 4) (.v 5)) ((fun (a b c d e f:PE)=>(a*f+b*e+(c*f+d*e))) (.v 0) (.v 1) (.v 2) (.v 3) (.v 4) (.v 5)) (by kernel_rfl)
theorem f2_kar {F:Type} [Rg F] (a b c d:F):(a+b)*(c+d)-a*c-b*d=a*d+b*c :=
 rid [a,b,c,d] ((fun (a b c d:PE)=>((a+b)*(c+d)-a*c-b*d)) (.v 0) (.v 1) (.v 2) (.v 3)) ((fun (a b c d:PE)=>(a*d+b*c)) (.v 0) (.v 1) (.v 2) (.v 3)) (by kernel_rfl)
theorem f2_sq1 {F:Type} [Rg F] (a b:F):(a+b)*(a-b)=a*a-b*b :=
 rid [a,b] ((fun (a b:PE)=>((a+b)*(a-b))) (.v 0) (.v 1)) ((fun (a b:PE)=>(a*a-b*b)) (.v 0) (.v 1)) (by kernel_rfl)
theorem f2_sq2 {F:Type} [Rg F] (a b:F):a*b+a*b=a*b+b*a :=
 rid [a,b] ((fun (a b:PE)=>(a*b+a*b)) (.v 0) (.v 1)) ((fun (a b:PE)=>(a*b+b*a)) (.v 0) (.v 1)) (by kernel_rfl)
noncomputable instance rgF2:Rg F2 where
 add_comm a b:=F2.ext (by simp only[F2.add1,add_comm]) (by simp only[F2.add2,add_comm])
 add_assoc a b c:=F2.ext (by simp only[F2.add1,add_assoc]) (by simp only[F2.add2,add_assoc])
 zero_add a:=F2.ext (by rw[F2.add1,F2.zero1,zero_add]) (by rw[F2.add2,F2.zero2,zero_add])
 neg_add a:=F2.ext (by rw[F2.add1,F2.neg1,neg_add];rfl) (by rw[F2.add2,F2.neg2,neg_add];rfl)
 sub_def a b:=F2.ext (by rw[F2.add1,F2.sub1,F2.neg1,sub_def]) (by rw[F2.add2,F2.sub2,F2.neg2,sub_def])
 mul_comm a b:=F2.ext (by rw[F2.mul1,F2.mul1,f2_co1]) (by rw[F2.mul2,F2.mul2,f2_co2])
 mul_assoc a b c:=F2.ext (by simp only[F2.mul1,F2.mul2];exact f2_as1 _ _ _ _ _ _) (by simp only[F2.mul1,F2.mul2];exact f2_as2 _ _ _ _ _ _)
 one_mul a:=F2.ext (by rw[F2.mul1,F2.one1,F2.one2,f2_om1]) (by rw[F2.mul2,F2.one1,F2.one2,f2_om2])
 add_mul a b c:=F2.ext (by simp only[F2.mul1,F2.add1,F2.add2];exact f2_am1 _ _ _ _ _ _) (by simp only[F2.mul2,F2.add1,F2.add2];exact f2_am2 _ _ _ _ _ _)
section
variable {M:Int} [Md M]
theorem zpow_sq (x:Zm M) (n:Nat):zpow x (2*n)=zpow (x*x) n:=by
 induction n with
 | zero=>rfl
 | succ n ih=>show zpow x (2*n)*x*x=zpow (x*x) n*(x*x);rw[ih,mul_assoc]
theorem zpow_m1 (n:Nat):zpow (-1:Zm M) (2*n+1)=-1:=by
 show zpow (-1:Zm M) (2*n) * -1=-1
 rw[zpow_sq]
 have:(-1:Zm M) * -1=1:=by rw[neg_mul,mul_neg,neg_neg,mul_one]
 rw[this]
 have h1:∀ n,zpow (1:Zm M) n=1:=by
  intro n
  induction n with
  | zero=>rfl
  | succ n ih=>show zpow (1:Zm M) n*1=1;rw[ih,mul_one]
 rw[h1,one_mul]
end
theorem no_root {x:Fp} (h:x*x=-1):False:=by
 have hx:x≠0:=by
  intro e
  rw[e,zero_mul] at h
  exact absurd h (by decide)
 have h1:=zm_fermat Mp_nat prm_p hx (n:=4002409555221667393417789825735904156556882819939007885332058136124031650490837864442687629129015664037894272559785) (of_decide_eq_true (by kernel_rfl))
 have h2:=zpow_sq x (2*1000602388805416848354447456433976039139220704984751971333014534031007912622709466110671907282253916009473568139946+1)
 rw[h,zpow_m1] at h2
 have h3:zpow x (2*(2*1000602388805416848354447456433976039139220704984751971333014534031007912622709466110671907282253916009473568139946+1))=zpow x (4002409555221667393417789825735904156556882819939007885332058136124031650490837864442687629129015664037894272559785+1):=congrArg (zpow x) (of_decide_eq_true (by kernel_rfl))
 rw[h3] at h2
 have h4:zpow x (4002409555221667393417789825735904156556882819939007885332058136124031650490837864442687629129015664037894272559785+1)=zpow x 4002409555221667393417789825735904156556882819939007885332058136124031650490837864442687629129015664037894272559785*x:=rfl
 rw[h4,mul_comm,h1] at h2
 exact absurd h2 (by decide)
theorem f2_nm {F:Type} [Rg F] (a b i:F):(a*i)*(a*i)-(-1)=(i*i)*(a*a+b*b)-(b*i+1)*(b*i-1) :=
 rid [a,b,i] ((fun (a b i:PE)=>((a*i)*(a*i)-(-1))) (.v 0) (.v 1) (.v 2)) ((fun (a b i:PE)=>((i*i)*(a*a+b*b)-(b*i+1)*(b*i-1))) (.v 0) (.v 1) (.v 2)) (by kernel_rfl)
theorem f2_iv1 {F:Type} [Rg F] (a b n:F):a*(a*n)-b*(-b*n)=(a*a+b*b)*n :=
 rid [a,b,n] ((fun (a b n:PE)=>(a*(a*n)-b*(-b*n))) (.v 0) (.v 1) (.v 2)) ((fun (a b n:PE)=>((a*a+b*b)*n)) (.v 0) (.v 1) (.v 2)) (by kernel_rfl)
theorem f2_iv2 {F:Type} [Rg F] (a b n:F):a*(-b*n)+b*(a*n)=0 :=
 rid [a,b,n] ((fun (a b n:PE)=>(a*(-b*n)+b*(a*n))) (.v 0) (.v 1) (.v 2)) ((fun (a b n:PE)=>(0)) (.v 0) (.v 1) (.v 2)) (by kernel_rfl)
theorem norm_ne {x:F2} (h:x≠0):x.1*x.1+x.2*x.2≠0:=by
 intro e
 by_cases hb:x.2=0
 ·rw[hb,mul_zero,add_zero] at e
  have ha:x.1=0:=by rcases mul_eq_zero e with e|e<;>exact e
  exact h (F2.ext ha hb)
 ·have hi:=mul_inv x.2 hb
  refine no_root (x:=x.1*inv x.2) (eq_of_sub ?_)
  rw[f2_nm _ x.2,e,hi,sub_self,mul_zero,mul_zero,sub_self]
noncomputable def inv2 (x:F2):F2:=opq (x.1*inv (x.1*x.1+x.2*x.2),-x.2*inv (x.1*x.1+x.2*x.2))
theorem inv2_def (x:F2):inv2 x=(x.1*inv (x.1*x.1+x.2*x.2),-x.2*inv (x.1*x.1+x.2*x.2)):=opq_eq _
noncomputable instance fdF2:Fd F2 where
 deq:=inferInstanceAs (DecidableEq (Fp × Fp))
 inv:=inv2
 mul_inv x h:=by
  have hn:=mul_inv _ (norm_ne h)
  rw[inv2_def]
  refine F2.ext ?_ ?_
  ·rw[F2.mul1]
   show x.1*(x.1*_)-x.2*(-x.2*_)=1
   rw[f2_iv1,hn]
  ·rw[F2.mul2]
   show x.1*(-x.2*_)+x.2*(x.1*_)=0
   rw[f2_iv2]
 one_ne:=fun h=>absurd (congrArg Prod.fst h) (by decide)
 two_ne:=fun h=>absurd (congrArg Prod.fst h) (by rw[F2.add1];decide)
 three_ne:=fun h=>absurd (congrArg Prod.fst h) (by rw[F2.add1,F2.add1];decide)
end Cr
namespace Go.Eng
open Go Cr
theorem wrap_u8 (a:Int):IntKind.u8.wrap a=a%256:=by simp[IntKind.wrap,IntKind.signed,IntKind.bits]
theorem wrap_u64' (a:Int):IntKind.u64.wrap a=a%18446744073709551616:=by simp[IntKind.wrap,IntKind.signed,IntKind.bits]
def wk (n i:Int):Int:=IntKind.i64.wrap (IntKind.i64.wrap (n-1)-i)
def wj (n i:Int):Int:=IntKind.i64.wrap ((wk n i).tdiv 8)
def wsh (n i:Int):Int:=IntKind.i64.wrap (8*(wk n i).tmod 8)
def wput (ws:List Int) (n i v:Int):List Int :=
 ws.set (wj n i).toNat (bitOp .or .u64 (ws.getD (wj n i).toNat 0) (IntKind.u64.wrap (IntKind.u64.wrap v*2^(min (wsh n i).toNat IntKind.u64.bits))))
theorem wk_eq {len k:Nat} (h:k<len) (hl:len<1000000):wk len k=((len-1-k:Nat):Int):=by
 unfold wk
 rw[wrap_i64' (a:=(len:Int)-1) (by omega) (by omega),wrap_i64' (by omega) (by omega)]
 omega
theorem wj_eq {len k:Nat} (h:k<len) (hl:len<1000000):wj len k=(((len-1-k)/8:Nat):Int):=by
 unfold wj
 rw[wk_eq h hl,Int.tdiv_eq_ediv_of_nonneg (by omega),wrap_i64' (by omega) (by omega)]
 omega
theorem wsh_eq {len k:Nat} (h:k<len) (hl:len<1000000):wsh len k=((8*((len-1-k)%8):Nat):Int):=by
 unfold wsh
 rw[wk_eq h hl,Int.tmod_eq_emod_of_nonneg (by omega),wrap_i64' (by omega) (by omega)]
 omega
theorem or_u64 (c t y:Nat) (h:y<2^t) (hlt:c*2^t+y<18446744073709551616):bitOp .or .u64 ((c*2^t:Nat):Int) (y:Int)=((c*2^t+y:Nat):Int):=by
 show IntKind.u64.wrap ((BitVec.ofInt 64 ((c*2^t:Nat):Int) ||| BitVec.ofInt 64 (y:Int):BitVec 64).toNat:Int)=_
 have h1:(BitVec.ofInt 64 ((c*2^t:Nat):Int)).toNat=c*2^t:=by
  rw[show BitVec.ofInt 64 ((c*2^t:Nat):Int)=BitVec.ofNat 64 (c*2^t) from BitVec.ofInt_natCast ..,BitVec.toNat_ofNat,Nat.mod_eq_of_lt (by omega)]
 have h2:(BitVec.ofInt 64 (y:Int)).toNat=y:=by
  rw[show BitVec.ofInt 64 (y:Int)=BitVec.ofNat 64 y from BitVec.ofInt_natCast ..,BitVec.toNat_ofNat,Nat.mod_eq_of_lt (by omega)]
 rw[BitVec.toNat_or,h1,h2]
 have h3:=Nat.shiftLeft_add_eq_or_of_lt h c
 rw[Nat.shiftLeft_eq] at h3
 rw[<- h3,wrap_u64']
 omega
theorem wput_ok {n:Nat} {bs:List Int} (hb:Bs bs) (hl:bs.length<=8*n) (hs:bs.length<1000000) {k:Nat} (hk:k<bs.length) :
  wput (lim n (num (bs.take k)*p256 (bs.length-k))) bs.length k (bs.getD k 0)=lim n (num (bs.take (k+1))*p256 (bs.length-(k+1))):=by
 unfold wput
 rw[wj_eq hk hs,wsh_eq hk hs]
 simp only[Int.toNat_natCast]
 have hv:0<=bs.getD k 0/\bs.getD k 0<256:=by
  have:=hb (bs.getD k 0) (by simp[hk])
  exact this
 rw[num_take_succ hk]
 generalize hq:bs.length-1-k=q at *
 generalize bs.getD k 0=v at *
 have hN:=(num_bd (Bs_take hb k)).1
 have e1:bs.length-k=q+1:=by omega
 have e2:bs.length-(k+1)=q:=by omega
 rw[e1,e2]
 generalize num (bs.take k)=N at *
 have hj:q/8<n:=by omega
 rw[lim_get _ _ _ hj,word_at]
 obtain⟨c,h1,h2,h3,h4⟩:=or_word (N:=N) (v:=v) (q:=q%8) hv.1 hv.2 (by omega)
 have hsh:IntKind.u64.wrap (IntKind.u64.wrap v*2^min (8*(q%8)) IntKind.u64.bits)=v*p256 (q%8):=by
  rw[show IntKind.u64.bits=64 from rfl,Nat.min_eq_left (by omega),wrap_u64' v,Int.emod_eq_of_lt hv.1 (by omega),p256_pow,wrap_u64']
  have e:((2^(8*(q%8)):Nat):Int)=(2:Int)^(8*(q%8)):=by simp
  rw[<- e,<- p256_pow]
  exact Int.emod_eq_of_lt h3 (by have:=Int.emod_nonneg (N*p256 (q%8+1)) (show (18446744073709551616:Int)≠0 by decide);omega)
 rw[hsh]
 have hor:bitOp .or .u64 (N*p256 (q%8+1)%18446744073709551616) (v*p256 (q%8))=N*p256 (q%8+1)%18446744073709551616+v*p256 (q%8):=by
  obtain⟨y,hy⟩:=Int.eq_ofNat_of_zero_le h3
  rw[h1,hy] at h4 ⊢
  rw[hy,p256_pow] at h2
  have:=or_u64 c (8*(q%8+1)) y (by omega) (by omega)
  rw[this]
  omega
 rw[hor]
 have hset:=lim_set n (q/8) (N*p256 (q+1)) (v*p256 (q%8)) hj h3 (by rw[lim_get _ _ _ hj,word_at];exact h4)
 rw[lim_get _ _ _ hj,word_at] at hset
 rw[hset]
 congr 1
 rw[Int.add_mul,Int.mul_assoc,Int.mul_assoc,<- p256_8,<- p256_add]
 rw[show q%8+8*(q/8)=q by omega]
 rfl
theorem wput_bd {n:Nat} {bs:List Int} (hl:bs.length<=8*n) (hs:bs.length<1000000) {k:Nat} (hk:k<bs.length) :
  (0<=wj bs.length k/\wj bs.length k<(n:Int))/\(wj bs.length k).toNat<n/\0<=wsh bs.length k:=by
 rw[wj_eq hk hs,wsh_eq hk hs]
 exact⟨⟨by omega,by omega⟩,by omega,by omega⟩
theorem words_zero (n:Nat) (bs:List Int):lim n (num (bs.take 0)*p256 (bs.length-0))=List.replicate n 0:=by
 rw[show num (bs.take 0)=0 from rfl,Int.zero_mul,lim_zero]
def bj (n i:Int):Int:=IntKind.i64.wrap (n-IntKind.i64.wrap (i.tdiv 8))
def bsh (i:Int):Int:=IntKind.i64.wrap (56-IntKind.i64.wrap (8*i.tmod 8))
def bget (n:Int) (ws:List Int) (i:Int):Int:=IntKind.u8.wrap (Int.fdiv (ws.getD (bj n i).toNat 0) (2^min (bsh i).toNat IntKind.u64.bits))
theorem bj_eq {n k:Nat} (h:k<8*(n+1)) (hn:n<1000):bj n k=((n-k/8:Nat):Int):=by
 unfold bj
 rw[Int.tdiv_eq_ediv_of_nonneg (by omega),wrap_i64' (a:=(k:Int)/8) (by omega) (by omega),wrap_i64' (by omega) (by omega)]
 omega
theorem bsh_eq {k:Nat}:bsh k=((8*(7-k%8):Nat):Int):=by
 unfold bsh
 rw[Int.tmod_eq_emod_of_nonneg (by omega),wrap_i64' (a:=8*((k:Int)%8)) (by omega) (by omega),wrap_i64' (by omega) (by omega)]
 omega
theorem bget_ok {n k:Nat} {N:Int} (h:k<8*(n+1)) (hn:n<1000):bget n (lim (n+1) N) k=N/p256 (8*(n+1)-1-k)%256:=by
 unfold bget
 rw[bj_eq h hn,bsh_eq,wrap_u8]
 simp only[Int.toNat_natCast]
 rw[show IntKind.u64.bits=64 from rfl,Nat.min_eq_left (by omega)]
 have e:(2:Int)^(8*(7-k%8))=p256 (7-k%8):=by rw[p256_pow];simp
 rw[e,Int.fdiv_eq_ediv_of_nonneg _ (Int.le_of_lt (p256_pos _))]
 have:=byte_at (n:=n+1) (N:=N) (i:=k) h
 rw[show n+1-1-k/8=n-k/8 by omega] at this
 exact this
theorem bget_bd {n k:Nat} (h:k<8*(n+1)) (hn:n<1000):(0<=bj n k/\bj n k<((n+1:Nat):Int))/\(bj n k).toNat<n+1/\0<=bsh k:=by
 rw[bj_eq h hn,bsh_eq]
 exact⟨⟨by omega,by omega⟩,by omega,by omega⟩
def bytesAt (m:Nat) (N:Int) (k:Nat):List Int:=(bytesN m N).take k++List.replicate (m-k) 0
theorem bytesAt_zero (m:Nat) (N:Int):bytesAt m N 0=List.replicate m 0:=by simp[bytesAt]
theorem bytesAt_all (m:Nat) (N:Int):bytesAt m N m=bytesN m N:=by simp[bytesAt,List.take_of_length_le,bytesN_length]
theorem bytesAt_succ {m:Nat} {N:Int} {k:Nat} (h:k<m):(bytesAt m N k).set k (N/p256 (m-1-k)%256)=bytesAt m N (k+1):=by
 unfold bytesAt
 have hl:((bytesN m N).take k).length=k:=by simp[bytesN_length];omega
 rw[List.set_append_right _ _ (by omega),hl,Nat.sub_self]
 rw[show m-k=(m-(k+1))+1 by omega,List.replicate_succ,List.set_cons_zero]
 rw[List.take_succ_eq_append_getElem (by rw[bytesN_length];exact h)]
 simp[bytesN]
end Go.Eng
namespace Go.Proofs.YteldhmehjkhanaaGreatDoor.fp
open Go Go.Eng Go.RowKit Cr Go.Proofs.YteldhmehjkhanaaGreatDoor
theorem ent_words:enters Tryz.prog 118 Tryz.f118:=ek
noncomputable def wordsI (bs:List Int) (g:Int × List Int):St:=mkSt Tryz.f118.ntmps 40 [(0,.is (.one (.ro (.int .u8) bs))),(2,.is (.one (.ptr 0 0))),(3,.is (.one (.ptr 8 0))),(7,.is (.one (.ro (.int .u8) bs))),(8,sI .i64 bs.length),(9,sI .i64 g.1)] [(8,[.ints .u64 6 g.2]),(0,[.ints .u64 6 (zeros 6)])]
abbrev preWords:HL [.sl (.int .u8)]->Prop:=fun (bs,_)=>Bs bs/\List.length bs<=48
abbrev outWords:HL [.sl (.int .u8)]->HO [.val (.arr 6 (.int .u64))]:=fun (bs,_)=>(lim 6 (num bs),())
theorem fn_words:FnOk Tryz.prog 118 [.sl (.int .u8)] [.val (.arr 6 (.int .u64))] noG preWords outWords:=by
 refine fn_of_tr (sp:=sps []) ent_words (by decide) (by decide) (by kernel_rfl) ?_
 have hsp:SpecsOk Tryz.prog (sps []):=snl
 rintro w M0 ⟨bs,⟨⟩⟩ _ ⟨hb,hl⟩
 have hb:Bs bs:=hb
 have hl:List.length bs<=48:=hl
 show Tr _ _ _ _ _ _ _
 refine tr_cut hsp mixed 3 (wordsI bs (0,List.replicate 6 0)) True ?_ (fun _=>?_)
 ·refine vcx (X:=(wordsI bs (0,List.replicate 6 0)).triv True) (by kernel_rfl) (tvi trivial)
 rw[<- words_zero 6 bs]
 refine tr_count hsp mixed (wordsI bs) (fun k=>((k:Int),lim 6 (num (List.take k bs)*p256 (List.length bs-k)))) bs.length (fun g=>(IntKind.i64.wrap (g.1+1),wput g.2 bs.length g.1 (bs.getD g.1.toNat 0))) (wordsI bs) (c:=nthC (codeOf Tryz.f118) 3) (by kernel_rfl) (by kernel_rfl) (le_of_proj (by kernel_rfl) (by kernel_rfl) trivial)
  (fun k hk=>by
   show (_,_)=(_,_)
   rw[wrap_succ (by omega),Int.toNat_natCast,wput_ok hb hl (by omega) hk]) ?_ ?_
 ·intro k hk
  refine vcx (X:=((decide ((k:Int)<(bs.length:Int))=true->(0<=(k:Int)/\(k:Int)<(bs.length:Int))/\(k:Int).toNat<bs.length/\(8:Int)≠0/\(0<=wj bs.length k/\wj bs.length k<((6:Nat):Int))/\(wj bs.length k).toNat<6/\(8:Int)≠0/\0<=wsh bs.length k/\(0<=wj bs.length k/\wj bs.length k<((6:Nat):Int))/\(wj bs.length k).toNat<6 /\
    (wordsI bs (IntKind.i64.wrap ((k:Int)+1),wput (lim 6 (num (List.take k bs)*p256 (List.length bs-k))) bs.length k (bs.getD (k:Int).toNat 0))).triv (k<bs.length)) /\
   (decide ((k:Int)<(bs.length:Int))=false->(wordsI bs ((k:Int),lim 6 (num (List.take k bs)*p256 (List.length bs-k)))).triv (k=bs.length)))) (by kernel_rfl) ?_
  refine⟨fun h=>?_,fun h=>tvi (by have:=dec_ge h;omega)⟩
  have hlt:k<bs.length:=by have:=dec_lt h;omega
  obtain⟨b1,b2,b3⟩:=wput_bd (n:=6) hl (by omega) hlt
  exact⟨⟨by omega,by omega⟩,by omega,by decide,b1,b2,by decide,b3,b1,b2,tvi hlt⟩
 refine tr_vc hsp mixed _ _ ?_
 refine vcx (X:=((lim 6 (num (List.take bs.length bs)*p256 (List.length bs-bs.length)),()):List Int × Unit)=outWords (bs,())) (by kernel_rfl) ?_
 rw[List.take_length,Nat.sub_self,p256,Int.mul_one]
noncomputable def spWords:Nat × Eng.Spec:=(118,fnSpec [.sl (.int .u8)] [.val (.arr 6 (.int .u64))] preWords outWords)
theorem ent_plain:enters Tryz.prog 66 Tryz.f66:=ek
abbrev outPlain:HL [.fp]->HO [.val (.arr 6 (.int .u64))]:=fun (x,_)=>(lim 6 (Zm.v (x:Fp)),())
theorem fn_plain:FnOk Tryz.prog 66 [.fp] [.val (.arr 6 (.int .u64))] noG (fun _=>True) outPlain:=by
 refine fn_of_vc (sp:=sps [spTimes]) (spk (fok fn_times) snl) mixed ent_plain (by decide) (by decide) ?_
 rintro w M0 ⟨x,⟨⟩⟩ _ _
 refine vcx (X:=(preTimes (enc x,[1,0,0,0,0,0],())/\((lim 6 (val (enc x)*val [1,0,0,0,0,0]*rinv%M),()):List Int × Unit)=outPlain (x,()))) (by kernel_rfl) ?_
 refine⟨⟨enc_ws x,by intro y hy;simp at hy;rcases hy with rfl|rfl<;>exact⟨by decide,by decide⟩,(enc_canon x).2.2⟩,?_⟩
 rw[show lim 6 (val (enc x)*val [1,0,0,0,0,0]*rinv%M)=lim 6 x.v from plain_enc x (by decide)]
noncomputable def spPlain:Nat × Eng.Spec:=(66,fnSpec [.fp] [.val (.arr 6 (.int .u64))] (fun _=>True) outPlain)
theorem ent_bytes:enters Tryz.prog 37 Tryz.f37:=ek
noncomputable def bytesI (ws:List Int) (g:Int × List Int):St:=mkSt Tryz.f37.ntmps 64 [(2,.is (.one (.ptr 8 0))),(3,.is (.one (.ptr 16 0))),(4,.is (.one (.ptr 40 0))),(8,sI .i64 g.1)] [(8,[.ints .u8 48 (zeros 48)]),(16,[.ints .u8 48 g.2]),(40,[.ints .u64 6 ws])]
abbrev outBytes:HL [.fp]->HO [.val (.arr 48 (.int .u8))]:=fun (x,_)=>(bytesN 48 (Zm.v (x:Fp)),())
theorem fn_bytes:FnOk Tryz.prog 37 [.fp] [.val (.arr 48 (.int .u8))] noG (fun _=>True) outBytes:=by
 have hsp:SpecsOk Tryz.prog (sps [spPlain]):=spk (fok fn_plain) snl
 refine fn_of_tr (sp:=sps [spPlain]) ent_bytes (by decide) (by decide) (by kernel_rfl) ?_
 rintro w M0 ⟨x,⟨⟩⟩ _ _
 show Tr _ _ _ _ _ _ _
 refine tr_cut hsp mixed 4 (bytesI (lim 6 x.v) (0,List.replicate 48 0)) True ?_ (fun _=>?_)
 ·refine vcx (X:=True/\(bytesI (lim 6 x.v) (0,List.replicate 48 0)).triv True) (by kernel_rfl) ⟨trivial,tvi trivial⟩
 rw[<- bytesAt_zero 48 x.v]
 refine tr_count hsp mixed (bytesI (lim 6 x.v)) (fun k=>((k:Int),bytesAt 48 x.v k)) 48 (fun g=>(IntKind.i64.wrap (g.1+1),g.2.set g.1.toNat (bget (5:Nat) (lim 6 x.v) g.1))) (bytesI (lim 6 x.v)) (c:=nthC (codeOf Tryz.f37) 4) (by kernel_rfl) (by kernel_rfl) (le_of_proj (by kernel_rfl) (by kernel_rfl) trivial)
  (fun k hk=>by
   show (_,_)=(_,_)
   rw[wrap_succ (by omega),Int.toNat_natCast,bget_ok (n:=5) hk (by omega),bytesAt_succ hk]) ?_ ?_
 ·intro k hk
  refine vcx (X:=((decide ((k:Int)<48)=true->(8:Int)≠0/\(0<=bj (5:Nat) k/\bj (5:Nat) k<((6:Nat):Int))/\(bj (5:Nat) k).toNat<6/\(8:Int)≠0/\0<=bsh k/\(0<=(k:Int)/\(k:Int)<((48:Nat):Int))/\(k:Int).toNat<48 /\
    (bytesI (lim 6 x.v) (IntKind.i64.wrap ((k:Int)+1),(bytesAt 48 x.v k).set (k:Int).toNat (bget (5:Nat) (lim 6 x.v) k))).triv (k<48)) /\
   (decide ((k:Int)<48)=false->(bytesI (lim 6 x.v) ((k:Int),bytesAt 48 x.v k)).triv (k=48)))) (by kernel_rfl) ?_
  refine⟨fun h=>?_,fun h=>tvi (by have:=dec_ge h;omega)⟩
  have hlt:k<48:=by have:=dec_lt h;omega
  obtain⟨b1,b2,b3⟩:=bget_bd (n:=5) hlt (by omega)
  exact⟨by decide,b1,b2,by decide,b3,⟨by omega,by omega⟩,by omega,tvi hlt⟩
 refine tr_vc hsp mixed _ _ ?_
 refine vcx (X:=((bytesAt 48 x.v 48,()):List Int × Unit)=outBytes (x,())) (by kernel_rfl) ?_
 rw[bytesAt_all]
noncomputable def spBytes:Nat × Eng.Spec:=(37,fnSpec [.fp] [.val (.arr 48 (.int .u8))] (fun _=>True) outBytes)
end Go.Proofs.YteldhmehjkhanaaGreatDoor.fp
namespace Go.Proofs.YteldhmehjkhanaaGreatDoor.fr
open Go Go.Eng Go.RowKit Cr Go.Proofs.YteldhmehjkhanaaGreatDoor
theorem ent_words:enters Tryz.prog 36 Tryz.f36:=ek
noncomputable def wordsI (bs:List Int) (g:Int × List Int):St:=mkSt Tryz.f36.ntmps 40 [(0,.is (.one (.ro (.int .u8) bs))),(2,.is (.one (.ptr 0 0))),(3,.is (.one (.ptr 8 0))),(7,.is (.one (.ro (.int .u8) bs))),(8,sI .i64 bs.length),(9,sI .i64 g.1)] [(8,[.ints .u64 4 g.2]),(0,[.ints .u64 4 (zeros 4)])]
abbrev preWords:HL [.sl (.int .u8)]->Prop:=fun (bs,_)=>Bs bs/\List.length bs<=32
abbrev outWords:HL [.sl (.int .u8)]->HO [.val (.arr 4 (.int .u64))]:=fun (bs,_)=>(lim 4 (num bs),())
theorem fn_words:FnOk Tryz.prog 36 [.sl (.int .u8)] [.val (.arr 4 (.int .u64))] noG preWords outWords:=by
 refine fn_of_tr (sp:=sps []) ent_words (by decide) (by decide) (by kernel_rfl) ?_
 have hsp:SpecsOk Tryz.prog (sps []):=snl
 rintro w M0 ⟨bs,⟨⟩⟩ _ ⟨hb,hl⟩
 have hb:Bs bs:=hb
 have hl:List.length bs<=32:=hl
 show Tr _ _ _ _ _ _ _
 refine tr_cut hsp mixed 3 (wordsI bs (0,List.replicate 4 0)) True ?_ (fun _=>?_)
 ·refine vcx (X:=(wordsI bs (0,List.replicate 4 0)).triv True) (by kernel_rfl) (tvi trivial)
 rw[<- words_zero 4 bs]
 refine tr_count hsp mixed (wordsI bs) (fun k=>((k:Int),lim 4 (num (List.take k bs)*p256 (List.length bs-k)))) bs.length (fun g=>(IntKind.i64.wrap (g.1+1),wput g.2 bs.length g.1 (bs.getD g.1.toNat 0))) (wordsI bs) (c:=nthC (codeOf Tryz.f36) 3) (by kernel_rfl) (by kernel_rfl) (le_of_proj (by kernel_rfl) (by kernel_rfl) trivial)
  (fun k hk=>by
   show (_,_)=(_,_)
   rw[wrap_succ (by omega),Int.toNat_natCast,wput_ok hb hl (by omega) hk]) ?_ ?_
 ·intro k hk
  refine vcx (X:=((decide ((k:Int)<(bs.length:Int))=true->(0<=(k:Int)/\(k:Int)<(bs.length:Int))/\(k:Int).toNat<bs.length/\(8:Int)≠0/\(0<=wj bs.length k/\wj bs.length k<((4:Nat):Int))/\(wj bs.length k).toNat<4/\(8:Int)≠0/\0<=wsh bs.length k/\(0<=wj bs.length k/\wj bs.length k<((4:Nat):Int))/\(wj bs.length k).toNat<4 /\
    (wordsI bs (IntKind.i64.wrap ((k:Int)+1),wput (lim 4 (num (List.take k bs)*p256 (List.length bs-k))) bs.length k (bs.getD (k:Int).toNat 0))).triv (k<bs.length)) /\
   (decide ((k:Int)<(bs.length:Int))=false->(wordsI bs ((k:Int),lim 4 (num (List.take k bs)*p256 (List.length bs-k)))).triv (k=bs.length)))) (by kernel_rfl) ?_
  refine⟨fun h=>?_,fun h=>tvi (by have:=dec_ge h;omega)⟩
  have hlt:k<bs.length:=by have:=dec_lt h;omega
  obtain⟨b1,b2,b3⟩:=wput_bd (n:=4) hl (by omega) hlt
  exact⟨⟨by omega,by omega⟩,by omega,by decide,b1,b2,by decide,b3,b1,b2,tvi hlt⟩
 refine tr_vc hsp mixed _ _ ?_
 refine vcx (X:=((lim 4 (num (List.take bs.length bs)*p256 (List.length bs-bs.length)),()):List Int × Unit)=outWords (bs,())) (by kernel_rfl) ?_
 rw[List.take_length,Nat.sub_self,p256,Int.mul_one]
noncomputable def spWords:Nat × Eng.Spec:=(36,fnSpec [.sl (.int .u8)] [.val (.arr 4 (.int .u64))] preWords outWords)
theorem ent_bytes:enters Tryz.prog 70 Tryz.f70:=ek
noncomputable def bytesI (ws:List Int) (g:Int × List Int):St:=mkSt Tryz.f70.ntmps 80 [(2,.is (.one (.ptr 8 0))),(3,.is (.one (.ptr 16 0))),(4,.is (.one (.ptr 56 0))),(10,sI .i64 g.1)] [(8,[.ints .u8 32 (zeros 32)]),(16,[.ints .u8 32 g.2]),(56,[.ints .u64 4 ws])]
abbrev outBytes:HL [.fr]->HO [.val (.arr 32 (.int .u8))]:=fun (x,_)=>(bytesN 32 (Zm.v (x:Fr)),())
theorem fn_bytes:FnOk Tryz.prog 70 [.fr] [.val (.arr 32 (.int .u8))] noG (fun _=>True) outBytes:=by
 have hsp:SpecsOk Tryz.prog (sps [spTimes]):=spk (fok fn_times) snl
 refine fn_of_tr (sp:=sps [spTimes]) ent_bytes (by decide) (by decide) (by kernel_rfl) ?_
 rintro w M0 ⟨x,⟨⟩⟩ _ _
 show Tr _ _ _ _ _ _ _
 refine tr_cut hsp mixed 4 (bytesI (lim 4 (val (enc x)*val [1,0,0,0]*rinv%M)) (0,List.replicate 32 0)) True ?_ (fun _=>?_)
 ·refine vcx (X:=preTimes (enc x,[1,0,0,0],())/\(bytesI (lim 4 (val (enc x)*val [1,0,0,0]*rinv%M)) (0,List.replicate 32 0)).triv True) (by kernel_rfl) ⟨⟨enc_ws x,by intro y hy;simp at hy;rcases hy with rfl|rfl<;>exact⟨by decide,by decide⟩,(enc_canon x).2.2⟩,tvi trivial⟩
 rw[show lim 4 (val (enc x)*val [1,0,0,0]*rinv%M)=lim 4 x.v from plain_enc x (by decide)]
 rw[<- bytesAt_zero 32 x.v]
 refine tr_count hsp mixed (bytesI (lim 4 x.v)) (fun k=>((k:Int),bytesAt 32 x.v k)) 32 (fun g=>(IntKind.i64.wrap (g.1+1),g.2.set g.1.toNat (bget (3:Nat) (lim 4 x.v) g.1))) (bytesI (lim 4 x.v)) (c:=nthC (codeOf Tryz.f70) 4) (by kernel_rfl) (by kernel_rfl) (le_of_proj (by kernel_rfl) (by kernel_rfl) trivial)
  (fun k hk=>by
   show (_,_)=(_,_)
   rw[wrap_succ (by omega),Int.toNat_natCast,bget_ok (n:=3) hk (by omega),bytesAt_succ hk]) ?_ ?_
 ·intro k hk
  refine vcx (X:=((decide ((k:Int)<32)=true->(8:Int)≠0/\(0<=bj (3:Nat) k/\bj (3:Nat) k<((4:Nat):Int))/\(bj (3:Nat) k).toNat<4/\(8:Int)≠0/\0<=bsh k/\(0<=(k:Int)/\(k:Int)<((32:Nat):Int))/\(k:Int).toNat<32 /\
    (bytesI (lim 4 x.v) (IntKind.i64.wrap ((k:Int)+1),(bytesAt 32 x.v k).set (k:Int).toNat (bget (3:Nat) (lim 4 x.v) k))).triv (k<32)) /\
   (decide ((k:Int)<32)=false->(bytesI (lim 4 x.v) ((k:Int),bytesAt 32 x.v k)).triv (k=32)))) (by kernel_rfl) ?_
  refine⟨fun h=>?_,fun h=>tvi (by have:=dec_ge h;omega)⟩
  have hlt:k<32:=by have:=dec_lt h;omega
  obtain⟨b1,b2,b3⟩:=bget_bd (n:=3) hlt (by omega)
  exact⟨by decide,b1,b2,by decide,b3,⟨by omega,by omega⟩,by omega,tvi hlt⟩
 refine tr_vc hsp mixed _ _ ?_
 refine vcx (X:=((bytesAt 32 x.v 32,()):List Int × Unit)=outBytes (x,())) (by kernel_rfl) ?_
 rw[bytesAt_all]
noncomputable def spBytes:Nat × Eng.Spec:=(70,fnSpec [.fr] [.val (.arr 32 (.int .u8))] (fun _=>True) outBytes)
end Go.Proofs.YteldhmehjkhanaaGreatDoor.fr
namespace Go.Proofs.YteldhmehjkhanaaGreatDoor.fp
open Go Go.Eng Go.RowKit Cr Go.Proofs.YteldhmehjkhanaaGreatDoor
theorem ent_read:enters Tryz.prog 93 Tryz.f93:=ek
abbrev preRead:HL [.sl (.int .u8)]->Prop:=fun (bs,_)=>Bs bs
def rdFp (bs:List Int):Fp × Int:=if bs.length=48 then (if num bs<Mp then (zm (num bs),0) else (0,12)) else (0,10)
abbrev outRead:HL [.sl (.int .u8)]->HO [.val .fp,.val (.int .i64)]:=fun (bs,_)=>((rdFp bs).1,(rdFp bs).2,())
theorem fn_read:FnOk Tryz.prog 93 [.sl (.int .u8)] [.val .fp,.val (.int .i64)] noG preRead outRead:=by
 refine fn_of_vc (sp:=sps [spWords,spModulus,spMinus,spShift,spTimes]) (spk (fok fn_words) (spk (fok fn_modulus) (spk (fok fn_minus) (spk (fok fn_shift) (spk (fok fn_times) snl))))) mixed ent_read (by decide) (by decide) ?_
 rintro w M0 ⟨bs,⟨⟩⟩ _ hb
 have hb:Bs bs:=hb
 refine vcx (X:=(((((bs.length:Int) != 48)=true->(((0:Fp),(10:Int),())=outRead (bs,()))) /\
  (((bs.length:Int) != 48)=false->preWords (bs,())/\True/\pre2 (lim 6 (num bs),ms,()) /\
   ((((if val (lim 6 (num bs))<val ms then (1:Int) else 0)==0)=true->(((0:Fp),(12:Int),())=outRead (bs,()))) /\
    (((if val (lim 6 (num bs))<val ms then (1:Int) else 0)==0)=false->True/\preTimes (enc (R2:Fp),lim 6 (num bs),())/\Canon Mp (lim 6 (val (enc (R2:Fp))*val (lim 6 (num bs))*rinv%M))/\((dec (lim 6 (val (enc (R2:Fp))*val (lim 6 (num bs))*rinv%M)),(0:Int),())=outRead (bs,())))))))) (by kernel_rfl) ?_
 refine⟨fun h=>?_,fun h=>?_⟩
 ·have:¬ bs.length=48:=by intro e;rw[e] at h;exact absurd h (by decide)
  simp[outRead,rdFp,this]
 ·have hl:bs.length=48:=by
   have:¬ ((bs.length:Int)≠48):=by simpa using h
   omega
  have hnb:=num_bd hb
  rw[hl] at hnb
  have hp:p256 48=pw 6:=p256_8 6
  have hv:val (lim 6 (num bs))=num bs:=val_lim_of hnb.1 (by rw[<- hp];exact hnb.2)
  refine⟨⟨hb,by show List.length bs<=48;omega⟩,trivial,⟨lim_ws _ _,ws_ms⟩,fun h=>?_,fun h=>⟨trivial,⟨enc_ws _,lim_ws _ _,(enc_canon _).2.2⟩,?_⟩⟩
  ·rw[hv,val_ms] at h
   have:¬ num bs<Mp:=by intro hh;rw[if_pos hh] at h;exact absurd h (by decide)
   simp[outRead,rdFp,hl,this]
  ·rw[hv,val_ms] at h
   have:num bs<Mp:=Decidable.byContradiction fun hh=>by rw[if_neg hh] at h;exact absurd h (by decide)
   rw[show lim 6 (val (enc (R2:Fp))*val (lim 6 (num bs))*rinv%M)=enc (zm (val (lim 6 (num bs))):Fp) from shift_enc (M:=Mp),hv]
   refine⟨enc_canon _,?_⟩
   rw[dec_enc]
   simp[outRead,rdFp,hl,this]
noncomputable def spRead:Nat × Eng.Spec:=(93,fnSpec [.sl (.int .u8)] [.val .fp,.val (.int .i64)] preRead outRead)
theorem ent_odd:enters Tryz.prog 166 Tryz.f166:=ek
abbrev outOdd:HL [.fp]->HO [.val .bool]:=fun (x,_)=>(decide (Zm.v (x:Fp)%2=1),())
theorem and_one {a:Int} (h0:0<=a) (h1:a<18446744073709551616):bitOp .and .u64 a 1=a%2:=by
 obtain⟨n,rfl⟩:=Int.eq_ofNat_of_zero_le h0
 have:=and_u64 n 1 (by omega) (by omega)
 rw[show ((1:Nat):Int)=1 from rfl] at this
 rw[this,Nat.and_one_is_mod]
 omega
theorem fn_odd:FnOk Tryz.prog 166 [.fp] [.val .bool] noG (fun _=>True) outOdd:=by
 refine fn_of_vc (sp:=sps [spPlain]) (spk (fok fn_plain) snl) mixed ent_odd (by decide) (by decide) ?_
 rintro w M0 ⟨x,⟨⟩⟩ _ _
 refine vcx (X:=(True/\((bitOp .and .u64 ((lim 6 x.v).getD 0 0) 1==1,()):Bool × Unit)=outOdd (x,()))) (by kernel_rfl) ⟨trivial,?_⟩
 rw[show (lim 6 x.v).getD 0 0=x.v%18446744073709551616 from rfl,and_one (by omega) (by omega)]
 have e:x.v%18446744073709551616%2=x.v%2:=by omega
 rw[e]
 simp only[outOdd,Prod.mk.injEq,and_true]
 rw[Bool.eq_iff_iff,beq_iff_eq,decide_eq_true_iff]
noncomputable def spOdd:Nat × Eng.Spec:=(166,fnSpec [.fp] [.val .bool] (fun _=>True) outOdd)
theorem val_lim_v (x:Fp):val (lim 6 x.v)=x.v:=val_lim_of x.nn (by have:=x.lt;have:Mp<pw 6:=(by decide);omega)
theorem ent_large:enters Tryz.prog 39 Tryz.f39:=ek
abbrev outLarge:HL [.fp]->HO [.val .bool]:=fun (x,_)=>(decide (Zm.v (-(x:Fp))<Zm.v (x:Fp)),())
theorem fn_large:FnOk Tryz.prog 39 [.fp] [.val .bool] noG (fun _=>True) outLarge:=by
 refine fn_of_vc (sp:=sps [spPlain,spNeg,spMinus]) (spk (fok fn_plain) (spk (fok fn_neg) (spk (fok fn_minus) snl))) mixed ent_large (by decide) (by decide) ?_
 rintro w M0 ⟨x,⟨⟩⟩ _ _
 refine vcx (X:=(True/\True/\True/\pre2 (lim 6 (-x).v,lim 6 x.v,())/\(((if val (lim 6 (-x).v)<val (lim 6 x.v) then (1:Int) else 0)==1,()):Bool × Unit)=outLarge (x,()))) (by kernel_rfl) ⟨trivial,trivial,trivial,⟨lim_ws _ _,lim_ws _ _⟩,?_⟩
 rw[val_lim_v,val_lim_v]
 simp only[outLarge,Prod.mk.injEq,and_true]
 by_cases h:(-x).v<x.v
 ·simp[h]
 ·simp[h]
noncomputable def spLarge:Nat × Eng.Spec:=(39,fnSpec [.fp] [.val .bool] (fun _=>True) outLarge)
end Go.Proofs.YteldhmehjkhanaaGreatDoor.fp
namespace Go.Proofs.YteldhmehjkhanaaGreatDoor.fr
open Go Go.Eng Go.RowKit Cr Go.Proofs.YteldhmehjkhanaaGreatDoor
theorem ent_wide:enters Tryz.prog 11 Tryz.f11:=ek
noncomputable def wideI (g:List Int × Fr):St:=mkSt Tryz.f11.ntmps 40 [(0,.is (.one (.ro (.int .u8) g.1))),(2,.is (.one (.ptr 0 0))),(3,.is (.one (.ptr 8 0))),(4,.is (.one (.ptr 24 0)))] [(0,[.row .fr 1 [(0:Fr)]]),(8,[.row .fr 1 [g.2]]),(24,[.row .fr 1 [(R2:Fr)]])]
def wn (len:Int):Int:=IntKind.i64.wrap ((IntKind.i64.wrap (len-1)).tmod 32+1)
def wch (bs:List Int):List Int:=List.take (wn bs.length-0).toNat (List.drop (Int.toNat 0) bs)
def wideN (g:List Int × Fr):List Int × Fr:=(List.take ((g.1.length:Int)-wn g.1.length).toNat (List.drop (wn g.1.length).toNat g.1),g.2*R2+dec (lim 4 (val (enc (R2:Fr))*val (lim 4 (num (wch g.1)))*rinv%M)))
def wp (len k:Nat):Nat:=len-32*((len+31)/32-k)
def wideG (bs:List Int) (k:Nat):List Int × Fr:=(bs.drop (wp bs.length k),zm (num (bs.take (wp bs.length k))))
theorem wn_eq {L:Nat} (h0:0<L) (h1:L<4611686018427387904):wn L=(((L-1)%32+1:Nat):Int):=by
 unfold wn
 rw[wrap_i64' (a:=(L:Int)-1) (by omega) (by omega),Int.tmod_eq_emod_of_nonneg (by omega),wrap_i64' (by omega) (by omega)]
 omega
theorem wide_next {bs:List Int} (hb:Bs bs) (hl:bs.length<4611686018427387904) {k:Nat} (hk:k<(bs.length+31)/32) :
  0<bs.length-wp bs.length k/\wideN (wideG bs k)=wideG bs (k+1)/\(wch (bs.drop (wp bs.length k))).length<=32/\1<=(bs.length-wp bs.length k-1)%32+1/\(bs.length-wp bs.length k-1)%32+1<=bs.length-wp bs.length k:=by
 have hL:0<bs.length-wp bs.length k:=by unfold wp;omega
 have hn:(bs.length-wp bs.length k-1)%32+1=wp bs.length (k+1)-wp bs.length k:=by unfold wp;omega
 have hle:wp bs.length (k+1)<=bs.length:=by unfold wp;omega
 have hlt:wp bs.length k<wp bs.length (k+1):=by unfold wp;omega
 have hlen:(bs.drop (wp bs.length k)).length=bs.length-wp bs.length k:=List.length_drop
 have hwn:wn (bs.drop (wp bs.length k)).length=((wp bs.length (k+1)-wp bs.length k:Nat):Int):=by
  rw[wn_eq (by omega) (by omega),hlen,hn]
 have hch:wch (bs.drop (wp bs.length k))=(bs.drop (wp bs.length k)).take (wp bs.length (k+1)-wp bs.length k):=by
  unfold wch
  rw[hwn]
  congr 1
 refine⟨hL,?_,?_,by omega,by omega⟩
 ·unfold wideN wideG
  simp only
  rw[hwn,hch]
  have e1:List.take (((bs.drop (wp bs.length k)).length:Int)-((wp bs.length (k+1)-wp bs.length k:Nat):Int)).toNat (List.drop ((wp bs.length (k+1)-wp bs.length k:Nat):Int).toNat (bs.drop (wp bs.length k)))=bs.drop (wp bs.length (k+1)):=by
   rw[Int.toNat_natCast,List.drop_drop,show wp bs.length k+(wp bs.length (k+1)-wp bs.length k)=wp bs.length (k+1) by omega]
   exact List.take_of_length_le (by simp;omega)
  rw[e1]
  congr 1
  have hcb:Bs ((bs.drop (wp bs.length k)).take (wp bs.length (k+1)-wp bs.length k)):=Bs_take (Bs_drop hb _) _
  have hcl:((bs.drop (wp bs.length k)).take (wp bs.length (k+1)-wp bs.length k)).length=wp bs.length (k+1)-wp bs.length k:=by simp;omega
  have hc32:wp bs.length (k+1)-wp bs.length k<=32:=by omega
  have hnb:=num_bd hcb
  rw[hcl] at hnb
  have hpl:p256 (wp bs.length (k+1)-wp bs.length k)<=pw 4:=by
   rw[<- p256_8,show 8*4=(wp bs.length (k+1)-wp bs.length k)+(32-(wp bs.length (k+1)-wp bs.length k)) by omega,p256_add]
   have h1:=p256_pos (wp bs.length (k+1)-wp bs.length k)
   have h2:=p256_pos (32-(wp bs.length (k+1)-wp bs.length k))
   have:=Int.mul_le_mul_of_nonneg_left (show 1<=p256 (32-(wp bs.length (k+1)-wp bs.length k)) by omega) (Int.le_of_lt h1)
   omega
  rw[show lim 4 (val (enc (R2:Fr))*val (lim 4 (num ((bs.drop (wp bs.length k)).take (wp bs.length (k+1)-wp bs.length k))))*rinv%M)=enc (zm (val (lim 4 (num ((bs.drop (wp bs.length k)).take (wp bs.length (k+1)-wp bs.length k))))):Fr) from shift_enc (M:=Mr),val_lim_of hnb.1 (by omega),dec_enc]
  show zm _*zm (pw 4)+zm _=zm _
  rw[zm_mul,zm_add]
  congr 1
  have hsplit:bs.take (wp bs.length (k+1))=bs.take (wp bs.length k)++(bs.drop (wp bs.length k)).take (wp bs.length (k+1)-wp bs.length k):=by
   rw[<- List.take_add,show wp bs.length k+(wp bs.length (k+1)-wp bs.length k)=wp bs.length (k+1) by omega]
  rw[hsplit,num_append,hcl]
  by_cases h0:wp bs.length k=0
  ·rw[h0];simp[num]
  ·rw[show wp bs.length (k+1)-wp bs.length k=32 by unfold wp at h0 ⊢;omega,<- p256_8]
 ·rw[hch];simp;omega
abbrev preWide:HL [.sl (.int .u8)]->Prop:=fun (bs,_)=>Bs bs/\List.length bs<4611686018427387904
abbrev outWide:HL [.sl (.int .u8)]->HO [.val .fr]:=fun (bs,_)=>((zm (num bs):Fr),())
theorem fn_wide:FnOk Tryz.prog 11 [.sl (.int .u8)] [.val .fr] noG preWide outWide:=by
 have hsp:SpecsOk Tryz.prog (sps [spWords,spMul,spAdd,spShift,spTimes]):=spk (fok fn_words) (spk (fok fn_mul) (spk (fok fn_add) (spk (fok fn_shift) (spk (fok fn_times) snl))))
 refine fn_of_tr (sp:=sps [spWords,spMul,spAdd,spShift,spTimes]) ent_wide (by decide) (by decide) (by kernel_rfl) ?_
 rintro w M0 ⟨bs,⟨⟩⟩ _ ⟨hb,hl⟩
 have hb:Bs bs:=hb
 have hl:bs.length<4611686018427387904:=hl
 show Tr _ _ _ _ _ _ _
 refine tr_cut hsp mixed 3 (wideI (bs,0)) True ?_ (fun _=>?_)
 ·refine vcx (X:=True/\(wideI (bs,0)).triv True) (by kernel_rfl) ⟨trivial,tvi trivial⟩
 have e0:(bs,(0:Fr))=wideG bs 0:=by
  unfold wideG
  rw[show wp bs.length 0=0 by unfold wp;omega]
  rfl
 rw[e0]
 refine tr_count hsp mixed wideI (wideG bs) ((bs.length+31)/32) wideN wideI (c:=nthC (codeOf Tryz.f11) 3) (by kernel_rfl) (by kernel_rfl) (le_of_proj (by kernel_rfl) (by kernel_rfl) trivial)
  (fun k hk=>(wide_next hb hl hk).2.1) ?_ ?_
 ·intro k hk
  have hlen:(wideG bs k).1.length=bs.length-wp bs.length k:=by unfold wideG;simp
  have hbs:Bs (wideG bs k).1:=Bs_drop hb _
  have hnx:k<(bs.length+31)/32->(wch (wideG bs k).1).length<=32:=fun h=>(wide_next hb hl h).2.2.1
  have hb1:k<(bs.length+31)/32->1<=((wideG bs k).1.length-1)%32+1/\((wideG bs k).1.length-1)%32+1<=(wideG bs k).1.length:=fun h=>by rw[hlen];exact (wide_next hb hl h).2.2.2
  have hiff:k<(bs.length+31)/32↔0<(wideG bs k).1.length:=by rw[hlen];unfold wp;omega
  have hll:(wideG bs k).1.length<4611686018427387904:=by omega
  clear hlen
  generalize wideG bs k=g at *
  obtain⟨cs,x⟩:=g
  simp only at hbs hnx hb1 hiff hll
  refine vcx (X:=((decide ((cs.length:Int)>0)=true->(32:Int)≠0/\True/\(0<=wn cs.length/\wn cs.length<=(cs.length:Int))/\preWords (wch cs,())/\preTimes (enc (R2:Fr),lim 4 (num (wch cs)),())/\Canon Mr (lim 4 (val (enc (R2:Fr))*val (lim 4 (num (wch cs)))*rinv%M))/\True/\(0<=wn cs.length/\wn cs.length<=(cs.length:Int))/\(wideI (wideN (cs,x))).triv (k<(bs.length+31)/32)) /\
   (decide ((cs.length:Int)>0)=false->(wideI (cs,x)).triv (k=(bs.length+31)/32)))) (by kernel_rfl) ?_
  refine⟨fun h=>?_,fun h=>tvi ?_⟩
  ·have h0:0<cs.length:=by have:=of_decide_eq_true h;omega
   have hk':=hiff.2 h0
   have h1:=hb1 hk'
   have hw:=wn_eq h0 hll
   have hch:Bs (wch cs):=by unfold wch;exact Bs_take (Bs_drop hbs _) _
   refine⟨by decide,trivial,by rw[hw];omega,⟨hch,hnx hk'⟩,⟨enc_ws _,lim_ws _ _,(enc_canon _).2.2⟩,?_,trivial,by rw[hw];omega,tvi hk'⟩
   rw[show lim 4 (val (enc (R2:Fr))*val (lim 4 (num (wch cs)))*rinv%M)=enc (zm (val (lim 4 (num (wch cs)))):Fr) from shift_enc (M:=Mr)]
   exact enc_canon _
  ·have:=of_decide_eq_false h
   omega
 refine tr_vc hsp mixed _ _ ?_
 refine vcx (X:=((wideG bs ((bs.length+31)/32)).2,())=outWide (bs,())) (by kernel_rfl) ?_
 unfold wideG
 rw[show wp bs.length ((bs.length+31)/32)=bs.length by unfold wp;omega,List.take_length]
noncomputable def spWide:Nat × Eng.Spec:=(11,fnSpec [.sl (.int .u8)] [.val .fr] preWide outWide)
end Go.Proofs.YteldhmehjkhanaaGreatDoor.fr
namespace Go.Proofs.YteldhmehjkhanaaGreatDoor
open Go Go.Eng Cr
theorem sbytes_len (s:ByteArray):(sbytes s).length=s.size:=by simp only[sbytes,List.length_map,Array.length_toList];rfl
theorem sbytes_Bs (s:ByteArray):Bs (sbytes s):=by
 intro x hx
 simp only[sbytes,List.mem_map] at hx
 obtain⟨b,_,rfl⟩:=hx
 have:=b.toNat_lt
 omega
abbrev pt1:Kd:=.pair .fp .fp
end Go.Proofs.YteldhmehjkhanaaGreatDoor
namespace Go.Proofs.YteldhmehjkhanaaGreatDoor.g1
open Go Go.Eng Go.RowKit Cr Go.Proofs.YteldhmehjkhanaaGreatDoor
theorem ent_number:enters Tryz.prog 69 Tryz.f69:=ek
abbrev outNumber:HL [.str]->HO [.val .fp]:=fun (s,_)=>((fp.rdFp (sbytes s)).1,())
theorem fn_number:FnOk Tryz.prog 69 [.str] [.val .fp] noG (fun _=>True) outNumber:=by
 refine fn_of_vc (sp:=sps [fp.spRead]) (spk (fok fp.fn_read) snl) mixed ent_number (by decide) (by decide) ?_
 rintro w M0 ⟨s,⟨⟩⟩ _ _
 refine vcx (X:=(0+s.size<=s.size/\fp.preRead ((sbytes s).take s.size,())/\((fp.rdFp ((sbytes s).take s.size)).1,())=outNumber (s,()))) (by kernel_rfl) ?_
 rw[List.take_of_length_le (by rw[sbytes_len];exact Nat.le_refl _)]
 exact⟨by omega,sbytes_Bs s,rfl⟩
noncomputable def spNumber:Nat × Eng.Spec:=(69,fnSpec [.str] [.val .fp] (fun _=>True) outNumber)
def gx:Fp:=zm 0x17f1d3a73197d7942695638c4fa9ac0fc3688c4f9774b905a14e3a3f171bac586c55e83ff97a1aeffb3af00adb22c6bb
def gy:Fp:=zm 0x08b3f481e3aaa0f1a09e30ed741d8ae4fcf5e095d5d00af600db18cb2c04b3edd03cc744a2888ae40caa232946c5e7e1
theorem ent_gen:enters Tryz.prog 40 Tryz.f40:=ek
abbrev outGen:HL []->HO [.val pt1]:=fun _=>((gx,gy),())
theorem fn_gen:FnOk Tryz.prog 40 [] [.val pt1] noG (fun _=>True) outGen:=by
 refine fn_of_vc (sp:=sps [spNumber]) (spk (fok fn_number) snl) mixed ent_gen (by decide) (by decide) ?_
 rintro w M0 ⟨⟩ _ _
 exact vcx (X:=(True/\True/\(((gx,gy),()):(Fp × Fp) × Unit)=outGen ())) (by kernel_rfl) ⟨trivial,trivial,rfl⟩
end Go.Proofs.YteldhmehjkhanaaGreatDoor.g1
namespace Go.Proofs.YteldhmehjkhanaaGreatDoor.codec
open Go Go.Eng Go.RowKit Cr Go.Proofs.YteldhmehjkhanaaGreatDoor
theorem ent_mark:enters Tryz.prog 38 Tryz.f38:=ek
abbrev outMark:HL [.bool,.bool]->HO [.val (.int .u8)]:=fun (a,b,_)=>((if a=true then (192:Int) else if b=true then 160 else 128),())
theorem fn_mark:FnOk Tryz.prog 38 [.bool,.bool] [.val (.int .u8)] noG (fun _=>True) outMark:=by
 refine fn_of_vc (sp:=sps []) snl mixed ent_mark (by decide) (by decide) ?_
 rintro w M0 ⟨a,b,⟨⟩⟩ _ _
 refine vcx (X:=((a=true->((192:Int),())=outMark (a,b,()))/\(a=false->(b=true->((160:Int),())=outMark (a,b,()))/\(b=false->((128:Int),())=outMark (a,b,()))))) (by kernel_rfl) ?_
 refine⟨fun h=>by subst h;rfl,fun h=>⟨fun h2=>by subst h h2;rfl,fun h2=>by subst h h2;rfl⟩⟩
noncomputable def spMark:Nat × Eng.Spec:=(38,fnSpec [.bool,.bool] [.val (.int .u8)] (fun _=>True) outMark)
theorem ent_g1:enters Tryz.prog 15 Tryz.f15:=ek
def g1b (p:Fp × Fp):List Int:=(bytesN 48 p.1.v).set 0 (bitOp .or .u8 ((bytesN 48 p.1.v).getD 0 0) (if (decide (p.1=0)&&decide (p.2=0))=true then (192:Int) else if decide ((-p.2).v<p.2.v)=true then 160 else 128))
abbrev outG1:HL [pt1]->HO [.val (.arr 48 (.int .u8))]:=fun (p,_)=>(g1b p,())
theorem fn_g1:FnOk Tryz.prog 15 [pt1] [.val (.arr 48 (.int .u8))] noG (fun _=>True) outG1:=by
 refine fn_of_vc (sp:=sps [fp.spBytes,fp.spLarge,spMark]) (spk (fok fp.fn_bytes) (spk (fok fp.fn_large) (spk (fok fn_mark) snl))) mixed ent_g1 (by decide) (by decide) ?_
 rintro w M0 ⟨⟨x,y⟩,⟨⟩⟩ _ _
 refine vcx (X:=(True/\True/\True/\(0:Nat)<48/\((g1b (x,y),()):List Int × Unit)=outG1 ((x,y),()))) (by kernel_rfl) ⟨trivial,trivial,trivial,by decide,rfl⟩
end Go.Proofs.YteldhmehjkhanaaGreatDoor.codec
namespace Go.Eng
open Go Cr
def pj (n i:Int):Int:=IntKind.i64.wrap (n-IntKind.i64.wrap (i.tdiv 16))
def psh (i:Int):Int:=IntKind.i64.wrap (60-IntKind.i64.wrap (4*i.tmod 16))
def pdig (n:Int) (ws:List Int) (i:Int):Int:=bitOp .and .u64 (Int.fdiv (ws.getD (pj n i).toNat 0) (2^min (psh i).toNat IntKind.u64.bits)) 15
theorem and_u64n (n m:Nat) (hn:n<18446744073709551616) (hm:m<18446744073709551616):bitOp .and .u64 n m=((n &&& m:Nat):Int):=by
 show IntKind.u64.wrap ((BitVec.ofInt 64 n &&& BitVec.ofInt 64 m:BitVec 64).toNat:Int)=_
 have h1:(BitVec.ofInt 64 (n:Int)).toNat=n:=by rw[show BitVec.ofInt 64 (n:Int)=BitVec.ofNat 64 n from BitVec.ofInt_natCast ..,BitVec.toNat_ofNat,Nat.mod_eq_of_lt (by omega)]
 have h2:(BitVec.ofInt 64 (m:Int)).toNat=m:=by rw[show BitVec.ofInt 64 (m:Int)=BitVec.ofNat 64 m from BitVec.ofInt_natCast ..,BitVec.toNat_ofNat,Nat.mod_eq_of_lt (by omega)]
 rw[BitVec.toNat_and,h1,h2,wrap_u64']
 have:=Nat.and_le_left (n:=n) (m:=m)
 omega
theorem and_15 {a:Int} (h0:0<=a) (h1:a<18446744073709551616):bitOp .and .u64 a 15=a%16:=by
 obtain⟨n,rfl⟩:=Int.eq_ofNat_of_zero_le h0
 have:=and_u64n n 15 (by omega) (by omega)
 rw[show ((15:Nat):Int)=15 from rfl] at this
 rw[this]
 have h:=Nat.and_two_pow_sub_one_eq_mod n 4
 rw[show 2^4-1=15 from rfl] at h
 rw[h]
 omega
theorem pj_eq {n k:Nat} (h:k<16*(n+1)) (hn:n<1000):pj n k=((n-k/16:Nat):Int):=by
 unfold pj
 rw[Int.tdiv_eq_ediv_of_nonneg (by omega),wrap_i64' (a:=(k:Int)/16) (by omega) (by omega),wrap_i64' (by omega) (by omega)]
 omega
theorem psh_eq {k:Nat}:psh k=((4*(15-k%16):Nat):Int):=by
 unfold psh
 rw[Int.tmod_eq_emod_of_nonneg (by omega),wrap_i64' (a:=4*((k:Int)%16)) (by omega) (by omega),wrap_i64' (by omega) (by omega)]
 omega
theorem pdig_ok {n k:Nat} {N:Int} (h:k<16*(n+1)) (hn:n<1000):pdig n (lim (n+1) N) k=N/p16 (16*(n+1)-1-k)%16:=by
 unfold pdig
 rw[pj_eq h hn,psh_eq]
 simp only[Int.toNat_natCast]
 rw[show IntKind.u64.bits=64 from rfl,Nat.min_eq_left (by omega),<- p16_pow,Int.fdiv_eq_ediv_of_nonneg _ (Int.le_of_lt (p16_pos _))]
 have hw:0<=(lim (n+1) N).getD (n-k/16) 0/\(lim (n+1) N).getD (n-k/16) 0<18446744073709551616:=by
  rw[lim_get _ _ _ (by omega)];omega
 have hp:=p16_pos (15-k%16)
 have h1:=Int.ediv_nonneg hw.1 (Int.le_of_lt hp)
 have h2:=Int.ediv_le_self (p16 (15-k%16)) hw.1
 rw[and_15 h1 (by omega)]
 have:=digit_at (n:=n+1) (N:=N) (i:=k) h
 rw[show n+1-1-k/16=n-k/16 by omega] at this
 exact this
theorem pdig_bd {n k:Nat} (h:k<16*(n+1)) (hn:n<1000):(0<=pj n k/\pj n k<((n+1:Nat):Int))/\(pj n k).toNat<n+1/\0<=psh k:=by
 rw[pj_eq h hn,psh_eq]
 exact⟨⟨by omega,by omega⟩,by omega,by omega⟩
def tabAt {α:Type} (f:Nat->α) (z:α) (k:Nat):List α:=(List.range 16).map fun j=>if j<=k then f j else z
theorem tabAt_get {α:Type} (f:Nat->α) (z d:α) {k j:Nat} (h:j<=k) (hj:j<16):(tabAt f z k).getD j d=f j:=by
 simp[tabAt,hj,h]
theorem tabAt_set {α:Type} (f:Nat->α) (z:α) {k:Nat}:(tabAt f z k).set (k+1) (f (k+1))=tabAt f z (k+1):=by
 apply List.ext_getElem
 ·simp[tabAt]
 ·intro i h1 h2
  rw[List.getElem_set]
  split
  ·rename_i e;subst e;simp[tabAt]
  ·rename_i e
   simp only[tabAt,List.getElem_map,List.getElem_range]
   by_cases h:i<=k
   ·rw[if_pos h,if_pos (by omega)]
   ·rw[if_neg h,if_neg (by omega)]
end Go.Eng
namespace Go.Proofs.YteldhmehjkhanaaGreatDoor.fp
noncomputable section
open Go Go.Eng Go.RowKit Cr
theorem ent_power:enters Tryz.prog 157 Tryz.f157:=ek
def powI (x:Fp) (es:List Int) (g:Int × List Fp):St:=mkSt Tryz.f157.ntmps 64 [(2,.is (.one (.ptr 0 0))),(3,.is (.one (.ptr 8 0))),(4,.is (.one (.ptr 16 0))),(5,.is (.one (.ptr 24 0))),(11,sI .i64 g.1)] [(0,[.row .fp 1 [x]]),(8,[.ints .u64 6 es]),(16,[.row .fp 1 [(0:Fp)]]),(24,[.row .fp 16 g.2])]
def powJ (es:List Int) (tb:List Fp) (g:Int × Fp):St:=mkSt Tryz.f157.ntmps 96 [(3,.is (.one (.ptr 8 0))),(4,.is (.one (.ptr 16 0))),(5,.is (.one (.ptr 24 0))),(7,.is (.one (.ptr 72 0))),(24,sI .i64 g.1)] [(8,[.ints .u64 6 es]),(16,[.row .fp 1 [(0:Fp)]]),(24,[.row .fp 16 tb]),(72,[.row .fp 1 [g.2]])]
def powK (es:List Int) (tb:List Fp) (i:Int) (g:Int × Fp):St:=mkSt Tryz.f157.ntmps 128 [(3,.is (.one (.ptr 8 0))),(4,.is (.one (.ptr 16 0))),(5,.is (.one (.ptr 24 0))),(7,.is (.one (.ptr 72 0))),(8,sI .i64 i),(24,sI .i64 i),(27,sI .i64 g.1)] [(8,[.ints .u64 6 es]),(16,[.row .fp 1 [(0:Fp)]]),(24,[.row .fp 16 tb]),(72,[.row .fp 1 [g.2]])]
def powL (es:List Int) (tb:List Fp) (i:Int) (y:Fp):St:=mkSt Tryz.f157.ntmps 104 [(3,.is (.one (.ptr 8 0))),(4,.is (.one (.ptr 16 0))),(5,.is (.one (.ptr 24 0))),(7,.is (.one (.ptr 72 0))),(24,sI .i64 i)] [(8,[.ints .u64 6 es]),(16,[.row .fp 1 [(0:Fp)]]),(24,[.row .fp 16 tb]),(72,[.row .fp 1 [y]])]
abbrev prePower:HL [.fp,(.arr 6 (.int .u64))]->Prop:=fun (_,es,_)=>Ws es
abbrev outPower:HL [.fp,(.arr 6 (.int .u64))]->HO [.val .fp]:=fun (x,es,_)=>(zpw (x:Fp) (val es),())
theorem fn_power:FnOk Tryz.prog 157 [.fp,(.arr 6 (.int .u64))] [.val .fp] noG prePower outPower:=by
 have hsp:SpecsOk Tryz.prog (sps [spOne,spMul,spSquare]):=spk (fok fn_one) (spk (fok fn_mul) (spk (fok fn_square) snl))
 refine fn_of_tr (sp:=sps [spOne,spMul,spSquare]) ent_power (by decide) (by decide) (by kernel_rfl) ?_
 rintro w M0 ⟨x,es,⟨⟩⟩ ⟨_,⟨hl,_⟩,_⟩ he
 have hl:List.length es=6:=hl
 have he:Ws es:=he
 have hE:=val_nonneg he
 have hE2:val es<p16 96:=by have:=val_lt he;rw[hl] at this;rw[show 96=16*6 from rfl,p16_16];exact this
 have hes:es=lim 6 (val es):=by have:=lim_val he;rw[hl] at this;exact this.symm
 show Tr _ _ _ _ _ _ _
 refine tr_cut hsp mixed 4 (powI x es (0,(List.replicate 16 (0:Fp)).set 0 1)) True ?_ (fun _=>?_)
 ·refine vcx (X:=True/\(0:Nat)<16/\(powI x es (0,(List.replicate 16 (0:Fp)).set 0 1)).triv True) (by kernel_rfl) ⟨trivial,by decide,tvi trivial⟩
 rw[show (List.replicate 16 (0:Fp)).set 0 1=tabAt (zpow x) 0 0 from rfl]
 refine tr_count hsp mixed (powI x es) (fun k=>((k:Int),tabAt (zpow x) 0 k)) 15 (fun g=>(IntKind.i64.wrap (g.1+1),g.2.set (IntKind.i64.wrap (g.1+1)).toNat (g.2.getD g.1.toNat 0*x))) (powI x es) (c:=nthC (codeOf Tryz.f157) 4) (by kernel_rfl) (by kernel_rfl) (le_of_proj (by kernel_rfl) (by kernel_rfl) trivial)
  (fun k hk=>by
   show (_,_)=(_,_)
   rw[wrap_succ (by omega),Int.toNat_natCast,Int.toNat_natCast,tabAt_get _ _ _ (Nat.le_refl k) (by omega),show zpow x k*x=zpow x (k+1) from rfl,tabAt_set]) ?_ ?_
 ·intro k hk
  refine vcx (X:=((decide ((k:Int)<15)=true->(0<=(k:Int)/\(k:Int)<((16:Nat):Int))/\(k:Int).toNat<16/\True/\(0<=IntKind.i64.wrap ((k:Int)+1)/\IntKind.i64.wrap ((k:Int)+1)<((16:Nat):Int))/\(IntKind.i64.wrap ((k:Int)+1)).toNat<16 /\
    (powI x es (IntKind.i64.wrap ((k:Int)+1),(tabAt (zpow x) 0 k).set (IntKind.i64.wrap ((k:Int)+1)).toNat ((tabAt (zpow x) 0 k).getD (k:Int).toNat 0*x))).triv (k<15)) /\
   (decide ((k:Int)<15)=false->(powI x es ((k:Int),tabAt (zpow x) 0 k)).triv (k=15)))) (by kernel_rfl) ?_
  refine⟨fun h=>?_,fun h=>tvi (by have:=dec_ge h;omega)⟩
  have hlt:k<15:=by have:=dec_lt h;omega
  rw[wrap_succ (by omega)]
  exact⟨⟨by omega,by omega⟩,by omega,trivial,⟨by omega,by omega⟩,by omega,tvi hlt⟩
 generalize htb:tabAt (zpow x) 0 15=tb
 have hget:∀ j,j<16->tb.getD j 0=zpow x j:=fun j hj=>by rw[<- htb];exact tabAt_get _ _ _ (by omega) hj
 clear htb
 refine tr_cut hsp mixed 2 (powJ es tb (0,1)) True ?_ (fun _=>?_)
 ·refine vcx (X:=True/\(powJ es tb (0,1)).triv True) (by kernel_rfl) ⟨trivial,tvi trivial⟩
 rw[show ((0:Int),(1:Fp))=(((0:Nat):Int),zpow x (val es/p16 (96-0)).toNat) by
  rw[Nat.sub_zero,Int.ediv_eq_zero_of_lt hE hE2];rfl]
 refine tr_countT (powJ es tb) (fun i=>((i:Int),zpow x (val es/p16 (96-i)).toNat)) 96 (fun g=>(IntKind.i64.wrap (g.1+1),sqn g.2 4*tb.getD (pdig (5:Nat) es g.1).toNat 0)) (powJ es tb) (c:=nthC (codeOf Tryz.f157) 7) (by kernel_rfl) (by kernel_rfl) (le_of_proj (by kernel_rfl) (by kernel_rfl) trivial)
  (fun i hi=>by
   show (_,_)=(_,_)
   rw[wrap_succ (by omega),hes,pdig_ok (n:=5) hi (by omega),<- hes]
   rw[hget _ (by omega),sqn_zpow,<- zpow_add]
   congr 2
   have:=digit_step hE (96-1-i)
   rw[show 96-(i+1)=96-1-i by omega,this,show 96-1-i+1=96-i by omega]) ?_ ?_
 ·intro i hi
  generalize zpow x (val es/p16 (96-i)).toNat=y
  refine tr_cut hsp mixed 2 (powL es tb (i:Int) y) (i<96) ?_ (fun hlt=>?_)
  ·refine vcx (X:=((decide ((i:Int)<96)=true->(powL es tb (i:Int) y).triv (i<96))/\(decide ((i:Int)<96)=false->(powJ es tb ((i:Int),y)).triv (i=96)))) (by kernel_rfl) ?_
   exact⟨fun h=>tvi (by have:=dec_lt h;omega),fun h=>tvi (by have:=dec_ge h;omega)⟩
  refine tr_block (c:=nthC (loopOf (nthC (codeOf Tryz.f157) 7)) 2) (by kernel_rfl) (by kernel_rfl) ?_
  refine tr_cut hsp mixed 2 (powK es tb (i:Int) (0,y)) True ?_ (fun _=>?_)
  ·refine vcx (X:=(powK es tb (i:Int) (0,y)).triv True) (by kernel_rfl) (tvi trivial)
  refine tr_count hsp mixed (powK es tb (i:Int)) (fun j=>((j:Int),sqn y j)) 4 (fun g=>(IntKind.i64.wrap (g.1+1),g.2*g.2)) (powK es tb (i:Int)) (c:=nthC (bodyOf (nthC (loopOf (nthC (codeOf Tryz.f157) 7)) 2)) 2) (by kernel_rfl) (by kernel_rfl) (le_of_proj (by kernel_rfl) (by kernel_rfl) trivial)
   (fun j hj=>by show (_,_)=(_,_);rw[wrap_succ (by omega)];rfl) ?_ ?_
  ·intro j hj
   refine vcx (X:=((decide ((j:Int)<4)=true->True/\(powK es tb (i:Int) (IntKind.i64.wrap ((j:Int)+1),sqn y j*sqn y j)).triv (j<4))/\(decide ((j:Int)<4)=false->(powK es tb (i:Int) ((j:Int),sqn y j)).triv (j=4)))) (by kernel_rfl) ?_
   exact⟨fun h=>⟨trivial,tvi (by have:=dec_lt h;omega)⟩,fun h=>tvi (by have:=dec_ge h;omega)⟩
  refine tr_cut hsp mixed 1 (powJ es tb ((i:Int),sqn y 4*tb.getD (pdig (5:Nat) es i).toNat 0)) True ?_ (fun _=>?_)
  ·refine vcx (X:=((16:Int)≠0/\(0<=pj (5:Nat) i/\pj (5:Nat) i<((6:Nat):Int))/\(pj (5:Nat) i).toNat<6/\(16:Int)≠0/\0<=psh i/\(0<=pdig (5:Nat) es i/\pdig (5:Nat) es i<((16:Nat):Int))/\(pdig (5:Nat) es i).toNat<16/\True/\(powJ es tb ((i:Int),sqn y 4*tb.getD (pdig (5:Nat) es i).toNat 0)).triv True)) (by kernel_rfl) ?_
   obtain⟨b1,b2,b3⟩:=pdig_bd (n:=5) hlt (by omega)
   have b4:0<=pdig (5:Nat) es i/\pdig (5:Nat) es i<16:=by
    rw[hes,pdig_ok (n:=5) hlt (by omega)]
    omega
   exact⟨by decide,b1,b2,by decide,b3,b4,by omega,trivial,tvi trivial⟩
  refine tr_nil ?_
  refine tr_vc hsp mixed _ _ ?_
  refine vcx (X:=(powJ es tb (IntKind.i64.wrap ((i:Int)+1),sqn y 4*tb.getD (pdig (5:Nat) es i).toNat 0)).triv (i<96)) (by kernel_rfl) (tvi hlt)
 refine tr_vc hsp mixed _ _ ?_
 refine vcx (X:=(zpow x (val es/p16 (96-96)).toNat,())=outPower (x,es,())) (by kernel_rfl) ?_
 rw[Nat.sub_self,p16,Int.ediv_one,<- zpw_eq]
def spPower:Nat × Eng.Spec:=(157,fnSpec [.fp,(.arr 6 (.int .u64))] [.val .fp] prePower outPower)
theorem ent_inv:enters Tryz.prog 124 Tryz.f124:=ek
def zinv (x:Fp):Fp:=zpw x 4002409555221667393417789825735904156556882819939007885332058136124031650490837864442687629129015664037894272559785
abbrev outInv:HL [.fp]->HO [.val .fp]:=fun (x,_)=>(zinv (x:Fp),())
theorem val_pm2:val [13402431016077863593,2210141511517208575,7435674573564081700,7239337960414712511,5412103778470702295,1873798617647539866]=4002409555221667393417789825735904156556882819939007885332058136124031650490837864442687629129015664037894272559785:=by decide
theorem fn_inv:FnOk Tryz.prog 124 [.fp] [.val .fp] noG (fun _=>True) outInv:=by
 refine fn_of_vc (sp:=sps [spPower]) (spk (fok fn_power) snl) mixed ent_inv (by decide) (by decide) ?_
 rintro w M0 ⟨x,⟨⟩⟩ _ _
 refine vcx (X:=(prePower (x,[13402431016077863593,2210141511517208575,7435674573564081700,7239337960414712511,5412103778470702295,1873798617647539866],())/\(zpw x (val [13402431016077863593,2210141511517208575,7435674573564081700,7239337960414712511,5412103778470702295,1873798617647539866]),())=outInv (x,()))) (by kernel_rfl) ?_
 refine⟨?_,?_⟩
 ·intro y hy;simp at hy;rcases hy with rfl|rfl|rfl|rfl|rfl|rfl<;>exact⟨by decide,by decide⟩
 ·rw[val_pm2];rfl
def spInv:Nat × Eng.Spec:=(124,fnSpec [.fp] [.val .fp] (fun _=>True) outInv)
end
end Go.Proofs.YteldhmehjkhanaaGreatDoor.fp
namespace Go.Proofs.YteldhmehjkhanaaGreatDoor
open Go Go.Eng Cr
def Trs:Nat->Prop->Prop
 | 0,P=>P
 | n+1,P=>True/\Trs n P
theorem trs {P:Prop} (h:P):∀ n,Trs n P:=by
 intro n
 induction n with
 | zero=>exact h
 | succ n ih=>exact⟨trivial,ih⟩
theorem dec_pair {α β:Type} [DecidableEq α] [DecidableEq β] (p q:α × β):(decide (p.1=q.1)&&decide (p.2=q.2))=decide (p=q):=by
 rw[Bool.eq_iff_iff]
 simp[Prod.ext_iff]
end Go.Proofs.YteldhmehjkhanaaGreatDoor
namespace Go.Proofs.YteldhmehjkhanaaGreatDoor.g1
open Go Go.Eng Go.RowKit Cr Go.Proofs.YteldhmehjkhanaaGreatDoor
abbrev bk:Kd:=.pair .fp (.pair .fp .fp)
theorem ent_lift:enters Tryz.prog 94 Tryz.f94:=ek
noncomputable abbrev outLift:HL [pt1]->HO [.val bk]:=fun (p,_)=>(jlift (F:=Fp) p,())
theorem fn_lift:FnOk Tryz.prog 94 [pt1] [.val bk] noG (fun _=>True) outLift:=by
 refine fn_of_vc (sp:=sps [fp.spOf]) (spk (fok fp.fn_of) snl) mixed ent_lift (by decide) (by decide) ?_
 rintro w M0 ⟨p,⟨⟩⟩
 revert p
 intro (p:Fp × Fp) _ _
 refine vcx (X:=(((decide (p.1=0)&&decide (p.2=0))=true->(((0:Fp),(0:Fp),(0:Fp)),())=outLift (p,()))/\((decide (p.1=0)&&decide (p.2=0))=false->U64 1/\((p.1,p.2,(1:Fp)),())=outLift (p,())))) (by kernel_rfl) ?_
 rw[dec_pair p ((0:Fp),(0:Fp))]
 refine⟨fun h=>?_,fun h=>⟨by constructor<;>decide,?_⟩⟩
 ·show _=(jlift p,())
  unfold jlift
  rw[if_pos (of_decide_eq_true h)]
 ·show _=(jlift p,())
  unfold jlift
  rw[if_neg (of_decide_eq_false h)]
noncomputable def spLift:Nat × Eng.Spec:=(94,fnSpec [pt1] [.val bk] (fun _=>True) outLift)
theorem ent_point:enters Tryz.prog 97 Tryz.f97:=ek
noncomputable abbrev outPoint:HL [bk]->HO [.val pt1]:=fun (a,_)=>(jpoint (F:=Fp) a,())
theorem fn_point:FnOk Tryz.prog 97 [bk] [.val pt1] noG (fun _=>True) outPoint:=by
 refine fn_of_vc (sp:=sps [fp.spZero,fp.spInv,fp.spSquare,fp.spMul]) (spk (fok fp.fn_zero) (spk (fok fp.fn_inv) (spk (fok fp.fn_square) (spk (fok fp.fn_mul) snl)))) mixed ent_point (by decide) (by decide) ?_
 rintro w M0 ⟨a,⟨⟩⟩
 revert a
 intro (a:Fp × Fp × Fp) _ _
 refine vcx (X:=(True/\(decide (a.2.2=0)=true->(((0:Fp),(0:Fp)),())=outPoint (a,()))/\(decide (a.2.2=0)=false->Trs 5 (((a.1*(fp.zinv a.2.2*fp.zinv a.2.2),a.2.1*(fp.zinv a.2.2*fp.zinv a.2.2)*fp.zinv a.2.2),())=outPoint (a,()))))) (by kernel_rfl) ?_
 refine⟨trivial,fun h=>?_,fun h=>trs ?_ _⟩
 ·show _=(jpoint a,())
  unfold jpoint
  rw[if_pos (of_decide_eq_true h)]
 ·show _=(jpoint a,())
  unfold jpoint
  rw[if_neg (of_decide_eq_false h)]
  rfl
noncomputable def spPoint:Nat × Eng.Spec:=(97,fnSpec [bk] [.val pt1] (fun _=>True) outPoint)
theorem ent_double:enters Tryz.prog 96 Tryz.f96:=ek
noncomputable abbrev outDouble:HL [bk]->HO [.val bk]:=fun (a,_)=>(jdbl (F:=Fp) a,())
theorem fn_double:FnOk Tryz.prog 96 [bk] [.val bk] noG (fun _=>True) outDouble:=by
 refine fn_of_vc (sp:=sps [fp.spZero,fp.spAdd,fp.spSub,fp.spSquare,fp.spMul]) (spk (fok fp.fn_zero) (spk (fok fp.fn_add) (spk (fok fp.fn_sub) (spk (fok fp.fn_square) (spk (fok fp.fn_mul) snl))))) mixed ent_double (by decide) (by decide) ?_
 rintro w M0 ⟨a,⟨⟩⟩
 revert a
 intro (a:Fp × Fp × Fp) _ _
 refine vcx (X:=(True/\(decide (a.2.2=0)=true->(((0:Fp),(0:Fp),(0:Fp)),())=outDouble (a,()))/\(decide (a.2.2=0)=false->Trs 18 ((jdbN a,())=outDouble (a,()))))) (by kernel_rfl) ?_
 refine⟨trivial,fun h=>?_,fun h=>trs ?_ _⟩
 ·show _=(jdbl a,())
  unfold jdbl
  rw[if_pos (of_decide_eq_true h)]
 ·show _=(jdbl a,())
  unfold jdbl
  rw[if_neg (of_decide_eq_false h)]
noncomputable def spDouble:Nat × Eng.Spec:=(96,fnSpec [bk] [.val bk] (fun _=>True) outDouble)
theorem ent_add:enters Tryz.prog 95 Tryz.f95:=ek
noncomputable abbrev outAdd:HL [bk,bk]->HO [.val bk]:=fun (a,b,_)=>(jadd (F:=Fp) a b,())
abbrev wd (a b:Fp × Fp × Fp):Fp:=b.1*(a.2.2*a.2.2)-a.1*(b.2.2*b.2.2)
abbrev rs (a b:Fp × Fp × Fp):Fp:=b.2.1*(a.2.2*a.2.2)*a.2.2-a.2.1*(b.2.2*b.2.2)*b.2.2
theorem fn_add:FnOk Tryz.prog 95 [bk,bk] [.val bk] noG (fun _=>True) outAdd:=by
 refine fn_of_vc (sp:=sps [fp.spZero,fp.spSub,fp.spSquare,fp.spMul,spDouble]) (spk (fok fp.fn_zero) (spk (fok fp.fn_sub) (spk (fok fp.fn_square) (spk (fok fp.fn_mul) (spk (fok fn_double) snl))))) mixed ent_add (by decide) (by decide) ?_
 rintro w M0 ⟨a,b,⟨⟩⟩
 revert a b
 intro (a:Fp × Fp × Fp) (b:Fp × Fp × Fp) _ _
 refine vcx (X:=(True/\(decide (a.2.2=0)=true->(b,())=outAdd (a,b,()))/\(decide (a.2.2=0)=false->True/\(decide (b.2.2=0)=true->(a,())=outAdd (a,b,()))/\(decide (b.2.2=0)=false ->
  Trs 11 ((decide (wd a b=0)=true->True/\(decide (rs a b=0)=true->True/\(jdbl (F:=Fp) a,())=outAdd (a,b,()))/\(decide (rs a b=0)=false->(((0:Fp),(0:Fp),(0:Fp)),())=outAdd (a,b,()))) /\
   (decide (wd a b=0)=false->Trs 13 ((jfin (F:=Fp) (wd a b) (rs a b) (a.1*(b.2.2*b.2.2)) (a.2.1*(b.2.2*b.2.2)*b.2.2) a.2.2 b.2.2,())=outAdd (a,b,())))))))) (by kernel_rfl) ?_
 refine⟨trivial,fun h=>?_,fun h=>⟨trivial,fun h2=>?_,fun h2=>trs ⟨fun h3=>⟨trivial,fun h4=>⟨trivial,?_⟩,fun h4=>?_⟩,fun h3=>trs ?_ _⟩ _⟩⟩
 all_goals show _=(jadd a b,())
 all_goals unfold jadd
 ·rw[if_pos (of_decide_eq_true h)]
 ·rw[if_neg (of_decide_eq_false h),if_pos (of_decide_eq_true h2)]
 ·rw[if_neg (of_decide_eq_false h),if_neg (of_decide_eq_false h2),if_pos (of_decide_eq_true h3),if_pos (of_decide_eq_true h4)]
 ·rw[if_neg (of_decide_eq_false h),if_neg (of_decide_eq_false h2),if_pos (of_decide_eq_true h3),if_neg (of_decide_eq_false h4)]
 ·rw[if_neg (of_decide_eq_false h),if_neg (of_decide_eq_false h2),if_neg (of_decide_eq_false h3)]
noncomputable def spAdd:Nat × Eng.Spec:=(95,fnSpec [bk,bk] [.val bk] (fun _=>True) outAdd)
end Go.Proofs.YteldhmehjkhanaaGreatDoor.g1
namespace Cr
open Rg Fd Go Go.Eng
def dh (b:Int):Int:=Int.fdiv b (2^min (Int.toNat 4) IntKind.u8.bits)
def dl (b:Int):Int:=bitOp .and .u8 b 15
theorem dh_ok {b:Int} (h0:0<=b) (h1:b<256):dh b=b/16/\0<=dh b/\dh b<16:=by
 have e:dh b=b/16:=by
  show Int.fdiv b (2^4)=b/16
  rw[Int.fdiv_eq_ediv_of_nonneg b (by decide)];rfl
 rw[e];omega
theorem dl_ok {b:Int} (h0:0<=b) (h1:b<256):dl b=b%16/\0<=dl b/\dl b<16:=by
 obtain⟨n,rfl⟩:=Int.eq_ofNat_of_zero_le h0
 have hn:n<256:=by omega
 have e:dl (n:Int)=(n:Int)%16:=by
  show IntKind.u8.wrap ((BitVec.ofInt 8 (n:Int) &&& BitVec.ofInt 8 15:BitVec 8).toNat:Int)=_
  have h1:(BitVec.ofInt 8 (n:Int)).toNat=n:=by rw[show BitVec.ofInt 8 (n:Int)=BitVec.ofNat 8 n from BitVec.ofInt_natCast ..,BitVec.toNat_ofNat,Nat.mod_eq_of_lt (by omega)]
  rw[BitVec.toNat_and,h1,show (BitVec.ofInt 8 15).toNat=15 from rfl]
  have h:=Nat.and_two_pow_sub_one_eq_mod n 4
  rw[show 2^4-1=15 from rfl] at h
  rw[h]
  have:IntKind.u8.wrap ((n%2^4:Nat):Int)=((n%2^4:Nat):Int):=by
   simp[IntKind.wrap,IntKind.signed,IntKind.bits];omega
  rw[this];omega
 rw[e];omega
section
variable {F:Type} [Fd F]
def jsm (ps:List (F × F)):Nat->Jc F
 | 0=>(0,0,0)
 | k+1=>jadd (jsm ps k) (jlift (ps.getD k (0,0)))
def jt (o:Jc F):Nat->Jc F
 | 0=>(0,0,0)
 | k+1=>jadd (jt o k) o
def jdn (s:Jc F):Nat->Jc F
 | 0=>s
 | k+1=>jdbl (jdn s k)
def jst (tb:List (Jc F)) (s:Jc F) (d:Int):Jc F:=jadd (jdn s 4) (tb.getD d.toNat (0,0,0))
def jsd (tb:List (Jc F)) (ds:List Int) (s:Jc F):Nat->Jc F
 | 0=>s
 | j+1=>jst tb (jsd tb ds s j) (ds.getD j 0)
def jby (tb:List (Jc F)) (s:Jc F) (b:Int):Jc F:=jsd tb [dh b,dl b] s 2
def jtm (tb:List (Jc F)) (k:List Int):Nat->Jc F
 | 0=>(0,0,0)
 | i+1=>jby tb (jtm tb k i) (k.getD i 0)
def nmul (P:F × F):Nat->F × F
 | 0=>O2
 | n+1=>padd (nmul P n) P
def psum:List (F × F)->F × F
 | []=>O2
 | P::ps=>padd P (psum ps)
variable {b:F} (hb:b≠0)
include hb
theorem nmul_on {P:F × F} (oP:OnP b P) (n:Nat):OnP b (nmul P n):=by
 induction n with
 | zero=>exact .inl rfl
 | succ n ih=>exact padd_on hb ih oP
theorem nmul_add {P:F × F} (oP:OnP b P) (m n:Nat):nmul P (m+n)=padd (nmul P m) (nmul P n):=by
 induction n with
 | zero=>exact (add_O _).symm
 | succ n ih=>show padd (nmul P (m+n)) P=padd (nmul P m) (padd (nmul P n) P);rw[ih,padd_assoc hb (nmul_on hb oP m) (nmul_on hb oP n) oP]
theorem nmul_mul {P:F × F} (oP:OnP b P) (m n:Nat):nmul (nmul P m) n=nmul P (m*n):=by
 induction n with
 | zero=>rfl
 | succ n ih=>show padd (nmul (nmul P m) n) (nmul P m)=_;rw[ih,<- nmul_add hb oP];rfl
theorem add4 {P Q R S:F × F} (oP:OnP b P) (oQ:OnP b Q) (oR:OnP b R) (oS:OnP b S):padd (padd P Q) (padd R S)=padd (padd P R) (padd Q S):=by
 rw[padd_assoc hb oP oQ (padd_on hb oR oS),<- padd_assoc hb oQ oR oS,padd_comm hb oQ oR,padd_assoc hb oR oQ oS,<- padd_assoc hb oP oR (padd_on hb oQ oS)]
theorem nmul_padd {P Q:F × F} (oP:OnP b P) (oQ:OnP b Q) (n:Nat):nmul (padd P Q) n=padd (nmul P n) (nmul Q n):=by
 induction n with
 | zero=>exact (O_add _).symm
 | succ n ih=>show padd (nmul (padd P Q) n) (padd P Q)=padd (padd (nmul P n) P) (padd (nmul Q n) Q);rw[ih,add4 hb (nmul_on hb oP n) (nmul_on hb oQ n) oP oQ]
omit hb in
theorem nmul_O (n:Nat):nmul (O2:F × F) n=O2:=by
 induction n with
 | zero=>rfl
 | succ n ih=>show padd (nmul O2 n) O2=O2;rw[ih,O_add]
omit hb in
theorem nmul_two {P:F × F}:nmul P 2=padd P P:=by
 show padd (padd O2 P) P=_;rw[O_add]
omit hb in
theorem nmul_one {P:F × F}:nmul P 1=P:=O_add P
theorem rep_jt {o:Jc F} {P:F × F} (h:Rep b o P) (k:Nat):Rep b (jt o k) (nmul P k):=by
 induction k with
 | zero=>exact .inl ⟨rfl,rfl⟩
 | succ k ih=>exact rep_add hb ih h
theorem rep_jdn {s:Jc F} {P:F × F} {n:Nat} (oP:OnP b P) (h:Rep b s (nmul P n)) (k:Nat):Rep b (jdn s k) (nmul P (2^k*n)):=by
 induction k with
 | zero=>rw[Nat.pow_zero,Nat.one_mul];exact h
 | succ k ih =>
  have:=rep_dbl hb ih
  rw[<- nmul_add hb oP] at this
  rw[Nat.pow_succ,Nat.mul_comm (2^k) 2,Nat.mul_assoc,Nat.two_mul]
  exact this
theorem rep_jst {s o:Jc F} {P:F × F} {n:Nat} (ho:Rep b o P) (h:Rep b s (nmul P n)) {d:Int} (h0:0<=d) (h1:d<16):Rep b (jst (tabAt (jt o) (0,0,0) 15) s d) (nmul P (16*n+d.toNat)):=by
 unfold jst
 rw[tabAt_get _ _ _ (by omega) (by omega),nmul_add hb ho.on]
 exact rep_add hb (rep_jdn hb ho.on h 4) (rep_jt hb ho _)
theorem rep_jby {s o:Jc F} {P:F × F} {n:Nat} (ho:Rep b o P) (h:Rep b s (nmul P n)) {c:Int} (h0:0<=c) (h1:c<256):Rep b (jby (tabAt (jt o) (0,0,0) 15) s c) (nmul P (256*n+c.toNat)):=by
 obtain⟨e1,d1,d2⟩:=dh_ok h0 h1
 obtain⟨e2,d3,d4⟩:=dl_ok h0 h1
 have:=rep_jst hb ho (rep_jst hb ho h d1 d2) d3 d4
 have e:16*(16*n+(dh c).toNat)+(dl c).toNat=256*n+c.toNat:=by rw[e1,e2];omega
 rw[e] at this
 exact this
omit hb in
theorem num_take {k:List Int} {i:Nat} (h:i<k.length):num (k.take (i+1))=num (k.take i)*256+k.getD i 0:=by
 unfold num
 rw[List.take_succ_eq_append_getElem h,List.foldl_append]
 simp[h]
theorem rep_jtm {o:Jc F} {P:F × F} (ho:Rep b o P) {k:List Int} (hk:Bs k) (i:Nat) (hi:i<=k.length):0<=num (k.take i)/\Rep b (jtm (tabAt (jt o) (0,0,0) 15) k i) (nmul P (num (k.take i)).toNat):=by
 induction i with
 | zero=>exact⟨by simp[num],.inl ⟨rfl,by simp[num,nmul]⟩⟩
 | succ i ih =>
  obtain⟨h1,h2⟩:=ih (by omega)
  have hc:0<=k.getD i 0/\k.getD i 0<256:=by
   have:k.getD i 0∈k:=by rw[List.getD_eq_getElem?_getD,List.getElem?_eq_getElem (by omega)];exact List.getElem_mem (by omega)
   exact hk _ this
  have:=rep_jby hb ho h2 hc.1 hc.2
  rw[num_take (by omega)]
  refine⟨by omega,?_⟩
  have e:(num (k.take i)*256+k.getD i 0).toNat=256*(num (k.take i)).toNat+(k.getD i 0).toNat:=by omega
  rw[e]
  exact this
theorem times_eq {P:F × F} (oP:OnP b P) {k:List Int} (hk:Bs k):jpoint (jtm (tabAt (jt (jlift P)) (0,0,0) 15) k k.length)=nmul P (num k).toNat:=by
 have:=(rep_jtm hb (rep_lift oP) hk k.length (Nat.le_refl _)).2
 rw[List.take_length] at this
 exact rep_point this
theorem psum_on {ps:List (F × F)} (h:∀ P∈ps,OnP b P):OnP b (psum ps):=by
 induction ps with
 | nil=>exact .inl rfl
 | cons P ps ih=>exact padd_on hb (h P (by simp)) (ih (fun Q hQ=>h Q (by simp[hQ])))
theorem psum_snoc {ps:List (F × F)} (h:∀ P∈ps,OnP b P) {Q:F × F} (oQ:OnP b Q):psum (ps++[Q])=padd (psum ps) Q:=by
 induction ps with
 | nil=>show padd Q O2=padd O2 Q;rw[add_O,O_add]
 | cons P ps ih =>
  show padd P (psum (ps++[Q]))=padd (padd P (psum ps)) Q
  rw[ih (fun R hR=>h R (by simp[hR])),padd_assoc hb (h P (by simp)) (psum_on hb (fun R hR=>h R (by simp[hR]))) oQ]
theorem rep_jsm {ps:List (F × F)} (h:∀ P∈ps,OnP b P) (i:Nat) (hi:i<=ps.length):Rep b (jsm ps i) (psum (ps.take i)):=by
 induction i with
 | zero=>exact .inl ⟨rfl,by simp[psum]⟩
 | succ i ih =>
  have hm:ps.getD i (0,0)=ps[i]:=by simp[show i<ps.length by omega]
  have ho:OnP b (ps[i]):=h _ (List.getElem_mem _)
  rw[List.take_succ_eq_append_getElem (by omega),psum_snoc hb (fun P hP=>h P (List.mem_of_mem_take hP)) ho]
  show Rep b (jadd (jsm ps i) (jlift (ps.getD i (0,0)))) _
  rw[hm]
  exact rep_add hb (ih (by omega)) (rep_lift ho)
theorem sum_eq {ps:List (F × F)} (h:∀ P∈ps,OnP b P):jpoint (jsm ps ps.length)=psum ps:=by
 have:=rep_jsm hb h ps.length (Nat.le_refl _)
 rw[List.take_length] at this
 exact rep_point this
theorem add_eq {P Q:F × F} (oP:OnP b P) (oQ:OnP b Q):jpoint (jsm [P,Q] 2)=padd P Q:=by
 have:=sum_eq hb (ps:=[P,Q]) (by intro R hR;simp at hR;rcases hR with rfl|rfl<;>assumption)
 rw[show psum [P,Q]=padd P Q by show padd P (padd Q O2)=_;rw[add_O]] at this
 exact this
end
end Cr
namespace Go.Proofs.YteldhmehjkhanaaGreatDoor.g1
open Go Go.Eng Go.RowKit Cr
abbrev bc (s:Fp × Fp × Fp):List Cell:=[.row .fp 1 [s.1],.row .fp 1 [s.2.1],.row .fp 1 [s.2.2]]
abbrev pc (s:Fp × Fp):List Cell:=[.row .fp 1 [s.1],.row .fp 1 [s.2]]
def b4:Fp:=zm 4
end Go.Proofs.YteldhmehjkhanaaGreatDoor.g1
namespace Go.Proofs.YteldhmehjkhanaaGreatDoor.fp
noncomputable section
open Go Go.Eng Go.RowKit Cr
theorem ent_sqrt:enters Tryz.prog 165 Tryz.f165:=ek
def sqrI (x:Fp) (g:Int × List Int):St:=mkSt Tryz.f165.ntmps 56 [(1,.is (.one (.ptr 0 0))),(2,.is (.one (.ptr 8 0))),(4,.is (.one (.ptr 32 0))),(8,sI .i64 g.1)] [(0,[.row .fp 1 [x]]),(8,[.row .fp 1 [(0:Fp)]]),(32,[.ints .u64 6 g.2])]
def sqrN (g:Int × List Int):Int × List Int:=(IntKind.i64.wrap (g.1+1),g.2.set g.1.toNat (bitOp .or .u64 (Int.fdiv (g.2.getD g.1.toNat 0) (2^min (Int.toNat 2) IntKind.u64.bits)) (IntKind.u64.wrap (g.2.getD (IntKind.i64.wrap (g.1+1)).toNat 0*2^min (Int.toNat 62) IntKind.u64.bits))))
def sqrE:List Int:=[13402431016077863596,2210141511517208575,7435674573564081700,7239337960414712511,5412103778470702295,1873798617647539866]
def sqrG:Nat->Int × List Int
 | 0=>(0,sqrE)
 | k+1=>sqrN (sqrG k)
def sqrF (es:List Int):List Int:=es.set 5 (Int.fdiv ((es.drop 5).getD 0 0) (2^min (Int.toNat 2) IntKind.u64.bits))
theorem sqrG_fst:∀ k,k<=5->(sqrG k).1=(k:Int):=by
 intro k
 induction k with
 | zero=>intro _;rfl
 | succ k ih=>intro h;show IntKind.i64.wrap ((sqrG k).1+1)=_;rw[ih (by omega),wrap_succ (by omega)]
def p14:Int:=1000602388805416848354447456433976039139220704984751971333014534031007912622709466110671907282253916009473568139947
theorem sqrF_val:val (sqrF (sqrG 5).2)=p14:=by decide +kernel
theorem sqrF_ws:Ws (sqrF (sqrG 5).2):=by
 intro x hx
 have e:sqrF (sqrG 5).2=lim 6 p14:=by decide +kernel
 rw[e] at hx
 exact lim_ws _ _ x hx
def fpSqrt (x:Fp):Fp × Bool:=if zpw x p14*zpw x p14=x then (zpw x p14,true) else (0,false)
abbrev outSqrt:HL [.fp]->HO [.val .fp,.val .bool]:=fun (x,_)=>((fpSqrt x).1,(fpSqrt x).2,())
theorem fn_sqrt:FnOk Tryz.prog 165 [.fp] [.val .fp,.val .bool] noG (fun _=>True) outSqrt:=by
 have hsp:SpecsOk Tryz.prog (sps [spPower,spSquare]):=spk (fok fn_power) (spk (fok fn_square) snl)
 refine fn_of_tr (sp:=sps [spPower,spSquare]) ent_sqrt (by decide) (by decide) (by kernel_rfl) ?_
 rintro w M0 ⟨x,⟨⟩⟩ _ _
 show Tr _ _ _ _ _ _ _
 refine tr_cut hsp mixed 3 (sqrI x (0,sqrE)) True ?_ (fun _=>?_)
 ·refine vcx (X:=(sqrI x (0,sqrE)).triv True) (by kernel_rfl) (tvi trivial)
 refine tr_count hsp mixed (sqrI x) sqrG 5 sqrN (sqrI x) (c:=nthC (codeOf Tryz.f165) 3) (by kernel_rfl) (by kernel_rfl) (le_of_proj (by kernel_rfl) (by kernel_rfl) trivial) (fun k hk=>rfl) ?_ ?_
 ·intro k hk
  have hf:=sqrG_fst k hk
  generalize sqrG k=g at *
  obtain⟨i,es⟩:=g
  simp only at hf
  subst hf
  refine vcx (X:=((decide ((k:Int)<5)=true->(0<=(k:Int)/\(k:Int)<((6:Nat):Int))/\(k:Int).toNat<6/\(0:Int)<=2/\(0<=IntKind.i64.wrap ((k:Int)+1)/\IntKind.i64.wrap ((k:Int)+1)<((6:Nat):Int))/\(IntKind.i64.wrap ((k:Int)+1)).toNat<6/\(0:Int)<=62/\(0<=(k:Int)/\(k:Int)<((6:Nat):Int))/\(k:Int).toNat<6/\(sqrI x (sqrN ((k:Int),es))).triv (k<5)) /\
   (decide ((k:Int)<5)=false->(sqrI x ((k:Int),es)).triv (k=5)))) (by kernel_rfl) ?_
  refine⟨fun h=>?_,fun h=>tvi (by have:=dec_ge h;omega)⟩
  have hlt:k<5:=by have:=dec_lt h;omega
  rw[wrap_succ (by omega)]
  exact⟨⟨by omega,by omega⟩,by omega,by decide,⟨by omega,by omega⟩,by omega,by decide,⟨by omega,by omega⟩,by omega,tvi hlt⟩
 have hv:=sqrF_val
 have hw:=sqrF_ws
 generalize sqrG 5=g at *
 obtain⟨i,es⟩:=g
 simp only at hv hw
 refine tr_vc hsp mixed _ _ ?_
 refine vcx (X:=((0:Int)<=2/\(5:Nat)<6/\prePower (x,sqrF es,())/\True /\
  (((!decide (zpw x (val (sqrF es))*zpw x (val (sqrF es))=x))=true->(((0:Fp),false,())=outSqrt (x,()))) /\
   ((!decide (zpw x (val (sqrF es))*zpw x (val (sqrF es))=x))=false->((zpw x (val (sqrF es)),true,())=outSqrt (x,())))))) (by kernel_rfl) ?_
 rw[hv]
 refine⟨by decide,by decide,hw,trivial,fun h=>?_,fun h=>?_⟩
 ·have h:¬ zpw x p14*zpw x p14=x:=by simpa using h
  simp[outSqrt,fpSqrt,h]
 ·have h:zpw x p14*zpw x p14=x:=by simpa using h
  simp[outSqrt,fpSqrt,h]
def spSqrt:Nat × Eng.Spec:=(165,fnSpec [.fp] [.val .fp,.val .bool] (fun _=>True) outSqrt)
end
end Go.Proofs.YteldhmehjkhanaaGreatDoor.fp
namespace Go.Proofs.YteldhmehjkhanaaGreatDoor.fp2
noncomputable section
open Go Go.Eng Go.RowKit Cr
abbrev f2:Kd:=.pair .fp .fp
theorem eqF2 (a b:F2):eqC (.pair .fp .fp) a b=decide (a=b):=by
 have h:=eqC_iff (e:=.pair .fp .fp) a b
 rw[Bool.eq_iff_iff,h,decide_eq_true_iff]
theorem ent_small:enters Tryz.prog 143 Tryz.f143:=ek
abbrev outSmall:HL [.int .u64,.int .u64]->HO [.val f2]:=fun (a,b,_)=>((zm a,zm b),())
theorem fn_small:FnOk Tryz.prog 143 [.int .u64,.int .u64] [.val f2] noG (fun (a,b,_)=>U64 a/\U64 b) outSmall:=by
 refine fn_of_vc (sp:=sps [fp.spOf]) (spk (fok fp.fn_of) snl) mixed ent_small (by decide) (by decide) ?_
 rintro w M0 ⟨a,b,⟨⟩⟩
 revert a b
 intro (a:Int) (b:Int) _ hp
 refine vcx (X:=(U64 a/\U64 b/\((zmp a,zmp b),())=outSmall (a,b,()))) (by kernel_rfl) ?_
 exact⟨hp.1,hp.2,rfl⟩
def spSmall:Nat × Eng.Spec:=(143,fnSpec [.int .u64,.int .u64] [.val f2] (fun (a,b,_)=>U64 a/\U64 b) outSmall)
theorem ent_zero:enters Tryz.prog 133 Tryz.f133:=ek
abbrev outZero:HL [f2]->HO [.val .bool]:=fun (x,_)=>(decide ((x:F2)=0),())
theorem fn_zero:FnOk Tryz.prog 133 [f2] [.val .bool] noG (fun _=>True) outZero:=by
 refine fn_of_vc (sp:=sps []) snl mixed ent_zero (by decide) (by decide) ?_
 rintro w M0 ⟨x,⟨⟩⟩
 revert x
 intro (x:F2) _ _
 refine vcx (X:=((eqC (Kd.fp.pair Kd.fp) x ((0:Fp),(0:Fp)),())=outZero (x,()))) (by kernel_rfl) ?_
 rw[eqF2];rfl
def spZero:Nat × Eng.Spec:=(133,fnSpec [f2] [.val .bool] (fun _=>True) outZero)
theorem ent_add:enters Tryz.prog 131 Tryz.f131:=ek
abbrev outAdd:HL [f2,f2]->HO [.val f2]:=fun (x,y,_)=>((x:F2)+y,())
theorem fn_add:FnOk Tryz.prog 131 [f2,f2] [.val f2] noG (fun _=>True) outAdd:=by
 refine fn_of_vc (sp:=sps [fp.spAdd]) (spk (fok fp.fn_add) snl) mixed ent_add (by decide) (by decide) ?_
 rintro w M0 ⟨x,y,⟨⟩⟩
 revert x y
 intro (x:F2) (y:F2) _ _
 refine vcx (X:=(True/\True/\((x.fst+y.fst,x.snd+y.snd),())=outAdd (x,y,()))) (by kernel_rfl) ?_
 exact⟨trivial,trivial,by show _=((x:F2)+y,());rw[F2.add_def]⟩
def spAdd:Nat × Eng.Spec:=(131,fnSpec [f2,f2] [.val f2] (fun _=>True) outAdd)
theorem ent_sub:enters Tryz.prog 144 Tryz.f144:=ek
abbrev outSub:HL [f2,f2]->HO [.val f2]:=fun (x,y,_)=>((x:F2)-y,())
theorem fn_sub:FnOk Tryz.prog 144 [f2,f2] [.val f2] noG (fun _=>True) outSub:=by
 refine fn_of_vc (sp:=sps [fp.spSub]) (spk (fok fp.fn_sub) snl) mixed ent_sub (by decide) (by decide) ?_
 rintro w M0 ⟨x,y,⟨⟩⟩
 revert x y
 intro (x:F2) (y:F2) _ _
 refine vcx (X:=(True/\True/\((x.fst-y.fst,x.snd-y.snd),())=outSub (x,y,()))) (by kernel_rfl) ?_
 exact⟨trivial,trivial,by show _=((x:F2)-y,());rw[F2.sub_def]⟩
def spSub:Nat × Eng.Spec:=(144,fnSpec [f2,f2] [.val f2] (fun _=>True) outSub)
theorem ent_neg:enters Tryz.prog 134 Tryz.f134:=ek
abbrev outNeg:HL [f2]->HO [.val f2]:=fun (x,_)=>(-(x:F2),())
theorem fn_neg:FnOk Tryz.prog 134 [f2] [.val f2] noG (fun _=>True) outNeg:=by
 refine fn_of_vc (sp:=sps [fp.spNeg]) (spk (fok fp.fn_neg) snl) mixed ent_neg (by decide) (by decide) ?_
 rintro w M0 ⟨x,⟨⟩⟩
 revert x
 intro (x:F2) _ _
 refine vcx (X:=(True/\True/\((-x.fst,-x.snd),())=outNeg (x,()))) (by kernel_rfl) ?_
 exact⟨trivial,trivial,by show _=(-(x:F2),());rw[F2.neg_def]⟩
def spNeg:Nat × Eng.Spec:=(134,fnSpec [f2] [.val f2] (fun _=>True) outNeg)
theorem ent_mul:enters Tryz.prog 129 Tryz.f129:=ek
abbrev outMul:HL [f2,f2]->HO [.val f2]:=fun (x,y,_)=>((x:F2)*y,())
theorem fn_mul:FnOk Tryz.prog 129 [f2,f2] [.val f2] noG (fun _=>True) outMul:=by
 refine fn_of_vc (sp:=sps [fp.spAdd,fp.spSub,fp.spMul]) (spk (fok fp.fn_add) (spk (fok fp.fn_sub) (spk (fok fp.fn_mul) snl))) mixed ent_mul (by decide) (by decide) ?_
 rintro w M0 ⟨x,y,⟨⟩⟩
 revert x y
 intro (x:F2) (y:F2) _ _
 refine vcx (X:=(True/\True/\True/\True/\True/\True/\True/\True/\((x.fst*y.fst-x.snd*y.snd,(x.fst+x.snd)*(y.fst+y.snd)-x.fst*y.fst-x.snd*y.snd),())=outMul (x,y,()))) (by kernel_rfl) ?_
 refine⟨trivial,trivial,trivial,trivial,trivial,trivial,trivial,trivial,?_⟩
 show _=((x:F2)*y,())
 rw[F2.mul_def,f2_kar]
def spMul:Nat × Eng.Spec:=(129,fnSpec [f2,f2] [.val f2] (fun _=>True) outMul)
theorem ent_square:enters Tryz.prog 130 Tryz.f130:=ek
abbrev outSquare:HL [f2]->HO [.val f2]:=fun (x,_)=>((x:F2)*x,())
theorem fn_square:FnOk Tryz.prog 130 [f2] [.val f2] noG (fun _=>True) outSquare:=by
 refine fn_of_vc (sp:=sps [fp.spAdd,fp.spSub,fp.spMul]) (spk (fok fp.fn_add) (spk (fok fp.fn_sub) (spk (fok fp.fn_mul) snl))) mixed ent_square (by decide) (by decide) ?_
 rintro w M0 ⟨x,⟨⟩⟩
 revert x
 intro (x:F2) _ _
 refine vcx (X:=(True/\True/\True/\True/\True/\(((x.fst+x.snd)*(x.fst-x.snd),x.fst*x.snd+x.fst*x.snd),())=outSquare (x,()))) (by kernel_rfl) ?_
 refine⟨trivial,trivial,trivial,trivial,trivial,?_⟩
 show _=((x:F2)*x,())
 rw[F2.mul_def,f2_sq1,f2_sq2]
def spSquare:Nat × Eng.Spec:=(130,fnSpec [f2] [.val f2] (fun _=>True) outSquare)
theorem ent_conj:enters Tryz.prog 141 Tryz.f141:=ek
abbrev outConj:HL [f2]->HO [.val f2]:=fun (x,_)=>((Prod.fst (x:F2),-Prod.snd (x:F2)),())
theorem fn_conj:FnOk Tryz.prog 141 [f2] [.val f2] noG (fun _=>True) outConj:=by
 refine fn_of_vc (sp:=sps [fp.spNeg]) (spk (fok fp.fn_neg) snl) mixed ent_conj (by decide) (by decide) ?_
 rintro w M0 ⟨x,⟨⟩⟩
 revert x
 intro (x:F2) _ _
 refine vcx (X:=(True/\((x.fst,-x.snd),())=outConj (x,()))) (by kernel_rfl) ?_
 exact⟨trivial,rfl⟩
def spConj:Nat × Eng.Spec:=(141,fnSpec [f2] [.val f2] (fun _=>True) outConj)
theorem ent_scale:enters Tryz.prog 163 Tryz.f163:=ek
abbrev outScale:HL [f2,.fp]->HO [.val f2]:=fun (x,k,_)=>((Prod.fst (x:F2)*k,Prod.snd (x:F2)*k),())
theorem fn_scale:FnOk Tryz.prog 163 [f2,.fp] [.val f2] noG (fun _=>True) outScale:=by
 refine fn_of_vc (sp:=sps [fp.spMul]) (spk (fok fp.fn_mul) snl) mixed ent_scale (by decide) (by decide) ?_
 rintro w M0 ⟨x,k,⟨⟩⟩
 revert x k
 intro (x:F2) (k:Fp) _ _
 refine vcx (X:=(True/\True/\((x.fst*k,x.snd*k),())=outScale (x,k,()))) (by kernel_rfl) ?_
 exact⟨trivial,trivial,rfl⟩
def spScale:Nat × Eng.Spec:=(163,fnSpec [f2,.fp] [.val f2] (fun _=>True) outScale)
theorem ent_norm:enters Tryz.prog 164 Tryz.f164:=ek
abbrev outNorm:HL [f2]->HO [.val .fp]:=fun (x,_)=>(Prod.fst (x:F2)*Prod.fst (x:F2)+Prod.snd (x:F2)*Prod.snd (x:F2),())
theorem fn_norm:FnOk Tryz.prog 164 [f2] [.val .fp] noG (fun _=>True) outNorm:=by
 refine fn_of_vc (sp:=sps [fp.spAdd,fp.spSquare]) (spk (fok fp.fn_add) (spk (fok fp.fn_square) snl)) mixed ent_norm (by decide) (by decide) ?_
 rintro w M0 ⟨x,⟨⟩⟩
 revert x
 intro (x:F2) _ _
 refine vcx (X:=(True/\True/\True/\(x.fst*x.fst+x.snd*x.snd,())=outNorm (x,()))) (by kernel_rfl) ?_
 exact⟨trivial,trivial,trivial,rfl⟩
def spNorm:Nat × Eng.Spec:=(164,fnSpec [f2] [.val .fp] (fun _=>True) outNorm)
theorem ent_inv:enters Tryz.prog 132 Tryz.f132:=ek
abbrev outInv:HL [f2]->HO [.val f2]:=fun (x,_)=>(inv2 x,())
theorem fn_inv:FnOk Tryz.prog 132 [f2] [.val f2] noG (fun _=>True) outInv:=by
 refine fn_of_vc (sp:=sps [fp.spInv,spConj,spNorm,spScale]) (spk (fok fp.fn_inv) (spk (fok fn_conj) (spk (fok fn_norm) (spk (fok fn_scale) snl)))) mixed ent_inv (by decide) (by decide) ?_
 rintro w M0 ⟨x,⟨⟩⟩
 revert x
 intro (x:F2) _ _
 refine vcx (X:=(True/\True/\True/\True/\((x.fst*fp.zinv (x.fst*x.fst+x.snd*x.snd),-x.snd*fp.zinv (x.fst*x.fst+x.snd*x.snd)),())=outInv (x,()))) (by kernel_rfl) ?_
 refine⟨trivial,trivial,trivial,trivial,?_⟩
 show _=(inv2 x,())
 rw[inv2_def];rfl
def spInv:Nat × Eng.Spec:=(132,fnSpec [f2] [.val f2] (fun _=>True) outInv)
theorem ent_odd:enters Tryz.prog 137 Tryz.f137:=ek
abbrev outOdd:HL [f2]->HO [.val .bool]:=fun (x,_)=>(if Prod.fst (x:F2)=0 then (fp.outOdd (Prod.snd (x:F2),())).1 else (fp.outOdd (Prod.fst (x:F2),())).1,())
theorem fn_odd:FnOk Tryz.prog 137 [f2] [.val .bool] noG (fun _=>True) outOdd:=by
 refine fn_of_vc (sp:=sps [fp.spZero,fp.spOdd]) (spk (fok fp.fn_zero) (spk (fok fp.fn_odd) snl)) mixed ent_odd (by decide) (by decide) ?_
 rintro w M0 ⟨x,⟨⟩⟩
 revert x
 intro (x:F2) _ _
 refine vcx (X:=(True/\(decide (x.fst=(0:Zm Mp))=true->True/\(decide (x.snd.v%(2:Int)=(1:Int)),())=outOdd (x,()))/\(decide (x.fst=(0:Zm Mp))=false->True/\(decide (x.fst.v%(2:Int)=(1:Int)),())=outOdd (x,())))) (by kernel_rfl) ?_
 refine⟨trivial,fun h=>⟨trivial,?_⟩,fun h=>⟨trivial,?_⟩⟩
 ·show _=(if x.1=0 then _ else _,())
  rw[if_pos (of_decide_eq_true h)]
 ·show _=(if x.1=0 then _ else _,())
  rw[if_neg (of_decide_eq_false h)]
end
end Go.Proofs.YteldhmehjkhanaaGreatDoor.fp2
namespace Cr
open Rg Fd
theorem q_a {F:Type} [Rg F] (a b n:F):(a+n)*(a+n)-b*b-a*(a+n+(a+n))=n*n-(a*a+b*b) :=
 rid [a,b,n] ((fun (a b n:PE)=>((a+n)*(a+n)-b*b-a*(a+n+(a+n)))) (.v 0) (.v 1) (.v 2)) ((fun (a b n:PE)=>(n*n-(a*a+b*b))) (.v 0) (.v 1) (.v 2)) (by kernel_rfl)
theorem q_s {F:Type} [Rg F] (a b n:F):(a-n)*(a-n)-b*b-a*(a-n+(a-n))=n*n-(a*a+b*b) :=
 rid [a,b,n] ((fun (a b n:PE)=>((a-n)*(a-n)-b*b-a*(a-n+(a-n)))) (.v 0) (.v 1) (.v 2)) ((fun (a b n:PE)=>(n*n-(a*a+b*b))) (.v 0) (.v 1) (.v 2)) (by kernel_rfl)
theorem q_1 {F:Type} [Rg F] (s b i:F):s*i*(s*i)-b*i*(b*i)=(s*s-b*b)*(i*i) :=
 rid [s,b,i] ((fun (s b i:PE)=>(s*i*(s*i)-b*i*(b*i))) (.v 0) (.v 1) (.v 2)) ((fun (s b i:PE)=>((s*s-b*b)*(i*i))) (.v 0) (.v 1) (.v 2)) (by kernel_rfl)
theorem q_2 {F:Type} [Rg F] (a t i:F):a*(t*t)*(i*i)=a*(t*i*(t*i)) :=
 rid [a,t,i] ((fun (a t i:PE)=>(a*(t*t)*(i*i))) (.v 0) (.v 1) (.v 2)) ((fun (a t i:PE)=>(a*(t*i*(t*i)))) (.v 0) (.v 1) (.v 2)) (by kernel_rfl)
theorem q_3 {F:Type} [Rg F] (s b i:F):s*i*(b*i)+b*i*(s*i)=b*(s+s)*(i*i) :=
 rid [s,b,i] ((fun (s b i:PE)=>(s*i*(b*i)+b*i*(s*i))) (.v 0) (.v 1) (.v 2)) ((fun (s b i:PE)=>(b*(s+s)*(i*i))) (.v 0) (.v 1) (.v 2)) (by kernel_rfl)
theorem q_4 {F:Type} [Rg F] (a n:F):(a+n)*(a-n)=a*a-n*n :=
 rid [a,n] ((fun (a n:PE)=>((a+n)*(a-n))) (.v 0) (.v 1)) ((fun (a n:PE)=>(a*a-n*n)) (.v 0) (.v 1)) (by kernel_rfl)
theorem q_5 {F:Type} [Rg F] (c d:F):(c*c-d*d)*(c*c-d*d)+(c*d+d*c)*(c*d+d*c)=(c*c+d*d)*(c*c+d*d) :=
 rid [c,d] ((fun (c d:PE)=>((c*c-d*d)*(c*c-d*d)+(c*d+d*c)*(c*d+d*c))) (.v 0) (.v 1)) ((fun (c d:PE)=>((c*c+d*d)*(c*c+d*d))) (.v 0) (.v 1)) (by kernel_rfl)
theorem q_6 {F:Type} [Rg F] (c d:F):c*c-d*d+(c*c+d*d)+(c*c-d*d+(c*c+d*d))=(c+c)*(c+c) :=
 rid [c,d] ((fun (c d:PE)=>(c*c-d*d+(c*c+d*d)+(c*c-d*d+(c*c+d*d)))) (.v 0) (.v 1)) ((fun (c d:PE)=>((c+c)*(c+c))) (.v 0) (.v 1)) (by kernel_rfl)
theorem q_7 {F:Type} [Rg F] (c d:F):c*c-d*d - -(c*c+d*d)+(c*c-d*d - -(c*c+d*d))=(c+c)*(c+c) :=
 rid [c,d] ((fun (c d:PE)=>(c*c-d*d - -(c*c+d*d)+(c*c-d*d - -(c*c+d*d)))) (.v 0) (.v 1)) ((fun (c d:PE)=>((c+c)*(c+c))) (.v 0) (.v 1)) (by kernel_rfl)
theorem q_8 {F:Type} [Rg F] (d:F):0*0-d*d=-(d*d) :=
 rid [d] ((fun (d:PE)=>(0*0-d*d)) (.v 0)) ((fun (d:PE)=>(-(d*d))) (.v 0)) (by kernel_rfl)
theorem fin_ok {F:Type} [Fd F] {a b n s t i:F} (hb:b≠0) (hn:n*n=a*a+b*b) (hs:s=a+n\/s=a-n) (ht:t*t=s+s) (hi:t≠0->t*i=1):s*i*(s*i)-b*i*(b*i)=a/\s*i*(b*i)+b*i*(s*i)=b:=by
 have e1:s*s-b*b=a*(s+s):=by
  refine eq_of_sub ?_
  rcases hs with rfl|rfl
  ·rw[q_a,hn,sub_self]
  ·rw[q_s,hn,sub_self]
 have hs0:s≠0:=by
  intro e
  rw[e,zero_mul] at e1
  have:b*b=0:=by
   have h0:(0:F)-b*b=0:=by rw[e1,add_zero,mul_zero]
   exact (eq_of_sub h0).symm
  rcases mul_eq_zero this with h|h<;>exact hb h
 have ht0:t≠0:=by
  intro e
  rw[e,zero_mul] at ht
  exact hs0 (double_eq_zero ht.symm)
 have hti:=hi ht0
 constructor
 ·rw[q_1,e1,<- ht,q_2,hti,mul_one,mul_one]
 ·rw[q_3,<- ht,q_2,hti,mul_one,mul_one]
theorem sq_eq {F:Type} [Fd F] {a b:F} (h:a*a=b*b):a=b\/a=-b:=by
 have:(a+b)*(a-b)=0:=by rw[q_4,h,sub_self]
 rcases mul_eq_zero this with h|h
 ·right
  rw[<- neg_neg a,neg_eq h]
 ·exact .inl (eq_of_sub h)
end Cr
namespace Go.Proofs.YteldhmehjkhanaaGreatDoor.fp2
noncomputable section
open Go Go.Eng Go.RowKit Cr Rg Fd
def fin2 (s b t:Fp):F2:=(s*fp.zinv t,b*fp.zinv t)
def sqrt2 (x:F2):F2 × Bool :=
 if x.2=0 then (if (fp.fpSqrt x.1).2=true then (((fp.fpSqrt x.1).1,0),true) else ((0,(fp.fpSqrt (-x.1)).1),(fp.fpSqrt (-x.1)).2))
 else if (fp.fpSqrt (x.1*x.1+x.2*x.2)).2=true then
  (if (fp.fpSqrt (x.1+(fp.fpSqrt (x.1*x.1+x.2*x.2)).1+(x.1+(fp.fpSqrt (x.1*x.1+x.2*x.2)).1))).2=true then
   (fin2 (x.1+(fp.fpSqrt (x.1*x.1+x.2*x.2)).1) x.2 (fp.fpSqrt (x.1+(fp.fpSqrt (x.1*x.1+x.2*x.2)).1+(x.1+(fp.fpSqrt (x.1*x.1+x.2*x.2)).1))).1,true)
   else (fin2 (x.1-(fp.fpSqrt (x.1*x.1+x.2*x.2)).1) x.2 (fp.fpSqrt (x.1-(fp.fpSqrt (x.1*x.1+x.2*x.2)).1+(x.1-(fp.fpSqrt (x.1*x.1+x.2*x.2)).1))).1,(fp.fpSqrt (x.1-(fp.fpSqrt (x.1*x.1+x.2*x.2)).1+(x.1-(fp.fpSqrt (x.1*x.1+x.2*x.2)).1))).2))
 else ((0,0),false)
theorem ent_sqrt:enters Tryz.prog 136 Tryz.f136:=ek
abbrev outSqrt:HL [f2]->HO [.val f2,.val .bool]:=fun (x,_)=>((sqrt2 x).1,(sqrt2 x).2,())
theorem fn_sqrt:FnOk Tryz.prog 136 [f2] [.val f2,.val .bool] noG (fun _=>True) outSqrt:=by
 refine fn_of_vc (sp:=sps [fp.spZero,fp.spSqrt,fp.spNeg,fp.spAdd,fp.spSub,spNorm,fp.spInv,spScale]) (spk (fok fp.fn_zero) (spk (fok fp.fn_sqrt) (spk (fok fp.fn_neg) (spk (fok fp.fn_add) (spk (fok fp.fn_sub) (spk (fok fn_norm) (spk (fok fp.fn_inv) (spk (fok fn_scale) snl)))))))) mixed ent_sqrt (by decide) (by decide) ?_
 rintro w M0 ⟨x,⟨⟩⟩
 revert x
 intro (x:F2) _ _
 refine vcx (X:=(True/\(decide (x.snd=(0:Zm Mp))=true->True/\((fp.fpSqrt x.fst).snd=true->(((fp.fpSqrt x.fst).fst,(0:Fp)),true,())=outSqrt (x,()))/\((fp.fpSqrt x.fst).snd=false->True/\True/\(((0:Fp),(fp.fpSqrt (-x.fst)).fst),(fp.fpSqrt (-x.fst)).snd,())=outSqrt (x,())))/\(decide (x.snd=(0:Zm Mp))=false->True/\True/\((!(fp.fpSqrt (x.fst*x.fst+x.snd*x.snd)).snd)=true->(((0:Fp),(0:Fp)),false,())=outSqrt (x,()))/\((!(fp.fpSqrt (x.fst*x.fst+x.snd*x.snd)).snd)=false->True/\True/\True/\((!(fp.fpSqrt (x.fst+(fp.fpSqrt (x.fst*x.fst+x.snd*x.snd)).fst+(x.fst+(fp.fpSqrt (x.fst*x.fst+x.snd*x.snd)).fst))).snd)=true->True/\True/\True/\True/\True/\(((x.fst-(fp.fpSqrt (x.fst*x.fst+x.snd*x.snd)).fst)*fp.zinv (fp.fpSqrt (x.fst-(fp.fpSqrt (x.fst*x.fst+x.snd*x.snd)).fst+(x.fst-(fp.fpSqrt (x.fst*x.fst+x.snd*x.snd)).fst))).fst,x.snd*fp.zinv (fp.fpSqrt (x.fst-(fp.fpSqrt (x.fst*x.fst+x.snd*x.snd)).fst+(x.fst-(fp.fpSqrt (x.fst*x.fst+x.snd*x.snd)).fst))).fst),(fp.fpSqrt (x.fst-(fp.fpSqrt (x.fst*x.fst+x.snd*x.snd)).fst+(x.fst-(fp.fpSqrt (x.fst*x.fst+x.snd*x.snd)).fst))).snd,())=outSqrt (x,()))/\((!(fp.fpSqrt (x.fst+(fp.fpSqrt (x.fst*x.fst+x.snd*x.snd)).fst+(x.fst+(fp.fpSqrt (x.fst*x.fst+x.snd*x.snd)).fst))).snd)=false->True/\True/\(((x.fst+(fp.fpSqrt (x.fst*x.fst+x.snd*x.snd)).fst)*fp.zinv (fp.fpSqrt (x.fst+(fp.fpSqrt (x.fst*x.fst+x.snd*x.snd)).fst+(x.fst+(fp.fpSqrt (x.fst*x.fst+x.snd*x.snd)).fst))).fst,x.snd*fp.zinv (fp.fpSqrt (x.fst+(fp.fpSqrt (x.fst*x.fst+x.snd*x.snd)).fst+(x.fst+(fp.fpSqrt (x.fst*x.fst+x.snd*x.snd)).fst))).fst),(fp.fpSqrt (x.fst+(fp.fpSqrt (x.fst*x.fst+x.snd*x.snd)).fst+(x.fst+(fp.fpSqrt (x.fst*x.fst+x.snd*x.snd)).fst))).snd,())=outSqrt (x,())))))) (by kernel_rfl) ?_
 refine⟨trivial,fun h=>⟨trivial,fun h2=>?_,fun h2=>⟨trivial,trivial,?_⟩⟩,fun h=>⟨trivial,trivial,fun h2=>?_,fun h2=>⟨trivial,trivial,trivial,fun h3=>⟨trivial,trivial,trivial,trivial,trivial,?_⟩,fun h3=>⟨trivial,trivial,?_⟩⟩⟩⟩
 all_goals show _=((sqrt2 x).1,(sqrt2 x).2,())
 ·rw[sqrt2,if_pos (of_decide_eq_true h),if_pos h2]
 ·rw[sqrt2,if_pos (of_decide_eq_true h),if_neg (by rw[h2];decide)]
 ·have h2:(fp.fpSqrt (x.1*x.1+x.2*x.2)).2=false:=by simpa using h2
  rw[sqrt2,if_neg (of_decide_eq_false h),if_neg (by rw[h2];decide)]
 ·have h2:(fp.fpSqrt (x.1*x.1+x.2*x.2)).2=true:=by simpa using h2
  have h3:=(Bool.not_eq_true' _).mp h3
  rw[sqrt2,if_neg (of_decide_eq_false h),if_pos h2,if_neg (by rw[h3];decide)]
  rfl
 ·have h2:(fp.fpSqrt (x.1*x.1+x.2*x.2)).2=true:=by simpa using h2
  have h3:=(Bool.not_eq_false' _).mp h3
  rw[sqrt2,if_neg (of_decide_eq_false h),if_pos h2,if_pos h3]
  show (_,_,())=(fin2 _ _ _,true,())
  rw[h3];rfl
def spSqrt:Nat × Eng.Spec:=(136,fnSpec [f2] [.val f2,.val .bool] (fun _=>True) outSqrt)
theorem fpsqrt_ok {x:Fp} (h:(fp.fpSqrt x).2=true):(fp.fpSqrt x).1*(fp.fpSqrt x).1=x:=by
 unfold fp.fpSqrt at h ⊢
 split at h
 ·rename_i e;rw[if_pos e];exact e
 ·cases h
theorem zinv_mul {x:Fp} (h:x≠0):x*fp.zinv x=1:=mul_inv (F:=Fp) x h
theorem fin2_ok {a b n s t:Fp} (hb:b≠0) (hn:n*n=a*a+b*b) (hs:s=a+n\/s=a-n) (ht:t*t=s+s):fin2 s b t*fin2 s b t=(a,b):=by
 have h:=fin_ok hb hn hs ht (i:=fp.zinv t) (fun h=>zinv_mul h)
 refine F2.ext ?_ ?_
 ·rw[F2.mul1];exact h.1
 ·rw[F2.mul2];exact h.2
theorem sqrt2_ok {x:F2} (h:(sqrt2 x).2=true):(sqrt2 x).1*(sqrt2 x).1=x:=by
 by_cases hb:x.2=0
 ·by_cases h1:(fp.fpSqrt x.1).2=true
  ·rw[sqrt2,if_pos hb,if_pos h1]
   refine F2.ext ?_ ?_
   ·rw[F2.mul1]
    show _*_-0*0=x.1
    rw[fpsqrt_ok h1,mul_zero,sub_def,neg_zero,add_zero]
   ·rw[F2.mul2]
    show _*0+0*_=x.2
    rw[mul_zero,zero_mul,add_zero,hb]
  ·rw[sqrt2,if_pos hb,if_neg h1] at h ⊢
   have h:(fp.fpSqrt (-x.1)).2=true:=h
   refine F2.ext ?_ ?_
   ·rw[F2.mul1]
    show 0*0-_*_=x.1
    rw[fpsqrt_ok h,mul_zero,sub_def,neg_neg,zero_add]
   ·rw[F2.mul2]
    show 0*_+_*0=x.2
    rw[mul_zero,zero_mul,add_zero,hb]
 ·by_cases h1:(fp.fpSqrt (x.1*x.1+x.2*x.2)).2=true
  ·have hn:=fpsqrt_ok h1
   rw[sqrt2,if_neg hb,if_pos h1] at h ⊢
   generalize (fp.fpSqrt (x.1*x.1+x.2*x.2)).1=n at *
   by_cases h2:(fp.fpSqrt (x.1+n+(x.1+n))).2=true
   ·rw[if_pos h2]
    exact fin2_ok hb hn (.inl rfl) (fpsqrt_ok h2)
   ·rw[if_neg h2] at h ⊢
    exact fin2_ok hb hn (.inr rfl) (fpsqrt_ok h)
  ·rw[sqrt2,if_neg hb,if_neg h1] at h
   cases h
theorem fpsqrt_zero:(fp.fpSqrt 0).2=true:=by
 unfold fp.fpSqrt
 have e:zpw (0:Fp) fp.p14*zpw 0 fp.p14=0:=by
  rw[zpw_eq]
  have:∀ n:Nat,n≠0->zpow (0:Fp) n=0:=by
   intro n hn
   cases n with
   | zero=>exact absurd rfl hn
   | succ n=>show zpow (0:Fp) n*0=0;rw[mul_zero]
  rw[this _ (by decide),mul_zero]
 rw[if_pos e]
end
end Go.Proofs.YteldhmehjkhanaaGreatDoor.fp2
