import Derived.Test.YtbeeaekepmnfhaaGreatDoorML24oPY
set_option maxRecDepth 100000
open Go.IntKind(i64 u64 u32)
namespace Go.Proofs.YtbeeaekepmnfhaaGreatDoor.sha
noncomputable section
open Go Go.Eng Go.RowKit Cr
abbrev uK:Kd:=.int .u32
abbrev bK:Kd:=.int .u8
abbrev ja:Kd:=.pair (.arr 8 uK) (.pair (.arr 64 bK) (.int .i64))
def cw:List Int:=[1779033703,3144134277,1013904242,2773480762,1359893119,2600822924,528734635,1541459225]
def dQ:List Int:=[1116352408,1899447441,3049323471,3921009573,961987163,1508970993,2453635748,2870763221,3624381080,310598401,607225278,1426881987,1925078388,2162078206,2614888103,3248222580,3835390401,4022224774,264347078,604807628,770255983,1249150122,1555081692,1996064986,2554220882,2821834349,2952996808,3210313671,3336571891,3584528711,113926993,338241895,666307205,773529912,1294757372,1396182291,1695183700,1986661051,2177026350,2456956037,2730485921,2820302411,3259730800,3345764771,3516065817,3600352804,4094571909,275423344,430227734,506948616,659060556,883997877,958139571,1322822218,1537002063,1747873779,1955562222,2024104815,2227730452,2361852424,2428436474,2756734187,3204031479,3329325298]
def db:dH:=fun g=>if g=0 then some ⟨.arr 8 uK,cw⟩ else if g=1 then some ⟨.arr 64 uK,dQ⟩ else none
theorem Vp:enters Tryz.prog 211 Tryz.f211:=ek
def af2 (x k:Int):Int:=av .or .u32 (u32.wrap (x*2^min (av .and .u64 (u64.wrap k) 31).toNat u32.bits)) (Int.fdiv x (2^min (u64.wrap (32-av .and .u64 (u64.wrap k) 31)).toNat u32.bits))
def gb (x k:Int):Int:=cr (af2 x k)
theorem LG (x:Int):0<=u64.wrap x:=by
 simp only[IntKind.wrap,IntKind.signed,IntKind.bits]
 simp
 omega
theorem YT:aB Tryz.prog 211 [uK,.int .i64] [.val uK] aM (fun _=>True) (fun (x,k,_)=>(gb x k,())):=by
 refine ax (sp:=aF []) aR mixed Vp (by decide) (by decide) ?_
 rintro w M0 ⟨x,k,⟨⟩⟩
 revert x k
 intro (x:Int) (k:Int) _ _
 refine ao (X:=((0:Int)<=av BinOp.and u64 (u64.wrap k) (31:Int)/\(0:Int)<=u64.wrap ((32:Int)-av BinOp.and u64 (u64.wrap k) (31:Int))/\(av BinOp.or u32 (u32.wrap (x*(2:Int)^min (av BinOp.and u64 (u64.wrap k) (31:Int)).toNat u32.bits)) (x.fdiv ((2:Int)^min (u64.wrap ((32:Int)-av BinOp.and u64 (u64.wrap k) (31:Int))).toNat u32.bits)),())=(gb x k,()))) (by kernel_rfl) ?_
 refine⟨?_,?_,by show _=(gb x k,());rw[gb,ay];rfl⟩
 ·have h:(0:Int)<=av .and .u64 (u64.wrap k) 31:=by
   show (0:Int)<=u64.wrap _
   exact LG _
  exact h
 ·exact LG _
def Uy:Nat × Eng.Spec:=(211,ar [uK,.int .i64] [.val uK] (fun _=>True) (fun (x,k,_)=>(gb x k,())))
theorem Ru:enters Tryz.prog 198 Tryz.f198:=ek
abbrev TK:List Code:=aJ Tryz.f198
def Ay (st rest p:List Int) (sz:Int) (g:Int × List Int):St:=aY Tryz.f198.ntmps 25 [(0,.is (.one (.ptr 0 0))),(3,.is (.one (.ptr 1 0))),(4,.is (.one (.ptr 9 0))),(23,sI .i64 g.1)] [(9,[.ints .u32 64 g.2]),(1,[.ints .u8 64 p]),(0,[.ints .u32 8 st,.ints .u8 64 rest,.v (.int .i64 sz)])]
def UE (st rest p:List Int) (sz:Int) (i:Nat) (g:Int × List Int):St:=aY Tryz.f198.ntmps 25 [(0,.is (.one (.ptr 0 0))),(3,.is (.one (.ptr 1 0))),(4,.is (.one (.ptr 9 0))),(5,sI .i64 i),(23,sI .i64 i),(26,sI .i64 g.1)] [(9,[.ints .u32 64 g.2]),(1,[.ints .u8 64 p]),(0,[.ints .u32 8 st,.ints .u8 64 rest,.v (.int .i64 sz)])]
def wB (p:List Int) (i j:Nat) (w:List Int):List Int:=w.set i (av .or .u32 (u32.wrap (w.getD i 0*2^min (8:Nat) u32.bits)) (u32.wrap (p.getD (4*i+j) 0)))
def AB (p:List Int) (i:Nat) (w:List Int):Nat->List Int
 | 0=>w
 | j+1=>wB p i j (AB p i w j)
def AA (p:List Int):Nat->List Int
 | 0=>List.replicate 64 0
 | i+1=>AB p i (AA p i) 4
theorem LB (p:List Int) (i:Nat) (w:List Int):∀ j,(AB p i w j).length=w.length
 | 0=>rfl
 | j+1=>by show (wB p i j _).length=_;rw[wB,List.length_set,LB p i w j]
theorem LA (p:List Int):∀ i,(AA p i).length=64
 | 0=>List.length_replicate
 | i+1=>by show (AB p i (AA p i) 4).length=_;rw[LB,LA p i]
def Li (st rest p:List Int) (sz:Int) (g:Int × List Int):St:=aY Tryz.f198.ntmps 25 [(0,.is (.one (.ptr 0 0))),(4,.is (.one (.ptr 9 0))),(45,sI .i64 g.1)] [(9,[.ints .u32 64 g.2]),(0,[.ints .u32 8 st,.ints .u8 64 rest,.v (.int .i64 sz)])]
def Lj (st rest p:List Int) (sz:Int) (w:List Int) (g:Int × List Int):St:=aY Tryz.f198.ntmps 81 [(0,.is (.one (.ptr 0 0))),(4,.is (.one (.ptr 9 0))),(12,.is (.one (.ptr 57 0))),(92,sI .i64 g.1)] [(57,[.ints .u32 8 g.2]),(9,[.ints .u32 64 w]),(0,[.ints .u32 8 st,.ints .u8 64 rest,.v (.int .i64 sz)])]
def sg0 (a:Int):Int:=av .xor .u32 (av .xor .u32 (gb a (-7)) (gb a (-18))) (a.fdiv (2^min (3:Nat) u32.bits))
def sg1 (a:Int):Int:=av .xor .u32 (av .xor .u32 (gb a (-17)) (gb a (-19))) (a.fdiv (2^min (10:Nat) u32.bits))
def wC (w:List Int) (i:Nat):List Int:=w.set (i+16) (u32.wrap (u32.wrap (u32.wrap (w.getD i 0+sg0 (w.getD (i+1) 0))+w.getD (i+9) 0)+sg1 (w.getD (i+14) 0)))
def CZ (w:List Int):Nat->List Int
 | 0=>w
 | i+1=>wC (CZ w i) i
theorem LC (w:List Int):∀ i,(CZ w i).length=w.length
 | 0=>rfl
 | i+1=>by show (wC _ i).length=_;rw[wC,List.length_set,LC w i]
def Lk (rest:List Int) (sz:Int) (w v:List Int) (g:Int × List Int):St:=aY Tryz.f198.ntmps 81 [(0,.is (.one (.ptr 0 0))),(12,.is (.one (.ptr 57 0))),(172,sI .i64 g.1)] [(57,[.ints .u32 8 v]),(0,[.ints .u32 8 g.2,.ints .u8 64 rest,.v (.int .i64 sz)])]
theorem eight:∀ {v:List Int},v.length=8->∃ a b c d e f g h,v=[a,b,c,d,e,f,g,h]
 | [a,b,c,d,e,f,g,h],_=>⟨a,b,c,d,e,f,g,h,rfl⟩
def rT (w:List Int) (e f g h:Int) (i:Nat):Int:=u32.wrap (u32.wrap (h+av .xor .u32 (av .xor .u32 (gb e (-6)) (gb e (-11))) (gb e (-25)))+u32.wrap (u32.wrap (av .xor .u32 (av .and .u32 e f) (av .and .u32 (av .xor .u32 (if u32.signed=true then (-1:Int) else u32.max) e) g)+dQ.getD i 0)+w.getD i 0))
def rU (a b c:Int):Int:=u32.wrap (av .xor .u32 (av .xor .u32 (gb a (-2)) (gb a (-13))) (gb a (-22))+av .xor .u32 (av .xor .u32 (av .and .u32 a b) (av .and .u32 a c)) (av .and .u32 b c))
def vC (w:List Int):List Int->Nat->List Int
 | [a,b,c,d,e,f,g,h],i=>[u32.wrap (rT w e f g h i+rU a b c),a,b,c,u32.wrap (d+rT w e f g h i),e,f,g]
 | v,_=>v
def y0 (w v:List Int):Nat->List Int
 | 0=>v
 | i+1=>vC w (y0 w v i) i
theorem Lw (w:List Int) {v:List Int} (hv:v.length=8):∀ i,(y0 w v i).length=8
 | 0=>hv
 | i+1=>by
  obtain⟨a,b,c,d,e,f,g,h,e1⟩:=eight (Lw w hv i)
  show (vC w (y0 w v i) i).length=8
  rw[e1];rfl
def B4 (v s:List Int):Nat->List Int
 | 0=>s
 | i+1=>(B4 v s i).set i (u32.wrap ((B4 v s i).getD i 0+v.getD i 0))
def UD (st p:List Int):List Int:=B4 (y0 (CZ (AA p 16) 48) st 64) st 8
def eR (st p:List Int):List Int:=cr (UD st p)
theorem VW:y9 Tryz.prog 198 ja [.arr 64 bK] [] db (fun _=>True) (fun ((st,rest,sz),p,_)=>((eR st p,rest,sz),())):=by
 have hsp:aN Tryz.prog (aF [Uy]):=ai (ak YT) aR
 refine x5 (sp:=aF [Uy]) Ru (by decide) (by decide) (by kernel_rfl) ?_
 rintro w M0 b0 ⟨st,rest,sz⟩ ⟨p,⟨⟩⟩
 revert st rest sz p
 intro (st:List Int) (rest:List Int) (sz:Int) (p:List Int) hw hw2 _
 have hst:st.length=8:=hw.1.1
 have hp:p.length=64:=hw2.1.1
 show Tr _ _ _ _ _ _ _
 refine aP hsp mixed 3 (Ay st rest p sz (0,List.replicate 64 0)) True ?_ (fun _=>?_)
 ·refine ao (X:=((Ay st rest p sz ((0:Int),List.replicate (64:Nat) (0:Int))).ah True)) (by kernel_rfl) ?_
  exact aA trivial
 refine fh dA (fun σ=>(bU (.int .i64) 23 σ,cN uK 9 σ)) (Ay st rest p sz) (fun g=>∃ k:Nat,k<=16/\g.1=(k:Int)/\g.2=AA p k) (fun g=>16-g.1.toNat)
  (fun σ=>(bU (.int .i64) 23 σ,cN uK 9 σ)) (Ay st rest p sz) (fun g=>g.2=AA p 16) (0,List.replicate 64 0) (c:=aI TK 3) (by kernel_rfl) (by kernel_rfl) (aC (by kernel_rfl) (by kernel_rfl) ?_) ?_ ?_
 ·exact⟨0,by decide,rfl,rfl⟩
 ·rintro⟨i,wl⟩ hj
  revert i wl
  intro (i:Int) (wl:List Int) ⟨k,hk,ei,ew⟩
  have ei:i=(k:Int):=ei
  have kw:wl=AA p k:=ew
  subst ei
  refine aP hsp mixed 2 (Ay st rest p sz ((k:Int),wl)) (k<16) ?_ (fun hlt=>?_)
  ·refine ao (X:=((decide ((k:Int)<(16:Int))=true->(Ay st rest p sz ((k:Int),wl)).ah (k<(16:Nat)))/\(decide ((k:Int)<(16:Int))=false->(Ay st rest p sz ((k:Int),wl)).ah (wl=AA p (16:Nat))))) (by kernel_rfl) ?_
   refine⟨fun h=>aA (by have:=Odt h;omega),fun h=>aA ?_⟩
   have:k=16:=by have:=Odf h;omega
   rw[kw,this]
  refine eG (c:=aI (bQ (aI (aJ Tryz.f198) 3)) 2) (by kernel_rfl) (by kernel_rfl) ?_
  refine aP hsp mixed 2 (UE st rest p sz k (0,wl)) True ?_ (fun _=>?_)
  ·refine ao (X:=((UE st rest p sz k ((0:Int),wl)).ah True)) (by kernel_rfl) ?_
   exact aA trivial
  refine bO hsp mixed dA (fun σ=>(bU (.int .i64) 26 σ,cN uK 9 σ)) (UE st rest p sz k) (fun g=>∃ j:Nat,j<=4/\g.1=(j:Int)/\g.2=AB p k wl j) (fun g=>4-g.1.toNat)
   (fun σ=>cN uK 9 σ) (fun w=>Ay st rest p sz ((k:Int),w)) (fun w=>w=AB p k wl 4) (0,wl) (c:=aI (fz (aI (bQ (aI (aJ Tryz.f198) 3)) 2)) 2) (by kernel_rfl) (by kernel_rfl) (aC (by kernel_rfl) (by kernel_rfl) ?_) ?_ ?_
  ·exact⟨0,by decide,rfl,rfl⟩
  ·rintro⟨j,wj⟩ hj
   revert j wj
   intro (j:Int) (wj:List Int) ⟨t,ht,ej,ewj⟩
   have ej:j=(t:Int):=ej
   have kwj:wj=AB p k wl t:=ewj
   subst ej
   refine ao (X:=((decide ((t:Int)<(4:Int))=true->((0:Int)<=(k:Int)/\(k:Int)<(↑(64:Nat):Int))/\(k:Int).toNat<(64:Nat)/\(0:Int)<=(8:Int)/\((0:Int)<=i64.wrap (i64.wrap ((4:Int)*(k:Int))+(t:Int))/\i64.wrap (i64.wrap ((4:Int)*(k:Int))+(t:Int))<(↑(64:Nat):Int))/\(i64.wrap (i64.wrap ((4:Int)*(k:Int))+(t:Int))).toNat<(64:Nat)/\((0:Int)<=(k:Int)/\(k:Int)<(↑(64:Nat):Int))/\(k:Int).toNat<(64:Nat)/\(UE st rest p sz k (i64.wrap ((t:Int)+(1:Int)),wj.set (k:Int).toNat (av BinOp.or u32 (u32.wrap (wj.getD (k:Int).toNat (0:Int)*(2:Int)^min (8:Nat) u32.bits)) (u32.wrap (p.getD (i64.wrap (i64.wrap ((4:Int)*(k:Int))+(t:Int))).toNat (0:Int)))))).ah ((∃ j,j<=(4:Nat)/\i64.wrap ((t:Int)+(1:Int))=(j:Int)/\wj.set (k:Int).toNat (av BinOp.or u32 (u32.wrap (wj.getD (k:Int).toNat (0:Int)*(2:Int)^min (8:Nat) u32.bits)) (u32.wrap (p.getD (i64.wrap (i64.wrap ((4:Int)*(k:Int))+(t:Int))).toNat (0:Int))))=AB p k wl j)/\(4:Nat)-(i64.wrap ((t:Int)+(1:Int))).toNat<(4:Nat)-(t:Int).toNat))/\(decide ((t:Int)<(4:Int))=false->(Ay st rest p sz ((k:Int),wj)).ah (wj=AB p k wl (4:Nat))))) (by kernel_rfl) ?_
   refine⟨fun h=>?_,fun h=>aA ?_⟩
   ·have h4:t<4:=by have:=Odt h;omega
    have e1:i64.wrap (i64.wrap ((4:Int)*(k:Int))+(t:Int))=((4*k+t:Nat):Int):=by
     rw[aG (a:=4*(k:Int)) (by omega) (by omega),aG (by omega) (by omega)];omega
    rw[e1,aQ (by omega),Int.toNat_natCast,Int.toNat_natCast]
    exact⟨⟨by omega,by omega⟩,by omega,by decide,⟨by omega,by omega⟩,by omega,⟨by omega,by omega⟩,by omega,aA ⟨⟨t+1,h4,rfl,by rw[kwj];rfl⟩,by rw[Int.toNat_natCast,Int.toNat_natCast];omega⟩⟩
   ·have:t=4:=by have:=Odf h;omega
    rw[kwj,this]
  intro (w':List Int) (hw':w'=AB p k wl 4)
  refine ig ?_
  refine bf hsp mixed _ _ ?_
  refine ao (X:=((Ay st rest p sz (i64.wrap ((k:Int)+(1:Int)),w')).ah ((∃ cE,cE<=(16:Nat)/\i64.wrap ((k:Int)+(1:Int))=(cE:Int)/\w'=AA p cE)/\(16:Nat)-(i64.wrap ((k:Int)+(1:Int))).toNat<(16:Nat)-(k:Int).toNat))) (by kernel_rfl) ?_
  rw[aQ (by omega)]
  exact aA ⟨⟨k+1,hlt,rfl,by rw[hw',kw];rfl⟩,by rw[Int.toNat_natCast,Int.toNat_natCast];omega⟩
 rintro⟨i1,w1⟩ hw1
 revert i1 w1
 intro (i1:Int) (w1:List Int) (hw1:w1=AA p 16)
 have hw1l:w1.length=64:=by rw[hw1,LA]
 refine aP hsp mixed 1 (Li st rest p sz (0,w1)) True ?_ (fun _=>?_)
 ·refine ao (X:=((Li st rest p sz ((0:Int),w1)).ah True)) (by kernel_rfl) ?_
  exact aA trivial
 refine bO hsp mixed dA (fun σ=>(bU (.int .i64) 45 σ,cN uK 9 σ)) (Li st rest p sz) (fun g=>∃ j:Nat,j<=48/\g.1=(j:Int)/\g.2=CZ w1 j) (fun g=>48-g.1.toNat)
  (fun σ=>(bU (.int .i64) 45 σ,cN uK 9 σ)) (Li st rest p sz) (fun g=>g.2=CZ w1 48) (0,w1) (c:=aI (aJ Tryz.f198) 5) (by kernel_rfl) (by kernel_rfl) (aC (by kernel_rfl) (by kernel_rfl) ?_) ?_ ?_
 ·exact⟨0,by decide,rfl,rfl⟩
 ·rintro⟨j,wj⟩ hj
  revert j wj
  intro (j:Int) (wj:List Int) ⟨t,ht,ej,ewj⟩
  have ej:j=(t:Int):=ej
  have kwj:wj=CZ w1 t:=ewj
  subst ej
  refine ao (X:=((decide ((t:Int)<(48:Int))=true->((0:Int)<=i64.wrap ((t:Int)+(1:Int))/\i64.wrap ((t:Int)+(1:Int))<(↑(64:Nat):Int))/\(i64.wrap ((t:Int)+(1:Int))).toNat<(64:Nat)/\((0:Int)<=i64.wrap ((t:Int)+(14:Int))/\i64.wrap ((t:Int)+(14:Int))<(↑(64:Nat):Int))/\(i64.wrap ((t:Int)+(14:Int))).toNat<(64:Nat)/\True/\True/\(0:Int)<=(3:Int)/\True/\True/\(0:Int)<=(10:Int)/\((0:Int)<=(t:Int)/\(t:Int)<(↑(64:Nat):Int))/\(t:Int).toNat<(64:Nat)/\((0:Int)<=i64.wrap ((t:Int)+(9:Int))/\i64.wrap ((t:Int)+(9:Int))<(↑(64:Nat):Int))/\(i64.wrap ((t:Int)+(9:Int))).toNat<(64:Nat)/\((0:Int)<=i64.wrap ((t:Int)+(16:Int))/\i64.wrap ((t:Int)+(16:Int))<(↑(64:Nat):Int))/\(i64.wrap ((t:Int)+(16:Int))).toNat<(64:Nat)/\(Li st rest p sz (i64.wrap ((t:Int)+(1:Int)),wj.set (i64.wrap ((t:Int)+(16:Int))).toNat (u32.wrap (u32.wrap (u32.wrap (wj.getD (t:Int).toNat (0:Int)+av BinOp.xor u32 (av BinOp.xor u32 (gb (wj.getD (i64.wrap ((t:Int)+(1:Int))).toNat (0:Int)) (-7:Int),()).fst (gb (wj.getD (i64.wrap ((t:Int)+(1:Int))).toNat (0:Int)) (-18:Int),()).fst) ((wj.getD (i64.wrap ((t:Int)+(1:Int))).toNat (0:Int)).fdiv ((2:Int)^min (3:Nat) u32.bits)))+wj.getD (i64.wrap ((t:Int)+(9:Int))).toNat (0:Int))+av BinOp.xor u32 (av BinOp.xor u32 (gb (wj.getD (i64.wrap ((t:Int)+(14:Int))).toNat (0:Int)) (-17:Int),()).fst (gb (wj.getD (i64.wrap ((t:Int)+(14:Int))).toNat (0:Int)) (-19:Int),()).fst) ((wj.getD (i64.wrap ((t:Int)+(14:Int))).toNat (0:Int)).fdiv ((2:Int)^min (10:Nat) u32.bits)))))).ah ((∃ j,j<=(48:Nat)/\i64.wrap ((t:Int)+(1:Int))=(j:Int)/\wj.set (i64.wrap ((t:Int)+(16:Int))).toNat (u32.wrap (u32.wrap (u32.wrap (wj.getD (t:Int).toNat (0:Int)+av BinOp.xor u32 (av BinOp.xor u32 (gb (wj.getD (i64.wrap ((t:Int)+(1:Int))).toNat (0:Int)) (-7:Int)) (gb (wj.getD (i64.wrap ((t:Int)+(1:Int))).toNat (0:Int)) (-18:Int))) ((wj.getD (i64.wrap ((t:Int)+(1:Int))).toNat (0:Int)).fdiv ((2:Int)^min (3:Nat) u32.bits)))+wj.getD (i64.wrap ((t:Int)+(9:Int))).toNat (0:Int))+av BinOp.xor u32 (av BinOp.xor u32 (gb (wj.getD (i64.wrap ((t:Int)+(14:Int))).toNat (0:Int)) (-17:Int)) (gb (wj.getD (i64.wrap ((t:Int)+(14:Int))).toNat (0:Int)) (-19:Int))) ((wj.getD (i64.wrap ((t:Int)+(14:Int))).toNat (0:Int)).fdiv ((2:Int)^min (10:Nat) u32.bits))))=CZ w1 j)/\(48:Nat)-(i64.wrap ((t:Int)+(1:Int))).toNat<(48:Nat)-(t:Int).toNat))/\(decide ((t:Int)<(48:Int))=false->(Li st rest p sz ((t:Int),wj)).ah (wj=CZ w1 (48:Nat))))) (by kernel_rfl) ?_
  refine⟨fun h=>?_,fun h=>aA ?_⟩
  ·have h4:t<48:=by have:=Odt h;omega
   have e1:∀ m:Nat,m<20->i64.wrap ((t:Int)+(m:Int))=((t+m:Nat):Int):=fun m hm=>by
    rw[aG (by omega) (by omega)];omega
   have e1a:i64.wrap ((t:Int)+1)=((t+1:Nat):Int):=e1 1 (by decide)
   have e1b:i64.wrap ((t:Int)+9)=((t+9:Nat):Int):=e1 9 (by decide)
   have e1c:i64.wrap ((t:Int)+14)=((t+14:Nat):Int):=e1 14 (by decide)
   have e1d:i64.wrap ((t:Int)+16)=((t+16:Nat):Int):=e1 16 (by decide)
   rw[e1a,e1b,e1c,e1d]
   simp only[Int.toNat_natCast]
   exact⟨⟨by omega,by omega⟩,by omega,⟨by omega,by omega⟩,by omega,trivial,trivial,by decide,trivial,trivial,by decide,⟨by omega,by omega⟩,by omega,⟨by omega,by omega⟩,by omega,⟨by omega,by omega⟩,by omega,aA ⟨⟨t+1,h4,rfl,by rw[kwj];rfl⟩,by omega⟩⟩
  ·have:t=48:=by have:=Odf h;omega
   rw[kwj,this]
 rintro⟨i2,w2⟩ hw2
 revert i2 w2
 intro (i2:Int) (w2:List Int) (hw2':w2=CZ w1 48)
 refine aP hsp mixed 2 (Lj st rest p sz w2 (0,st)) True ?_ (fun _=>?_)
 ·refine ao (X:=((Lj st rest p sz w2 ((0:Int),st)).ah True)) (by kernel_rfl) ?_
  exact aA trivial
 have hw2l:w2.length=64:=by rw[hw2',LC,hw1l]
 refine bO hsp mixed dA (fun σ=>(bU (.int .i64) 92 σ,cN uK 57 σ)) (Lj st rest p sz w2) (fun g=>∃ j:Nat,j<=64/\g.1=(j:Int)/\g.2=y0 w2 st j) (fun g=>64-g.1.toNat)
  (fun σ=>(bU (.int .i64) 92 σ,cN uK 57 σ)) (Lj st rest p sz w2) (fun g=>g.2=y0 w2 st 64) (0,st) (c:=aI (aJ Tryz.f198) 8) (by kernel_rfl) (by kernel_rfl) (aC (by kernel_rfl) (by kernel_rfl) ?_) ?_ ?_
 ·exact⟨0,by decide,rfl,rfl⟩
 ·rintro⟨j,v⟩ hj
  revert j v
  intro (j:Int) (v:List Int) ⟨t,ht,ej,ev⟩
  have ej:j=(t:Int):=ej
  have kv:v=y0 w2 st t:=ev
  subst ej
  have hvl:v.length=8:=by rw[kv,Lw _ hst]
  obtain⟨a,b,c,d,e,f,g,h,rfl⟩:=eight hvl
  refine ao (X:=((decide ((t:Int)<(64:Int))=true->True/\True/\True/\((0:Int)<=(t:Int)/\(t:Int)<(↑(64:Nat):Int))/\(t:Int).toNat<dQ.length/\((0:Int)<=(t:Int)/\(t:Int)<(↑(64:Nat):Int))/\(t:Int).toNat<(64:Nat)/\True/\True/\True/\(Lj st rest p sz w2 (i64.wrap ((t:Int)+(1:Int)),[u32.wrap (u32.wrap (u32.wrap (h+av BinOp.xor u32 (av BinOp.xor u32 (gb e (-6:Int),()).fst (gb e (-11:Int),()).fst) (gb e (-25:Int),()).fst)+u32.wrap (u32.wrap (av BinOp.xor u32 (av BinOp.and u32 e f) (av BinOp.and u32 (av BinOp.xor u32 (if u32.signed=true then (-1:Int) else u32.max) e) g)+dQ.getD (t:Int).toNat (0:Int))+w2.getD (t:Int).toNat (0:Int)))+u32.wrap (av BinOp.xor u32 (av BinOp.xor u32 (gb a (-2:Int),()).fst (gb a (-13:Int),()).fst) (gb a (-22:Int),()).fst+av BinOp.xor u32 (av BinOp.xor u32 (av BinOp.and u32 a b) (av BinOp.and u32 a c)) (av BinOp.and u32 b c))),a,b,c,u32.wrap (d+u32.wrap (u32.wrap (h+av BinOp.xor u32 (av BinOp.xor u32 (gb e (-6:Int),()).fst (gb e (-11:Int),()).fst) (gb e (-25:Int),()).fst)+u32.wrap (u32.wrap (av BinOp.xor u32 (av BinOp.and u32 e f) (av BinOp.and u32 (av BinOp.xor u32 (if u32.signed=true then (-1:Int) else u32.max) e) g)+dQ.getD (t:Int).toNat (0:Int))+w2.getD (t:Int).toNat (0:Int)))),e,f,g])).ah ((∃ j,j<=(64:Nat)/\i64.wrap ((t:Int)+(1:Int))=(j:Int)/\[u32.wrap (u32.wrap (u32.wrap (h+av BinOp.xor u32 (av BinOp.xor u32 (gb e (-6:Int)) (gb e (-11:Int))) (gb e (-25:Int)))+u32.wrap (u32.wrap (av BinOp.xor u32 (av BinOp.and u32 e f) (av BinOp.and u32 (av BinOp.xor u32 (if u32.signed=true then (-1:Int) else u32.max) e) g)+dQ.getD (t:Int).toNat (0:Int))+w2.getD (t:Int).toNat (0:Int)))+u32.wrap (av BinOp.xor u32 (av BinOp.xor u32 (gb a (-2:Int)) (gb a (-13:Int))) (gb a (-22:Int))+av BinOp.xor u32 (av BinOp.xor u32 (av BinOp.and u32 a b) (av BinOp.and u32 a c)) (av BinOp.and u32 b c))),a,b,c,u32.wrap (d+u32.wrap (u32.wrap (h+av BinOp.xor u32 (av BinOp.xor u32 (gb e (-6:Int)) (gb e (-11:Int))) (gb e (-25:Int)))+u32.wrap (u32.wrap (av BinOp.xor u32 (av BinOp.and u32 e f) (av BinOp.and u32 (av BinOp.xor u32 (if u32.signed=true then (-1:Int) else u32.max) e) g)+dQ.getD (t:Int).toNat (0:Int))+w2.getD (t:Int).toNat (0:Int)))),e,f,g]=y0 w2 st j)/\(64:Nat)-(i64.wrap ((t:Int)+(1:Int))).toNat<(64:Nat)-(t:Int).toNat))/\(decide ((t:Int)<(64:Int))=false->(Lj st rest p sz w2 ((t:Int),[a,b,c,d,e,f,g,h])).ah ([a,b,c,d,e,f,g,h]=y0 w2 st (64:Nat))))) (by kernel_rfl) ?_
  refine⟨fun h'=>?_,fun h'=>aA ?_⟩
  ·have h4:t<64:=by have:=Odt h';omega
   have hrl:dQ.length=64:=rfl
   rw[aQ (by omega),Int.toNat_natCast]
   exact⟨trivial,trivial,trivial,⟨by omega,by omega⟩,by omega,⟨by omega,by omega⟩,by omega,trivial,trivial,trivial,aA ⟨⟨t+1,h4,rfl,by show _=vC w2 (y0 w2 st t) t;rw[<- kv];rfl⟩,by rw[Int.toNat_natCast];omega⟩⟩
  ·have:t=64:=by have:=Odf h';omega
   rw[kv,this]
 rintro⟨i3,v⟩ hv
 revert i3 v
 intro (i3:Int) (v:List Int) (hv:v=y0 w2 st 64)
 refine aP hsp mixed 1 (Lk rest sz w2 v (0,st)) True ?_ (fun _=>?_)
 ·refine ao (X:=((Lk rest sz w2 v ((0:Int),st)).ah True)) (by kernel_rfl) ?_
  exact aA trivial
 refine bO hsp mixed dA (fun σ=>(bU (.int .i64) 172 σ,(ga ja 0 σ).1)) (Lk rest sz w2 v) (fun g=>∃ j:Nat,j<=8/\g.1=(j:Int)/\g.2=B4 v st j) (fun g=>8-g.1.toNat)
  (fun σ=>(bU (.int .i64) 172 σ,(ga ja 0 σ).1)) (Lk rest sz w2 v) (fun g=>g.2=B4 v st 8) (0,st) (c:=aI (aJ Tryz.f198) 10) (by kernel_rfl) (by kernel_rfl) (aC (by kernel_rfl) (by kernel_rfl) ?_) ?_ ?_
 ·exact⟨0,by decide,rfl,rfl⟩
 ·rintro⟨j,s⟩ hj
  revert j s
  intro (j:Int) (s:List Int) ⟨t,ht,ej,es⟩
  have ej:j=(t:Int):=ej
  have ks:s=B4 v st t:=es
  subst ej
  refine ao (X:=((decide ((t:Int)<(8:Int))=true->((0:Int)<=(t:Int)/\(t:Int)<(↑(8:Nat):Int))/\(t:Int).toNat<(8:Nat)/\((0:Int)<=(t:Int)/\(t:Int)<(↑(8:Nat):Int))/\(t:Int).toNat<(8:Nat)/\((0:Int)<=(t:Int)/\(t:Int)<(↑(8:Nat):Int))/\(t:Int).toNat<(8:Nat)/\(Lk rest sz w2 v (i64.wrap ((t:Int)+(1:Int)),(s.set (t:Int).toNat (u32.wrap (s.getD (t:Int).toNat (0:Int)+v.getD (t:Int).toNat (0:Int))),rest,sz).fst)).ah ((∃ j,j<=(8:Nat)/\i64.wrap ((t:Int)+(1:Int))=(j:Int)/\s.set (t:Int).toNat (u32.wrap (s.getD (t:Int).toNat (0:Int)+v.getD (t:Int).toNat (0:Int)))=B4 v st j)/\(8:Nat)-(i64.wrap ((t:Int)+(1:Int))).toNat<(8:Nat)-(t:Int).toNat))/\(decide ((t:Int)<(8:Int))=false->(Lk rest sz w2 v ((t:Int),(s,rest,sz).fst)).ah (s=B4 v st (8:Nat))))) (by kernel_rfl) ?_
  refine⟨fun h=>?_,fun h=>aA ?_⟩
  ·have h4:t<8:=by have:=Odt h;omega
   rw[aQ (by omega),Int.toNat_natCast]
   exact⟨⟨by omega,by omega⟩,h4,⟨by omega,by omega⟩,h4,⟨by omega,by omega⟩,h4,aA ⟨⟨t+1,h4,rfl,by rw[ks];rfl⟩,by rw[Int.toNat_natCast];omega⟩⟩
  ·have:t=8:=by have:=Odf h;omega
   rw[ks,this]
 rintro⟨i4,s⟩ hs
 revert i4 s
 intro (i4:Int) (s:List Int) (hs:s=B4 v st 8)
 refine bf hsp mixed _ _ ?_
 refine ao (X:=(((s,rest,sz),())=((eR st p,rest,sz),()))) (by kernel_rfl) ?_
 show ((s,rest,sz),())=((eR st p,rest,sz),())
 rw[hs,hv,hw2',hw1,eR,ay,UD]
def Qn:Nat × Eng.Spec:=(198,sd db ja [.arr 64 bK] [] (fun _=>True) (fun ((st,rest,sz),p,_)=>((eR st p,rest,sz),())))
end
end Go.Proofs.YtbeeaekepmnfhaaGreatDoor.sha
namespace Cr
section
variable (tk:List Int->List Int->List Int) (first:List Int)
def kG (st b:List Int):Nat->List Int
 | 0=>st
 | k+1=>tk (kG st b k) ((b.drop (64*k)).take 64)
theorem AE (st X Y:List Int):∀ j,64*j<=X.length->kG tk st (X++Y) j=kG tk st X j
 | 0,_=>rfl
 | j+1,h=>by
  show tk _ _=tk _ _
  rw[AE st X Y j (by omega),List.drop_append_of_le_length (by omega),List.take_append_of_le_length (by rw[List.length_drop];omega)]
theorem vN (st X Y:List Int) (k:Nat) (hk:X.length=64*k):∀ j,kG tk st (X++Y) (k+j)=kG tk (kG tk st X k) Y j
 | 0=>AE tk st X Y k (by omega)
 | j+1=>by
  show tk (kG tk st (X++Y) (k+j)) _=tk _ _
  rw[vN st X Y k hk j]
  congr 2
  have hkj:X.length<=64*(k+j):=by omega
  rw[show k.add j=k+j from rfl,List.drop_append,List.drop_eq_nil_of_le hkj,List.nil_append]
  congr 1;omega
def da (L:List Int):List Int:=L.drop (64*(L.length/64))
def Hs (L:List Int):List Int:=kG tk first L (L.length/64)
theorem jD (L:List Int):(da L).length=L.length%64:=by rw[da,List.length_drop];omega
theorem ri (X Y:List Int) (k:Nat) (hk:X.length=64*k):da (X++Y)=da Y:=by
 rw[da,da,List.length_append,List.drop_append,List.drop_eq_nil_of_le (by omega),List.nil_append]
 congr 1;omega
theorem FO (X Y:List Int) (k:Nat) (hk:X.length=64*k):Hs tk first (X++Y)=kG tk (kG tk first X k) Y (Y.length/64):=by
 rw[Hs,List.length_append,show (X.length+Y.length)/64=k+Y.length/64 by omega,vN tk first X Y k hk]
def jc (st rest b:List Int):List Int × List Int:=(kG tk st b (b.length/64),da b++rest.drop (da b).length)
def Fa (st rest:List Int) (sz:Int) (b:List Int):List Int × List Int × Int :=
 match decide ((sz%64).toNat=0) with
 | true=>((jc tk (bif decide (sz=0) then first else st) rest b).1,(jc tk (bif decide (sz=0) then first else st) rest b).2,sz+b.length)
 | false=>match decide ((sz%64).toNat+b.length<64) with
  | true=>(st,rest.take (sz%64).toNat++(b++rest.drop ((sz%64).toNat+b.length)),sz+b.length)
  | false=>((jc tk (tk st (rest.take (sz%64).toNat++b.take (64-(sz%64).toNat))) (rest.take (sz%64).toNat++b.take (64-(sz%64).toNat)) (b.drop (64-(sz%64).toNat))).1,
    (jc tk (tk st (rest.take (sz%64).toNat++b.take (64-(sz%64).toNat))) (rest.take (sz%64).toNat++b.take (64-(sz%64).toNat)) (b.drop (64-(sz%64).toNat))).2,sz+b.length)
def qP (L:List Int) (st rest:List Int) (sz:Int):Prop:=sz=(L.length:Int)/\rest.length=64/\(L≠[]->st=Hs tk first L)/\rest.take (L.length%64)=da L
theorem SW (st rest:List Int) (h:rest.length=64):qP tk first [] st rest 0:=⟨rfl,h,fun h=>absurd rfl h,by simp[da]⟩
theorem Xk {L st rest:List Int} {sz:Int} (h:qP tk first L st rest sz) (b:List Int):qP tk first (L++b) (Fa tk first st rest sz b).1 (Fa tk first st rest sz b).2.1 (Fa tk first st rest sz b).2.2:=by
 obtain⟨h1,h2,h3,h4⟩:=h
 subst h1
 have hr:(((L.length:Int))%64).toNat=L.length%64:=by omega
 have hsplit:L=L.take (64*(L.length/64))++da L:=(List.take_append_drop _ L).symm
 have hXl:(L.take (64*(L.length/64))).length=64*(L.length/64):=by rw[List.length_take];omega
 unfold Fa
 rw[hr]
 have hsz:(L.length:Int)+(b.length:Int)=((L++b).length:Int):=by rw[List.length_append];omega
 cases hd:decide (L.length%64=0) with
 | true =>
  have h0:L.length%64=0:=Odt hd
  have ht:da L=[]:=List.eq_nil_of_length_eq_zero (by rw[jD,h0])
  have hL:L.length=64*(L.length/64):=by omega
  have hs:(bif decide ((L.length:Int)=0) then first else st)=kG tk first L (L.length/64):=by
   cases L with
   | nil=>rfl
   | cons x l=>rw[decide_eq_false (by simp only[List.length_cons];omega),cond_false];exact h3 (by simp)
  refine⟨hsz,?_,fun _=>?_,?_⟩
  ·show (da b++rest.drop _).length=64
   rw[List.length_append,List.length_drop,jD,h2];omega
  ·show kG tk _ b (b.length/64)=_
   rw[hs,FO tk first L b _ hL]
  ·show (da b++rest.drop _).take _=_
   rw[ri L b _ hL,List.length_append,show (L.length+b.length)%64=(da b).length by rw[jD];omega,List.take_left' rfl]
 | false =>
  have h0:L.length%64≠0:=Odf hd
  have hne:L≠[]:=by rintro rfl;exact h0 rfl
  have hst:st=kG tk first (L.take (64*(L.length/64))) (L.length/64):=by
   rw[h3 hne,Hs]
   have:=AE tk first (L.take (64*(L.length/64))) (da L) (L.length/64) (by omega)
   rw[<- hsplit] at this
   exact this
  have hLb:L++b=L.take (64*(L.length/64))++(da L++b):=by rw[<- List.append_assoc,<- hsplit]
  cases hd2:decide (L.length%64+b.length<64) with
  | true =>
   have h5:L.length%64+b.length<64:=Odt hd2
   refine⟨hsz,?_,fun _=>?_,?_⟩
   ·show (rest.take _++(b++rest.drop _)).length=64
    rw[List.length_append,List.length_append,List.length_drop,List.length_take,h2];omega
   ·show st=_
    rw[hLb,FO tk first _ _ _ hXl,<- hst,show (da L++b).length/64=0 by rw[List.length_append,jD];omega]
    rfl
   ·show (rest.take _++(b++rest.drop _)).take _=_
    rw[hLb,ri _ _ _ hXl]
    have e1:da (da L++b)=da L++b:=by
     rw[da,show (da L++b).length/64=0 by rw[List.length_append,jD];omega];rfl
    have e2:(L.take (64*(L.length/64))++(da L++b)).length%64=(da L++b).length:=by
     rw[List.length_append,List.length_append,jD,hXl];omega
    rw[e1,h4,e2,<- List.append_assoc]
    exact List.take_left' rfl
  | false =>
   have h5:¬ L.length%64+b.length<64:=Odf hd2
   have hrl:(rest.take (L.length%64)++b.take (64-L.length%64)).length=64:=by
    rw[List.length_append,List.length_take,List.length_take,h2];omega
   have hb1:L++b=(L.take (64*(L.length/64))++(rest.take (L.length%64)++b.take (64-L.length%64)))++b.drop (64-L.length%64):=by
    rw[h4,List.append_assoc,List.append_assoc,List.take_append_drop];exact hLb
   have hXl2:(L.take (64*(L.length/64))++(rest.take (L.length%64)++b.take (64-L.length%64))).length=64*(L.length/64+1):=by
    rw[List.length_append,hrl,hXl];omega
   have hst2:kG tk first (L.take (64*(L.length/64))++(rest.take (L.length%64)++b.take (64-L.length%64))) (L.length/64+1)=tk st (rest.take (L.length%64)++b.take (64-L.length%64)):=by
    rw[vN tk first _ _ _ hXl 1,<- hst]
    show tk st _=_
    rw[Nat.mul_zero,List.drop_zero,List.take_of_length_le (by omega)]
   refine⟨hsz,?_,fun _=>?_,?_⟩
   ·show (da _++List.drop _ (_++_)).length=64
    rw[List.length_append,List.length_drop,jD,hrl];omega
   ·show kG tk _ _ _=_
    rw[hb1,FO tk first _ _ _ hXl2,hst2]
   ·show (da _++List.drop _ (_++_)).take _=_
    rw[hb1,ri _ _ _ hXl2]
    rw[show (L.take (64*(L.length/64))++(rest.take (L.length%64)++b.take (64-L.length%64))++b.drop (64-L.length%64)).length%64=(da (b.drop (64-L.length%64))).length by rw[jD,List.length_append,hXl2];omega,List.take_left' rfl]
end
end Cr
namespace Cr
def fcn {α:Type} (n:Nat) (k:Nat->α):α:=Nat.rec (k 0) (fun m _=>k (m+1)) n
noncomputable def fi {α:Type} (x:Int) (k:Int->α):α:=Int.rec (fun n=>fcn n fun m=>k (Int.ofNat m)) (fun n=>fcn n fun m=>k (Int.negSucc m)) x
noncomputable def fl {α:Type} (l:List Int) (k:List Int->α):α:=List.rec (motive:=fun _=>(List Int->α)->α) (fun k=>k []) (fun x _ ih k=>fi x fun x'=>ih fun l'=>k (x'::l')) l k
def it {α:Type} (f:Nat->α->α) (s:α):Nat->α
 | 0=>s
 | k+1=>f k (it f s k)
end Cr
namespace Go.Proofs.YtbeeaekepmnfhaaGreatDoor.sha
open Go Go.Eng Go.RowKit Cr
def gL (n:Nat):List Int:=128::(List.replicate ((64+55-n%64)%64) 0++(List.range 8).map fun i=>((n:Int)*8)/2^(56-8*i)%256)
def DQ (s:List Int):List Int:=(List.range 32).map fun i=>IntKind.u8.wrap ((s.getD (i/4) 0).fdiv (2^(24-8*(i%4))))
noncomputable def LZ (L:List Int):List Int:=DQ (Hs eR cw (L++gL L.length))
noncomputable def iM (L:List Int):List Int:=cr (LZ L)
theorem Sk (s:List Int):(DQ s).length=32:=by simp[DQ]
theorem rv (L:List Int):(iM L).length=32:=by rw[iM,ay,LZ,Sk]
end Go.Proofs.YtbeeaekepmnfhaaGreatDoor.sha
open Go.IntKind(i64)
namespace Go.Proofs.YtbeeaekepmnfhaaGreatDoor.sha
noncomputable section
open Go Go.Eng Go.RowKit Cr
theorem Of:enters Tryz.prog 161 Tryz.f161:=ek
def fN (st rest:List Int) (sz:Int) (b:List Int):au ja:=cr (Fa eR cw st rest sz b)
theorem Ir {L st rest:List Int} {sz:Int} (h:qP eR cw L st rest sz) (b:List Int):qP eR cw (L++b) (fN st rest sz b).1 (fN st rest sz b).2.1 (fN st rest sz b).2.2:=by
 rw[fN,ay];exact Xk eR cw h b
theorem Nu (st rest b:List Int) (h:64<=b.length):jc eR (eR st (b.take 64)) rest (b.drop 64)=jc eR st rest b:=by
 have h1:b.take 64++b.drop 64=b:=List.take_append_drop _ _
 have h2:(b.take 64).length=64*1:=by rw[List.length_take];omega
 have h3:da (b.drop 64)=da b:=by
  have:=ri (b.take 64) (b.drop 64) 1 h2
  rw[h1] at this;exact this.symm
 have h4:kG eR (eR st (b.take 64)) (b.drop 64) ((b.drop 64).length/64)=kG eR st b (b.length/64):=by
  have:=vN eR st (b.take 64) (b.drop 64) 1 h2 ((b.drop 64).length/64)
  rw[h1] at this
  have e:kG eR st (b.take 64) 1=eR st (b.take 64):=by
   show eR st _=_
   rw[Nat.mul_zero,List.drop_zero,List.take_take];rfl
  rw[e] at this
  rw[<- this]
  congr 1
  rw[List.length_drop];omega
 unfold jc
 rw[h3,h4]
abbrev Wg:Type:=(List Int × List Int × Int) × List Int
def C2 (g:Wg):St:=aY Tryz.f161.ntmps 201 [(0,.is (.one (.ptr 0 0))),(1,.is (.one (.ro bK g.2)))] [(0,[.ints .u32 8 g.1.1,.ints .u8 64 g.1.2.1,.v (.int .i64 g.1.2.2)])]
abbrev Fy:au ja × HL [.sl bK]->Prop:=fun ((_,_,sz),b,_)=>(0:Int)<=sz/\sz<=(1152921504606846976:Int)/\List.length b<=1152921504606846976
def xn (st rest:List Int) (sz:Int) (b:List Int) (g:Wg):Prop:=((jc eR g.1.1 g.1.2.1 g.2).1,(jc eR g.1.1 g.1.2.1 g.2).2,g.1.2.2)=fN st rest sz b/\g.1.2.1.length=64
theorem LH {st rest:List Int} {sz:Int} {b:List Int} (h:(sz%64).toNat=0):fN st rest sz b=((jc eR (bif decide (sz=0) then cw else st) rest b).1,(jc eR (bif decide (sz=0) then cw else st) rest b).2,sz+b.length):=by
 rw[fN,ay,Fa,decide_eq_true h]
theorem Xu {st rest:List Int} {sz:Int} {b:List Int} {a:Nat} (ha:a=(sz%64).toNat) (h:a≠0) (h2:a+b.length<64):fN st rest sz b=(st,rest.take a++(b++rest.drop (a+b.length)),sz+b.length):=by
 subst ha
 rw[fN,ay,Fa,decide_eq_false h,decide_eq_true h2]
theorem Xv {st rest:List Int} {sz:Int} {b:List Int} {a:Nat} (ha:a=(sz%64).toNat) (h:a≠0) (h2:¬a+b.length<64):fN st rest sz b =
  ((jc eR (eR st (rest.take a++b.take (64-a))) (rest.take a++b.take (64-a)) (b.drop (64-a))).1,(jc eR (eR st (rest.take a++b.take (64-a))) (rest.take a++b.take (64-a)) (b.drop (64-a))).2,sz+b.length):=by
 subst ha
 rw[fN,ay,Fa,decide_eq_false h,decide_eq_false h2]
theorem Gv:y9 Tryz.prog 161 ja [.sl bK] [] db Fy (fun ((st,rest,sz),b,_)=>(fN st rest sz b,())):=by
 have hsp:aN Tryz.prog (aF [Qn]):=ai (qf VW) aR
 refine x5 (sp:=aF [Qn]) Of (by decide) (by decide) (by kernel_rfl) ?_
 rintro w M0 b0 ⟨st,rest,sz⟩ ⟨b,⟨⟩⟩
 revert st rest sz b
 intro (st:List Int) (rest:List Int) (sz:Int) (b:List Int) hw hw2 hp
 obtain⟨hs0,hs1,hb⟩:=hp
 have hs0:(0:Int)<=sz:=hs0
 have hs1:sz<=(1152921504606846976:Int):=hs1
 have hb:b.length<=1152921504606846976:=hb
 have hst:st.length=8:=hw.1.1
 have hrl:rest.length=64:=hw.2.1.1
 show Tr _ _ _ _ _ _ _
 refine eB hsp mixed 8 (fun σ=>(ga ja 0 σ,KW bK 1 σ)) C2 (xn st rest sz b) ?_ ?_
 ·refine ao (X:=(((sz==0)=true->0<[cw].length/\((64:Int)=0->False)/\(decide (sz.tmod (64:Int)>0)=true->(0<=sz.tmod 64/\sz.tmod 64<=(↑(64:Nat):Int))/\(sz.tmod 64).toNat+((↑(64:Nat):Int)-sz.tmod 64).toNat<=64/\(decide (i64.wrap (sz.tmod 64+(↑(b.length.min ((↑(64:Nat):Int)-sz.tmod 64).toNat):Int))<64)=true->(([1779033703,3144134277,1013904242,2773480762,1359893119,2600822924,528734635,1541459225],List.take (sz.tmod 64).toNat rest++(List.take (b.length.min ((↑(64:Nat):Int)-sz.tmod 64).toNat) b++List.drop ((sz.tmod 64).toNat+b.length.min ((↑(64:Nat):Int)-sz.tmod 64).toNat) rest),i64.wrap (sz+(b.length:Int))),())=(fN st rest sz b,()))/\(decide (i64.wrap (sz.tmod 64+(↑(b.length.min ((↑(64:Nat):Int)-sz.tmod 64).toNat):Int))<64)=false->(0<=(↑(b.length.min ((↑(64:Nat):Int)-sz.tmod 64).toNat):Int)/\(↑(b.length.min ((↑(64:Nat):Int)-sz.tmod 64).toNat):Int)<=(b.length:Int))/\(∀ (g:Nat) (s:Sigma au),db g=some s->Decidable.rec (fun h=>(fun x=>if g=1 then some ⟨Kd.arr 64 uK,dQ⟩ else none) h) (fun h=>(fun x=>some ⟨Kd.arr 8 uK,cw⟩) h) (instDecidableEqNat g 0)=some s)/\True/\(C2 ((eR cw (List.take (sz.tmod 64).toNat rest++(List.take (b.length.min ((↑(64:Nat):Int)-sz.tmod 64).toNat) b++List.drop ((sz.tmod 64).toNat+b.length.min ((↑(64:Nat):Int)-sz.tmod 64).toNat) rest)),List.take (sz.tmod 64).toNat rest++(List.take (b.length.min ((↑(64:Nat):Int)-sz.tmod 64).toNat) b++List.drop ((sz.tmod 64).toNat+b.length.min ((↑(64:Nat):Int)-sz.tmod 64).toNat) rest),i64.wrap (sz+(b.length:Int))),List.take ((b.length:Int)-(↑(b.length.min ((↑(64:Nat):Int)-sz.tmod 64).toNat):Int)).toNat (List.drop (↑(b.length.min ((↑(64:Nat):Int)-sz.tmod 64).toNat):Int).toNat b))).ah (xn st rest sz b ((eR cw (List.take (sz.tmod 64).toNat rest++(List.take (b.length.min ((↑(64:Nat):Int)-sz.tmod 64).toNat) b++List.drop ((sz.tmod 64).toNat+b.length.min ((↑(64:Nat):Int)-sz.tmod 64).toNat) rest)),List.take (sz.tmod 64).toNat rest++(List.take (b.length.min ((↑(64:Nat):Int)-sz.tmod 64).toNat) b++List.drop ((sz.tmod 64).toNat+b.length.min ((↑(64:Nat):Int)-sz.tmod 64).toNat) rest),i64.wrap (sz+(b.length:Int))),List.take ((b.length:Int)-(↑(b.length.min ((↑(64:Nat):Int)-sz.tmod 64).toNat):Int)).toNat (List.drop (↑(b.length.min ((↑(64:Nat):Int)-sz.tmod 64).toNat):Int).toNat b)))))/\(decide (sz.tmod (64:Int)>0)=false->(C2 (([1779033703,3144134277,1013904242,2773480762,1359893119,2600822924,528734635,1541459225],rest,i64.wrap (sz+(b.length:Int))),b)).ah (xn st rest sz b (([1779033703,3144134277,1013904242,2773480762,1359893119,2600822924,528734635,1541459225],rest,i64.wrap (sz+(b.length:Int))),b))))/\((sz==0)=false->((64:Int)=0->False)/\(decide (sz.tmod (64:Int)>0)=true->(0<=sz.tmod 64/\sz.tmod 64<=(↑(64:Nat):Int))/\(sz.tmod 64).toNat+((↑(64:Nat):Int)-sz.tmod 64).toNat<=64/\(decide (i64.wrap (sz.tmod 64+(↑(b.length.min ((↑(64:Nat):Int)-sz.tmod 64).toNat):Int))<64)=true->((st,List.take (sz.tmod 64).toNat rest++(List.take (b.length.min ((↑(64:Nat):Int)-sz.tmod 64).toNat) b++List.drop ((sz.tmod 64).toNat+b.length.min ((↑(64:Nat):Int)-sz.tmod 64).toNat) rest),i64.wrap (sz+(b.length:Int))),())=(fN st rest sz b,()))/\(decide (i64.wrap (sz.tmod 64+(↑(b.length.min ((↑(64:Nat):Int)-sz.tmod 64).toNat):Int))<64)=false->(0<=(↑(b.length.min ((↑(64:Nat):Int)-sz.tmod 64).toNat):Int)/\(↑(b.length.min ((↑(64:Nat):Int)-sz.tmod 64).toNat):Int)<=(b.length:Int))/\(∀ (g:Nat) (s:Sigma au),db g=some s->Decidable.rec (fun h=>(fun x=>if g=1 then some ⟨Kd.arr 64 uK,dQ⟩ else none) h) (fun h=>(fun x=>some ⟨Kd.arr 8 uK,cw⟩) h) (instDecidableEqNat g 0)=some s)/\True/\(C2 ((eR st (List.take (sz.tmod 64).toNat rest++(List.take (b.length.min ((↑(64:Nat):Int)-sz.tmod 64).toNat) b++List.drop ((sz.tmod 64).toNat+b.length.min ((↑(64:Nat):Int)-sz.tmod 64).toNat) rest)),List.take (sz.tmod 64).toNat rest++(List.take (b.length.min ((↑(64:Nat):Int)-sz.tmod 64).toNat) b++List.drop ((sz.tmod 64).toNat+b.length.min ((↑(64:Nat):Int)-sz.tmod 64).toNat) rest),i64.wrap (sz+(b.length:Int))),List.take ((b.length:Int)-(↑(b.length.min ((↑(64:Nat):Int)-sz.tmod 64).toNat):Int)).toNat (List.drop (↑(b.length.min ((↑(64:Nat):Int)-sz.tmod 64).toNat):Int).toNat b))).ah (xn st rest sz b ((eR st (List.take (sz.tmod 64).toNat rest++(List.take (b.length.min ((↑(64:Nat):Int)-sz.tmod 64).toNat) b++List.drop ((sz.tmod 64).toNat+b.length.min ((↑(64:Nat):Int)-sz.tmod 64).toNat) rest)),List.take (sz.tmod 64).toNat rest++(List.take (b.length.min ((↑(64:Nat):Int)-sz.tmod 64).toNat) b++List.drop ((sz.tmod 64).toNat+b.length.min ((↑(64:Nat):Int)-sz.tmod 64).toNat) rest),i64.wrap (sz+(b.length:Int))),List.take ((b.length:Int)-(↑(b.length.min ((↑(64:Nat):Int)-sz.tmod 64).toNat):Int)).toNat (List.drop (↑(b.length.min ((↑(64:Nat):Int)-sz.tmod 64).toNat):Int).toNat b)))))/\(decide (sz.tmod (64:Int)>0)=false->(C2 ((st,rest,i64.wrap (sz+(b.length:Int))),b)).ah (xn st rest sz b ((st,rest,i64.wrap (sz+(b.length:Int))),b)))))) (by kernel_rfl) ?_
  obtain⟨a,ha,ha64,har⟩:∃ a:Nat,sz.tmod 64=(a:Int)/\a<64/\a=(sz%64).toNat:=⟨(sz%64).toNat,by rw[Int.tmod_eq_emod_of_nonneg hs0];omega,by omega,rfl⟩
  have e1:((↑(64:Nat):Int)-(a:Int)).toNat=64-a:=by omega
  have e3:i64.wrap (sz+(b.length:Int))=sz+b.length:=aG (by omega) (by omega)
  rw[ha,e1,e3]
  obtain⟨n,hn⟩:∃ n,n=b.length.min (64-a):=⟨_,rfl⟩
  have hn':n=min b.length (64-a):=hn
  have e2:i64.wrap ((a:Int)+(n:Int))=((a+n:Nat):Int):=by rw[aG (by omega) (by omega)];omega
  rw[<- hn,e2]
  simp only[Int.toNat_natCast]
  refine⟨fun h0=>⟨by decide,by decide,fun hpos=>?_,fun hz=>aA ?_⟩,fun h0=>⟨by decide,fun hpos=>⟨⟨by omega,by omega⟩,by omega,fun hlt=>?_,fun hge=>⟨⟨by omega,by omega⟩,fun _ _ h=>h,trivial,aA ?_⟩⟩,fun hz=>aA ?_⟩⟩
  ·exfalso
   have h0:sz=0:=by simpa using h0
   have:=Odt hpos
   subst h0;omega
  ·have h0:sz=0:=by simpa using h0
   refine⟨?_,hrl⟩
   rw[LH (by omega),decide_eq_true h0];rfl
  ·have hlt:=Odt hlt
   have hpos:=Odt hpos
   have hnb:n=b.length:=by omega
   rw[Xu har (by omega) (by omega),hnb,List.take_of_length_le (Nat.le_refl _)]
  ·have hge:=Odf hge
   have hpos:=Odt hpos
   have hnb:n=64-a:=by omega
   have hr1:rest.take a++(b.take n++rest.drop (a+n))=rest.take a++b.take (64-a):=by
    rw[hnb,List.drop_eq_nil_of_le (by omega),List.append_nil]
   have hb1:List.take ((b.length:Int)-(n:Int)).toNat (List.drop n b)=b.drop (64-a):=by
    rw[List.take_of_length_le (by rw[List.length_drop];omega),hnb]
   rw[hr1,hb1]
   refine⟨?_,?_⟩
   ·rw[Xv har (by omega) (by omega)]
   ·show (rest.take a++b.take (64-a)).length=64
    rw[List.length_append,List.length_take,List.length_take];omega
  ·have hz:=Odf hz
   have h0:¬ sz=0:=by simpa using h0
   refine⟨?_,hrl⟩
   rw[LH (by omega),decide_eq_false h0];rfl
 rintro⟨⟨st1,rest1,sz1⟩,b1⟩ hJ
 revert st1 rest1 sz1 b1
 intro (b1:List Int) (st1:List Int) (rest1:List Int) (sz1:Int) (hJ:xn st rest sz b ((st1,rest1,sz1),b1))
 refine bO hsp mixed dA (fun σ=>(ga ja 0 σ,KW bK 1 σ)) C2 (xn st rest sz b) (fun g=>g.2.length)
  (fun σ=>(ga ja 0 σ,KW bK 1 σ)) C2 (fun g=>xn st rest sz b g/\g.2.length<64) ((st1,rest1,sz1),b1) (c:=aI (aJ Tryz.f161) 8) (by kernel_rfl) (by kernel_rfl) (aC (by kernel_rfl) (by kernel_rfl) ?_) ?_ ?_
 ·exact hJ
 ·rintro⟨⟨st1,rest1,sz1⟩,b1⟩ hj
  revert st1 rest1 sz1 b1
  intro (b1:List Int) (st1:List Int) (rest1:List Int) (sz1:Int) (hj:xn st rest sz b ((st1,rest1,sz1),b1))
  refine ao (X:=((decide ((b1.length:Int)>=64)=true->64<=b1.length/\0+Tryz.prog.cellsOf 214/width bK<=b1.length/\(∀ (g:Nat) (s:Sigma au),db g=some s->Decidable.rec (fun h=>(fun x=>if g=1 then some ⟨Kd.arr 64 uK,dQ⟩ else none) h) (fun h=>(fun x=>some ⟨Kd.arr 8 uK,cw⟩) h) (instDecidableEqNat g 0)=some s)/\True/\((0:Int)<=64/\64<=(b1.length:Int))/\(C2 ((eR st1 (List.take (Tryz.prog.cellsOf 214/width bK) b1),rest1,sz1),List.take ((b1.length:Int)-64).toNat (List.drop 64 b1))).ah (xn st rest sz b ((eR st1 (List.take (Tryz.prog.cellsOf 214/width bK) b1),rest1,sz1),List.take ((b1.length:Int)-64).toNat (List.drop 64 b1))/\(List.take ((b1.length:Int)-64).toNat (List.drop 64 b1)).length<b1.length))/\(decide ((b1.length:Int)>=64)=false->(C2 ((st1,rest1,sz1),b1)).ah (xn st rest sz b ((st1,rest1,sz1),b1)/\b1.length<64)))) (by kernel_rfl) ?_
  have e64:Tryz.prog.cellsOf 214/width bK=64:=by kernel_rfl
  obtain⟨hj1,hj2⟩:=hj
  refine⟨fun h=>?_,fun h=>aA ⟨⟨hj1,hj2⟩,by have:=Odf h;omega⟩⟩
  have h64:64<=b1.length:=by have:=Odt h;omega
  have hd:List.take ((b1.length:Int)-(64:Int)).toNat (List.drop 64 b1)=b1.drop 64:=List.take_of_length_le (by rw[List.length_drop];omega)
  show 64<=b1.length/\0+Tryz.prog.cellsOf 214/width bK<=b1.length/\_
  rw[e64,hd]
  refine⟨h64,by omega,fun _ _ h=>h,trivial,⟨by omega,by omega⟩,aA ⟨⟨?_,hj2⟩,?_⟩⟩
  ·show ((jc eR (eR st1 (List.take (Tryz.prog.cellsOf 214/width bK) b1)) rest1 (b1.drop 64)).1,(jc eR (eR st1 (List.take (Tryz.prog.cellsOf 214/width bK) b1)) rest1 (b1.drop 64)).2,sz1)=_
   rw[e64,Nu _ _ _ h64];exact hj1
  ·rw[List.length_drop];omega
 rintro⟨⟨st2,rest2,sz2⟩,b2⟩ hj
 revert st2 rest2 sz2 b2
 intro (b2:List Int) (st2:List Int) (rest2:List Int) (sz2:Int) (hj:xn st rest sz b ((st2,rest2,sz2),b2)/\b2.length<64)
 refine bf hsp mixed _ _ ?_
 refine ao (X:=(0+64<=64/\((st2,List.take 0 rest2++(List.take (b2.length.min 64) b2++List.drop (0+b2.length.min 64) rest2),sz2),())=(fN st rest sz b,()))) (by kernel_rfl) ?_
 obtain⟨⟨hj1,hj2⟩,hlt⟩:=hj
 have hlt:b2.length<64:=hlt
 refine⟨by decide,?_⟩
 have e1:b2.length.min 64=b2.length:=Nat.min_eq_left (by omega)
 have e2:da b2=b2:=by rw[da,show b2.length/64=0 by omega];rfl
 rw[<- hj1,e1]
 show ((st2,List.take 0 rest2++(List.take b2.length b2++List.drop (0+b2.length) rest2),sz2),())=(((jc eR st2 rest2 b2).1,(jc eR st2 rest2 b2).2,sz2),())
 unfold jc
 rw[e2,List.take_of_length_le (Nat.le_refl _),show b2.length/64=0 by omega,Nat.zero_add]
 rfl
def z4:Nat × Eng.Spec:=(161,sd db ja [.sl bK] [] Fy (fun ((st,rest,sz),b,_)=>(fN st rest sz b,())))
end
end Go.Proofs.YtbeeaekepmnfhaaGreatDoor.sha
open Go.IntKind(i64 u64 u8 u32)
namespace Go.Proofs.YtbeeaekepmnfhaaGreatDoor.sha
noncomputable section
open Go Go.Eng Go.RowKit Cr
theorem HY (f:Nat->Int) (p:List Int) (k n:Nat):(p++((List.range k).map f++List.replicate (n+1) 0)).set (p.length+k) (f k)=p++((List.range (k+1)).map f++List.replicate n 0):=by
 rw[List.set_append_right _ _ (by omega),show p.length+k-p.length=k by omega,List.set_append_right _ _ (by simp)]
 rw[show k-((List.range k).map f).length=0 by simp,List.replicate_succ,List.set_cons_zero,List.range_succ,List.map_append,List.append_assoc]
 rfl
theorem wrap_u8 (x:Int):u8.wrap x=x%256:=by
 simp only[IntKind.wrap,IntKind.signed,IntKind.bits]
 simp
theorem uV:enters Tryz.prog 162 Tryz.f162:=ek
def nn (sz:Int):Nat:=(64+55-sz.toNat%64)%64
def Qv (sz:Int) (i:Nat):Int:=sz*8/2^(56-8*i)%256
def pa (sz:Int) (k:Nat):List Int:=(128::List.replicate (nn sz) 0)++((List.range k).map (Qv sz)++List.replicate (71-nn sz-k) 0)
theorem Lm (sz:Int) (h:0<=sz):(pa sz 8).take (1+nn sz+8)=gL sz.toNat:=by
 have e:pa sz 8=((128::List.replicate (nn sz) 0)++(List.range 8).map (Qv sz))++List.replicate (71-nn sz-8) 0:=by rw[pa,List.append_assoc]
 rw[e,List.take_left' (by simp;omega)]
 have e2:((sz.toNat:Nat):Int)=sz:=by omega
 unfold gL Qv nn
 rw[e2]
 rfl
def gC (st rest:List Int) (sz:Int) (n:Int) (g:Int × List Int):St:=aY Tryz.f162.ntmps 129 [(0,.is (.one (.ptr 0 0))),(2,.is (.one (.ptr 1 0))),(3,.is (.one (.ptr 9 0))),(4,.is (.one (.ptr 33 0))),(5,sI .i64 n),(20,sI .i64 g.1)] [(33,[.ints .u8 72 g.2]),(9,[.ints .u8 32 (List.replicate 32 0)]),(1,[.ints .u8 32 (List.replicate 32 0)]),(0,[.ints .u32 8 st,.ints .u8 64 rest,.v (.int .i64 sz)])]
def K6 (st rest:List Int) (sz:Int) (y:au ja) (g:Int × List Int):St:=aY Tryz.f162.ntmps 217 [(2,.is (.one (.ptr 1 0))),(3,.is (.one (.ptr 9 0))),(7,.is (.one (.ptr 153 0))),(48,sI .i64 g.1)] [(153,[.ints .u32 8 y.1,.ints .u8 64 y.2.1,.v (.int .i64 y.2.2)]),(9,[.ints .u8 32 g.2]),(1,[.ints .u8 32 (List.replicate 32 0)]),(0,[.ints .u32 8 st,.ints .u8 64 rest,.v (.int .i64 sz)])]
def Sl (s:List Int) (i:Nat):Int:=u8.wrap ((s.getD (i/4) 0).fdiv (2^(24-8*(i%4))))
def oK (s:List Int) (k:Nat):List Int:=[]++((List.range k).map (Sl s)++List.replicate (32-k) 0)
def By (st rest:List Int) (sz:Int):List Int:=cr (DQ (fN st rest sz (gL sz.toNat)).1)
theorem SX {L st rest:List Int} {sz:Int} (h:qP eR cw L st rest sz):By st rest sz=iM L:=by
 have e:sz.toNat=L.length:=by have:=h.1;omega
 have k:=Ir h (gL L.length)
 have hne:L++gL L.length≠[]:=by simp[gL]
 rw[By,ay,iM,ay,LZ,e,k.2.2.1 hne]
theorem u9:y9 Tryz.prog 162 ja [] [.val (.arr 32 bK)] db (fun ((_,_,sz),_)=>(0:Int)<=sz/\sz<=(1152921504606846976:Int)) (fun ((st,rest,sz),_)=>((st,rest,sz),(By st rest sz,()))):=by
 have hsp:aN Tryz.prog (aF [z4]):=ai (qf Gv) aR
 refine x5 (sp:=aF [z4]) uV (by decide) (by decide) (by kernel_rfl) ?_
 rintro w M0 b0 ⟨st,rest,sz⟩ ⟨⟩
 revert st rest sz
 intro (st:List Int) (rest:List Int) (sz:Int) hw hw2 hp
 have hs0:(0:Int)<=sz:=hp.1
 have hs1:sz<=(1152921504606846976:Int):=hp.2
 have hnn:nn sz<64:=Nat.mod_lt _ (by decide)
 have hn0:(119-sz.tmod 64).tmod 64=(nn sz:Int):=by
  rw[Int.tmod_eq_emod_of_nonneg hs0,Int.tmod_eq_emod_of_nonneg (by omega)]
  show _=(((64+55-sz.toNat%64)%64:Nat):Int)
  omega
 have hw64:u64.wrap sz=sz:=by
  simp only[IntKind.wrap,IntKind.signed,IntKind.bits]
  simp;omega
 have hw8:u64.wrap (sz*8)=sz*8:=by
  simp only[IntKind.wrap,IntKind.signed,IntKind.bits]
  simp;omega
 show Tr _ _ _ _ _ _ _
 refine eB hsp mixed 8 (fun σ=>(bU (.int .i64) 5 σ,cN bK 33 σ)) (fun g=>gC st rest sz g.1 (0,g.2)) (fun g=>g.1=(nn sz:Int)/\g.2=pa sz 0) ?_ ?_
 ·refine ao (X:=((0:Nat)<(72:Nat)/\((64:Int)=(0:Int)->False)/\((64:Int)=(0:Int)->False)/\(gC st rest sz ((i64.wrap ((119:Int)-sz.tmod (64:Int))).tmod (64:Int),[(128:Int),(0:Int),(0:Int),(0:Int),(0:Int),(0:Int),(0:Int),(0:Int),(0:Int),(0:Int),(0:Int),(0:Int),(0:Int),(0:Int),(0:Int),(0:Int),(0:Int),(0:Int),(0:Int),(0:Int),(0:Int),(0:Int),(0:Int),(0:Int),(0:Int),(0:Int),(0:Int),(0:Int),(0:Int),(0:Int),(0:Int),(0:Int),(0:Int),(0:Int),(0:Int),(0:Int),(0:Int),(0:Int),(0:Int),(0:Int),(0:Int),(0:Int),(0:Int),(0:Int),(0:Int),(0:Int),(0:Int),(0:Int),(0:Int),(0:Int),(0:Int),(0:Int),(0:Int),(0:Int),(0:Int),(0:Int),(0:Int),(0:Int),(0:Int),(0:Int),(0:Int),(0:Int),(0:Int),(0:Int),(0:Int),(0:Int),(0:Int),(0:Int),(0:Int),(0:Int),(0:Int),(0:Int)]).fst ((0:Int),((i64.wrap ((119:Int)-sz.tmod (64:Int))).tmod (64:Int),[(128:Int),(0:Int),(0:Int),(0:Int),(0:Int),(0:Int),(0:Int),(0:Int),(0:Int),(0:Int),(0:Int),(0:Int),(0:Int),(0:Int),(0:Int),(0:Int),(0:Int),(0:Int),(0:Int),(0:Int),(0:Int),(0:Int),(0:Int),(0:Int),(0:Int),(0:Int),(0:Int),(0:Int),(0:Int),(0:Int),(0:Int),(0:Int),(0:Int),(0:Int),(0:Int),(0:Int),(0:Int),(0:Int),(0:Int),(0:Int),(0:Int),(0:Int),(0:Int),(0:Int),(0:Int),(0:Int),(0:Int),(0:Int),(0:Int),(0:Int),(0:Int),(0:Int),(0:Int),(0:Int),(0:Int),(0:Int),(0:Int),(0:Int),(0:Int),(0:Int),(0:Int),(0:Int),(0:Int),(0:Int),(0:Int),(0:Int),(0:Int),(0:Int),(0:Int),(0:Int),(0:Int),(0:Int)]).snd)).ah ((i64.wrap ((119:Int)-sz.tmod (64:Int))).tmod (64:Int)=(↑(nn sz):Int)/\[(128:Int),(0:Int),(0:Int),(0:Int),(0:Int),(0:Int),(0:Int),(0:Int),(0:Int),(0:Int),(0:Int),(0:Int),(0:Int),(0:Int),(0:Int),(0:Int),(0:Int),(0:Int),(0:Int),(0:Int),(0:Int),(0:Int),(0:Int),(0:Int),(0:Int),(0:Int),(0:Int),(0:Int),(0:Int),(0:Int),(0:Int),(0:Int),(0:Int),(0:Int),(0:Int),(0:Int),(0:Int),(0:Int),(0:Int),(0:Int),(0:Int),(0:Int),(0:Int),(0:Int),(0:Int),(0:Int),(0:Int),(0:Int),(0:Int),(0:Int),(0:Int),(0:Int),(0:Int),(0:Int),(0:Int),(0:Int),(0:Int),(0:Int),(0:Int),(0:Int),(0:Int),(0:Int),(0:Int),(0:Int),(0:Int),(0:Int),(0:Int),(0:Int),(0:Int),(0:Int),(0:Int),(0:Int)]=pa sz (0:Nat)))) (by kernel_rfl) ?_
  have e:i64.wrap (119-sz.tmod 64)=119-sz.tmod 64:=by
   rw[Int.tmod_eq_emod_of_nonneg hs0];exact aG (by omega) (by omega)
  rw[e,hn0]
  refine⟨by decide,by decide,by decide,aA ⟨rfl,?_⟩⟩
  show _=(128::List.replicate (nn sz) 0)++([]++List.replicate (71-nn sz-0) 0)
  rw[List.nil_append,List.cons_append,List.replicate_append_replicate,show nn sz+(71-nn sz-0)=71 by omega]
  rfl
 rintro⟨n0,t0⟩ hK
 revert n0 t0
 intro (n0:Int) (t0:List Int) ⟨e0,et⟩
 have e0:n0=(nn sz:Int):=e0
 have et:t0=pa sz 0:=et
 subst e0 et
 refine bO hsp mixed dA (fun σ=>(bU (.int .i64) 20 σ,cN bK 33 σ)) (gC st rest sz (nn sz)) (fun g=>∃ k:Nat,k<=8/\g.1=(k:Int)/\g.2=pa sz k) (fun g=>8-g.1.toNat)
  (fun σ=>(bU (.int .i64) 20 σ,cN bK 33 σ)) (gC st rest sz (nn sz)) (fun g=>g.2=pa sz 8) (0,pa sz 0) (c:=aI (aJ Tryz.f162) 8) (by kernel_rfl) (by kernel_rfl) (aC (by kernel_rfl) (by kernel_rfl) ?_) ?_ ?_
 ·exact⟨0,by decide,rfl,rfl⟩
 ·rintro⟨i,l⟩ hj
  revert i l
  intro (i:Int) (l:List Int) ⟨k,hk,ei,el⟩
  have ei:i=(k:Int):=ei
  have kl:l=pa sz k:=el
  subst ei
  refine ao (X:=((decide ((k:Int)<(8:Int))=true->(0:Int)<=i64.wrap ((56:Int)-i64.wrap ((8:Int)*(k:Int)))/\((0:Int)<=i64.wrap (i64.wrap ((1:Int)+(↑(nn sz):Int))+(k:Int))/\i64.wrap (i64.wrap ((1:Int)+(↑(nn sz):Int))+(k:Int))<(↑(72:Nat):Int))/\(i64.wrap (i64.wrap ((1:Int)+(↑(nn sz):Int))+(k:Int))).toNat<(72:Nat)/\(gC st rest sz (↑(nn sz):Int) (i64.wrap ((k:Int)+(1:Int)),l.set (i64.wrap (i64.wrap ((1:Int)+(↑(nn sz):Int))+(k:Int))).toNat (u8.wrap ((u64.wrap (u64.wrap sz*(8:Int))).fdiv ((2:Int)^min (i64.wrap ((56:Int)-i64.wrap ((8:Int)*(k:Int)))).toNat u64.bits))))).ah ((∃ cE,cE<=(8:Nat)/\i64.wrap ((k:Int)+(1:Int))=(cE:Int)/\l.set (i64.wrap (i64.wrap ((1:Int)+(↑(nn sz):Int))+(k:Int))).toNat (u8.wrap ((u64.wrap (u64.wrap sz*(8:Int))).fdiv ((2:Int)^min (i64.wrap ((56:Int)-i64.wrap ((8:Int)*(k:Int)))).toNat u64.bits)))=pa sz cE)/\(8:Nat)-(i64.wrap ((k:Int)+(1:Int))).toNat<(8:Nat)-(k:Int).toNat))/\(decide ((k:Int)<(8:Int))=false->(gC st rest sz (↑(nn sz):Int) ((k:Int),l)).ah (l=pa sz (8:Nat))))) (by kernel_rfl) ?_
  refine⟨fun h=>?_,fun h=>aA ?_⟩
  ·have h4:k<8:=by have:=Odt h;omega
   have e1:i64.wrap (i64.wrap ((1:Int)+(nn sz:Int))+(k:Int))=((1+nn sz+k:Nat):Int):=by
    rw[aG (a:=1+(nn sz:Int)) (by omega) (by omega),aG (by omega) (by omega)];omega
   have e2:i64.wrap (56-i64.wrap (8*(k:Int)))=((56-8*k:Nat):Int):=by
    rw[aG (a:=8*(k:Int)) (by omega) (by omega),aG (by omega) (by omega)];omega
   rw[e1,e2,aQ (by omega),hw64,hw8]
   simp only[Int.toNat_natCast]
   refine⟨by omega,⟨by omega,by omega⟩,by omega,aA ⟨⟨k+1,h4,rfl,?_⟩,by omega⟩⟩
   have ev:u8.wrap ((sz*8).fdiv (2^min (56-8*k) u64.bits))=Qv sz k:=by
    have hm:min (56-8*k) u64.bits=56-8*k:=Nat.min_eq_left (show 56-8*k<=64 by omega)
    rw[wrap_u8,hm,Int.fdiv_eq_ediv_of_nonneg _ (Int.le_of_lt (Int.pow_pos (by decide)))];rfl
   rw[ev,kl,pa,pa,show 71-nn sz-k=(71-nn sz-(k+1))+1 by omega]
   have:=HY (Qv sz) (128::List.replicate (nn sz) 0) k (71-nn sz-(k+1))
   rw[show (128::List.replicate (nn sz) (0:Int)).length=1+nn sz by simp;omega] at this
   exact this
  ·have:k=8:=by have:=Odf h;omega
   rw[kl,this]
 rintro⟨i1,l1⟩ hl1
 revert i1 l1
 intro (i1:Int) (l1:List Int) (hl1:l1=pa sz 8)
 subst hl1
 refine eB hsp mixed 3 (fun σ=>ga ja 153 σ) (fun y=>K6 st rest sz y (0,List.replicate 32 0)) (fun y=>y=fN st rest sz (gL sz.toNat)) ?_ ?_
 ·refine ao (X:=(((0:Int)<=i64.wrap (i64.wrap ((1:Int)+(↑(nn sz):Int))+(8:Int))/\i64.wrap (i64.wrap ((1:Int)+(↑(nn sz):Int))+(8:Int))<=(↑(72:Nat):Int))/\(∀ (g:Nat) (s:Sigma au),db g=some s->Decidable.rec (fun h=>(fun x=>if g=(1:Nat) then some ⟨Kd.arr (64:Nat) uK,dQ⟩ else none) h) (fun h=>(fun x=>some ⟨Kd.arr (8:Nat) uK,cw⟩) h) (instDecidableEqNat g (0:Nat))=some s)/\(0:Nat)+(i64.wrap (i64.wrap ((1:Int)+(↑(nn sz):Int))+(8:Int))-(0:Int)).toNat<=(72:Nat)/\Fy ((st,rest,sz),List.take (i64.wrap (i64.wrap ((1:Int)+(↑(nn sz):Int))+(8:Int))-(0:Int)).toNat (pa sz (8:Nat)),())/\(K6 st rest sz (fN st rest sz (List.take (i64.wrap (i64.wrap ((1:Int)+(↑(nn sz):Int))+(8:Int))-(0:Int)).toNat (pa sz (8:Nat)))) ((0:Int),List.replicate (32:Nat) (0:Int))).ah (fN st rest sz (List.take (i64.wrap (i64.wrap ((1:Int)+(↑(nn sz):Int))+(8:Int))-(0:Int)).toNat (pa sz (8:Nat)))=fN st rest sz (gL sz.toNat)))) (by kernel_rfl) ?_
  have e1:i64.wrap (i64.wrap ((1:Int)+(nn sz:Int))+8)=((1+nn sz+8:Nat):Int):=by
   rw[aG (a:=1+(nn sz:Int)) (by omega) (by omega),aG (by omega) (by omega)];omega
  have e2:(((1+nn sz+8:Nat):Int)-0).toNat=1+nn sz+8:=by omega
  rw[e1,e2,Lm sz hs0]
  refine⟨⟨by omega,by omega⟩,fun _ _ h=>h,by omega,⟨hs0,hs1,?_⟩,aA rfl⟩
  show (gL sz.toNat).length<=_
  rw[<- Lm sz hs0,List.length_take];omega
 rintro⟨y1,y2,y3⟩ hy
 revert y1 y2 y3
 intro (y1:List Int) (y2:List Int) (y3:Int) (hy:(y1,y2,y3)=fN st rest sz (gL sz.toNat))
 rw[hy]
 refine bO hsp mixed dA (fun σ=>(bU (.int .i64) 48 σ,cN bK 9 σ)) (K6 st rest sz (fN st rest sz (gL sz.toNat))) (fun g=>∃ k:Nat,k<=32/\g.1=(k:Int)/\g.2=oK (fN st rest sz (gL sz.toNat)).1 k) (fun g=>32-g.1.toNat)
  (fun σ=>(bU (.int .i64) 48 σ,cN bK 9 σ)) (K6 st rest sz (fN st rest sz (gL sz.toNat))) (fun g=>g.2=oK (fN st rest sz (gL sz.toNat)).1 32) (0,List.replicate 32 0) (c:=aI (aJ Tryz.f162) 12) (by kernel_rfl) (by kernel_rfl) (aC (by kernel_rfl) (by kernel_rfl) ?_) ?_ ?_
 ·exact⟨0,by decide,rfl,rfl⟩
 ·rintro⟨i,l⟩ hj
  revert i l
  intro (i:Int) (l:List Int) ⟨k,hk,ei,el⟩
  have ei:i=(k:Int):=ei
  have kl:l=oK (fN st rest sz (gL sz.toNat)).1 k:=el
  subst ei
  refine ao (X:=((decide ((k:Int)<(32:Int))=true->((4:Int)=(0:Int)->False)/\((0:Int)<=i64.wrap ((k:Int).tdiv (4:Int))/\i64.wrap ((k:Int).tdiv (4:Int))<(↑(8:Nat):Int))/\(i64.wrap ((k:Int).tdiv (4:Int))).toNat<(8:Nat)/\((4:Int)=(0:Int)->False)/\(0:Int)<=i64.wrap ((24:Int)-i64.wrap ((8:Int)*(k:Int).tmod (4:Int)))/\((0:Int)<=(k:Int)/\(k:Int)<(↑(32:Nat):Int))/\(k:Int).toNat<(32:Nat)/\(K6 st rest sz (fN st rest sz (gL sz.toNat)) (i64.wrap ((k:Int)+(1:Int)),l.set (k:Int).toNat (u8.wrap (((fN st rest sz (gL sz.toNat)).fst.getD (i64.wrap ((k:Int).tdiv (4:Int))).toNat (0:Int)).fdiv ((2:Int)^min (i64.wrap ((24:Int)-i64.wrap ((8:Int)*(k:Int).tmod (4:Int)))).toNat u32.bits))))).ah ((∃ cE,cE<=(32:Nat)/\i64.wrap ((k:Int)+(1:Int))=(cE:Int)/\l.set (k:Int).toNat (u8.wrap (((fN st rest sz (gL sz.toNat)).fst.getD (i64.wrap ((k:Int).tdiv (4:Int))).toNat (0:Int)).fdiv ((2:Int)^min (i64.wrap ((24:Int)-i64.wrap ((8:Int)*(k:Int).tmod (4:Int)))).toNat u32.bits)))=oK (fN st rest sz (gL sz.toNat)).fst cE)/\(32:Nat)-(i64.wrap ((k:Int)+(1:Int))).toNat<(32:Nat)-(k:Int).toNat))/\(decide ((k:Int)<(32:Int))=false->(K6 st rest sz (fN st rest sz (gL sz.toNat)) ((k:Int),l)).ah (l=oK (fN st rest sz (gL sz.toNat)).fst (32:Nat))))) (by kernel_rfl) ?_
  refine⟨fun h=>?_,fun h=>aA ?_⟩
  ·have h4:k<32:=by have:=Odt h;omega
   have e1:i64.wrap ((k:Int).tdiv 4)=((k/4:Nat):Int):=by
    rw[Int.tdiv_eq_ediv_of_nonneg (by omega),aG (by omega) (by omega)];omega
   have e2:i64.wrap (24-i64.wrap (8*(k:Int).tmod 4))=((24-8*(k%4):Nat):Int):=by
    rw[Int.tmod_eq_emod_of_nonneg (by omega),aG (a:=8*((k:Int)%4)) (by omega) (by omega),aG (by omega) (by omega)];omega
   rw[e1,e2,aQ (by omega)]
   simp only[Int.toNat_natCast]
   refine⟨by decide,⟨by omega,by omega⟩,by omega,by decide,by omega,⟨by omega,by omega⟩,h4,aA ⟨⟨k+1,h4,rfl,?_⟩,by omega⟩⟩
   have ev:u8.wrap (((fN st rest sz (gL sz.toNat)).1.getD (k/4) 0).fdiv (2^min (24-8*(k%4)) u32.bits))=Sl (fN st rest sz (gL sz.toNat)).1 k:=by
    have hm:min (24-8*(k%4)) u32.bits=24-8*(k%4):=Nat.min_eq_left (show 24-8*(k%4)<=32 by omega)
    rw[hm];rfl
   rw[ev,kl,oK,oK,show 32-k=(32-(k+1))+1 by omega]
   have:=HY (Sl (fN st rest sz (gL sz.toNat)).1) [] k (32-(k+1))
   rw[show ([]:List Int).length+k=k by simp] at this
   exact this
  ·have:k=32:=by have:=Odf h;omega
   rw[kl,this]
 rintro⟨i2,l2⟩ hl2
 revert i2 l2
 intro (i2:Int) (l2:List Int) (hl2:l2=oK (fN st rest sz (gL sz.toNat)).1 32)
 refine bf hsp mixed _ _ ?_
 refine ao (X:=(((st,rest,sz),l2,())=((st,rest,sz),By st rest sz,()))) (by kernel_rfl) ?_
 rw[hl2,By,ay]
 have e:oK (fN st rest sz (gL sz.toNat)).1 32=DQ (fN st rest sz (gL sz.toNat)).1:=by
  show []++(_++[])=_
  rw[List.append_nil,List.nil_append];rfl
 rw[e]
def z0:Nat × Eng.Spec:=(162,sd db ja [] [.val (.arr 32 bK)] (fun ((_,_,sz),_)=>(0:Int)<=sz/\sz<=(1152921504606846976:Int)) (fun ((st,rest,sz),_)=>((st,rest,sz),(By st rest sz,()))))
theorem xO:enters Tryz.prog 113 Tryz.f113:=ek
def KI (ps:List (List Int)) (g:Int × au ja):St:=aY Tryz.f113.ntmps 40 [(2,.is (.one (.ptr 0 0))),(3,.is (.one (.ptr 8 0))),(6,.is (.one (.ro (.sl bK) ps))),(7,sI .i64 ps.length),(8,sI .i64 g.1)] [(8,[.ints .u32 8 g.2.1,.ints .u8 64 g.2.2.1,.v (.int .i64 g.2.2.2)]),(0,[.ints .u8 32 (List.replicate 32 0)])]
abbrev zM:HL [.sl (.sl bK)]->Prop:=fun (ps,_)=>List.length (List.flatten ps)<=1099511627776/\List.length ps<=1099511627776
theorem nL:aB Tryz.prog 113 [.sl (.sl bK)] [.val (.arr 32 bK)] db zM (fun (ps,_)=>(iM (List.flatten ps),())):=by
 have hsp:aN Tryz.prog (aF [z4,z0]):=ai (qf Gv) (ai (qf u9) aR)
 refine bh (sp:=aF [z4,z0]) xO (by decide) (by decide) (by kernel_rfl) ?_
 rintro w M0 ⟨ps,⟨⟩⟩
 revert ps
 intro (ps:List (List Int)) _ hp
 have hl:(List.flatten ps).length<=1099511627776:=hp.1
 have hn:ps.length<=1099511627776:=hp.2
 show Tr _ _ _ _ _ _ _
 refine aP hsp mixed 3 (KI ps (0,(List.replicate 8 0,List.replicate 64 0,0))) True ?_ (fun _=>?_)
 ·refine ao (X:=((KI ps ((0:Int),List.replicate (8:Nat) (0:au uK),List.replicate (64:Nat) (0:au bK),(0:au (Kd.int i64)))).ah True)) (by kernel_rfl) ?_
  exact aA trivial
 refine bO hsp mixed dA (fun σ=>(bU (.int .i64) 8 σ,ga ja 8 σ)) (KI ps) (fun g=>∃ k:Nat,k<=ps.length/\g.1=(k:Int)/\qP eR cw (List.flatten (ps.take k)) g.2.1 g.2.2.1 g.2.2.2) (fun g=>ps.length-g.1.toNat)
  (fun σ=>(bU (.int .i64) 8 σ,ga ja 8 σ)) (KI ps) (fun g=>qP eR cw (List.flatten ps) g.2.1 g.2.2.1 g.2.2.2) (0,(List.replicate 8 0,List.replicate 64 0,0)) (c:=aI (aJ Tryz.f113) 3) (by kernel_rfl) (by kernel_rfl) (aC (by kernel_rfl) (by kernel_rfl) ?_) ?_ ?_
 ·exact⟨0,Nat.zero_le _,rfl,SW eR cw _ _ List.length_replicate⟩
 ·rintro⟨i,st,rest,sz⟩ hj
  revert i st rest sz
  intro (i:Int) (st:List Int) (rest:List Int) (sz:Int) ⟨k,hk,ei,tk⟩
  have ei:i=(k:Int):=ei
  have tk:qP eR cw (List.flatten (ps.take k)) st rest sz:=tk
  subst ei
  refine ao (X:=((decide ((k:Int)<(ps.length:Int))=true->((0:Int)<=(k:Int)/\(k:Int)<(ps.length:Int))/\(k:Int).toNat<ps.length/\(∀ (g:Nat) (s:Sigma au),db g=some s->Decidable.rec (fun h=>(fun x=>if g=(1:Nat) then some ⟨Kd.arr (64:Nat) uK,dQ⟩ else none) h) (fun h=>(fun x=>some ⟨Kd.arr (8:Nat) uK,cw⟩) h) (instDecidableEqNat g (0:Nat))=some s)/\Fy ((st,rest,sz),ps.getD (k:Int).toNat [],())/\(KI ps (i64.wrap ((k:Int)+(1:Int)),fN st rest sz (ps.getD (k:Int).toNat []))).ah ((∃ cE,cE<=ps.length/\i64.wrap ((k:Int)+(1:Int))=(cE:Int)/\qP eR cw (List.take cE ps).flatten (fN st rest sz (ps.getD (k:Int).toNat [])).fst (fN st rest sz (ps.getD (k:Int).toNat [])).snd.fst (fN st rest sz (ps.getD (k:Int).toNat [])).snd.snd)/\ps.length-(i64.wrap ((k:Int)+(1:Int))).toNat<ps.length-(k:Int).toNat))/\(decide ((k:Int)<(ps.length:Int))=false->(KI ps ((k:Int),st,rest,sz)).ah (qP eR cw ps.flatten st rest sz)))) (by kernel_rfl) ?_
  refine⟨fun h=>?_,fun h=>aA ?_⟩
  ·have h4:k<ps.length:=by have:=Odt h;omega
   have hx:ps.getD k []=ps[k]:=by simp[List.getElem?_eq_getElem h4]
   have hf:(ps.take (k+1)).flatten=(ps.take k).flatten++ps.getD k []:=by
    rw[List.take_succ_eq_append_getElem h4,List.flatten_append,hx];simp
   have hlen:(ps.take (k+1)).flatten.length<=ps.flatten.length:=by
    have:ps.flatten=(ps.take (k+1)).flatten++(ps.drop (k+1)).flatten:=by rw[<- List.flatten_append,List.take_append_drop]
    rw[this,List.length_append];omega
   have hsz:sz=(((ps.take k).flatten.length:Nat):Int):=tk.1
   have hl2:(ps.take k).flatten.length+(ps.getD k []).length<=1099511627776:=by
    rw[hf,List.length_append] at hlen;omega
   rw[aQ (by omega)]
   simp only[Int.toNat_natCast]
   have a1:(0:Int)<=sz:=by rw[hsz];omega
   have a2:sz<=(1152921504606846976:Int):=by rw[hsz];omega
   refine⟨⟨by omega,by omega⟩,h4,fun _ _ h=>h,⟨a1,a2,?_⟩,aA ⟨⟨k+1,h4,rfl,?_⟩,by omega⟩⟩
   ·show (ps.getD k []).length<=_
    omega
   ·rw[hf];exact Ir tk _
  ·have:k=ps.length:=by have:=Odf h;omega
   rw[this,List.take_length] at tk
   exact tk
 rintro⟨i,st,rest,sz⟩ hj
 revert i st rest sz
 intro (i:Int) (st:List Int) (rest:List Int) (sz:Int) (tk:qP eR cw (List.flatten ps) st rest sz)
 refine bf hsp mixed _ _ ?_
 refine ao (X:=((∀ (g:Nat) (s:Sigma au),db g=some s->Decidable.rec (fun h=>(fun x=>if g=(1:Nat) then some ⟨Kd.arr (64:Nat) uK,dQ⟩ else none) h) (fun h=>(fun x=>some ⟨Kd.arr (8:Nat) uK,cw⟩) h) (instDecidableEqNat g (0:Nat))=some s)/\((0:Int)<=sz/\sz<=(1152921504606846976:Int))/\(By st rest sz,())=(iM ps.flatten,()))) (by kernel_rfl) ?_
 have hsz:sz=((ps.flatten.length:Nat):Int):=tk.1
 have a1:(0:Int)<=sz:=by rw[hsz];omega
 have a2:sz<=(1152921504606846976:Int):=by rw[hsz];omega
 exact⟨fun _ _ h=>h,⟨a1,a2⟩,by rw[SX tk]⟩
def ly:Nat × Eng.Spec:=(113,mc db [.sl (.sl bK)] [.val (.arr 32 bK)] zM (fun (ps,_)=>(iM (List.flatten ps),())))
end
end Go.Proofs.YtbeeaekepmnfhaaGreatDoor.sha
open Go.IntKind(i64 u64 u8)
namespace Go.Proofs.YtbeeaekepmnfhaaGreatDoor.beacon
noncomputable section
open Go Go.Eng Go.RowKit Cr
abbrev iK:Kd:=.int .i64
abbrev b8:Kd:=.sl (.int .u8)
abbrev bo:Kd:=.pair .fp .fp
abbrev TL:Kd:=.pair (.arr 48 (.int .u8)) (.pair (.arr 32 (.int .u8)) (.pair iK iK))
def kJ (g p n:Int):Int:=if p<1\/g<0\/n<g then 0 else i64.wrap ((i64.wrap (n-g)).tdiv p)
theorem Vj:enters Tryz.prog 70 Tryz.f70:=ek
theorem YJ:aB Tryz.prog 70 [TL,iK] [.val iK] aM (fun _=>True) (fun (i,n,_)=>(kJ i.2.2.1 i.2.2.2 n,())):=by
 refine ax (sp:=aF []) aR mixed Vj (by decide) (by decide) ?_
 rintro w M0 ⟨⟨k,c,g,p⟩,n,⟨⟩⟩
 revert k c g p n
 intro (k:List Int) (c:List Int) (g:Int) (p:Int) (n:Int) hw _
 refine ao (X:=((decide (p<(1:Int))=true->((0:Int),())=(kJ g p n,()))/\(decide (p<(1:Int))=false->(decide (g<(0:Int))=true->((0:Int),())=(kJ g p n,()))/\(decide (g<(0:Int))=false->(decide (n<g)=true->((0:Int),())=(kJ g p n,()))/\(decide (n<g)=false->(p=(0:Int)->False)/\(i64.wrap ((i64.wrap (n-g)).tdiv p),())=(kJ g p n,())))))) (by kernel_rfl) ?_
 have t2:∀ {a:Prop} [Decidable a],decide a=true->a:=fun h=>Odt h
 have t3:∀ {a:Prop} [Decidable a],decide a=false->¬ a:=fun h=>Odf h
 refine⟨fun h=>?_,fun h=>⟨fun h2=>?_,fun h2=>⟨fun h3=>?_,fun h3=>?_⟩⟩⟩
 ·rw[kJ,if_pos (.inl (t2 h))]
 ·rw[kJ,if_pos (.inr (.inl (t2 h2)))]
 ·rw[kJ,if_pos (.inr (.inr (t2 h3)))]
 ·have:=t3 h
  have:=t3 h2
  have:=t3 h3
  rw[kJ,if_neg (by omega)]
  exact⟨fun e=>by omega,rfl⟩
def ac7:Nat × Eng.Spec:=(70,ar [TL,iK] [.val iK] (fun _=>True) (fun (i,n,_)=>(kJ i.2.2.1 i.2.2.2 n,())))
theorem JS:enters Tryz.prog 34 Tryz.f34:=ek
abbrev CB:HL [.sl bo]->Prop:=fun (c,_)=>List.length c<1048576
def wm (c:List (Fp × Fp)):Bool:=decide (c.length≠0)
theorem Gr:aB Tryz.prog 34 [.sl bo] [.val .pq] aM CB (fun (c,_)=>(wm c,())):=by
 refine ax (sp:=aF [deal.rH,poly.Nf]) (ai (ak deal.vW) (ai (ak poly.Oo) aR)) mixed JS (by decide) (by decide) ?_
 rintro w M0 ⟨c,⟨⟩⟩
 revert c
 intro (c:List (Fp × Fp)) _ hc
 have hc:c.length<1048576:=hc
 refine ao (X:=((((c.length:Int)==(0:Int))=true->(false,())=(wm c,()))/\(((c.length:Int)==(0:Int))=false->deal.iV (c,())/\poly.Cz (c,(0:Int),())/\(true,())=(wm c,())))) (by kernel_rfl) ?_
 refine⟨fun h=>?_,fun h=>⟨hc,⟨by show c.length<_;omega,by decide⟩,?_⟩⟩
 ·have h:(c.length:Int)=0:=eq_of_beq h
  rw[wm,decide_eq_false (by omega)]
 ·have h:¬ (c.length:Int)=0:=fun e=>by rw[e] at h;cases h
  rw[wm,decide_eq_true (by omega)]
def FE:Nat × Eng.Spec:=(34,ar [.sl bo] [.val .pq] CB (fun (c,_)=>(wm c,())))
theorem Rv:enters Tryz.prog 71 Tryz.f71:=ek
def txS (g:Int × List Int) (k:Nat):Int × List Int:=(g.1.fdiv (2^min (8:Nat) u64.bits),g.2.set (7-k) (u8.wrap g.1))
def xm (n:Int):Nat->Int × List Int
 | 0=>(u64.wrap n,List.replicate 8 0)
 | k+1=>txS (xm n k) k
def fj (c:List Int) (n:Int):List Int:=cr (sha.iM (List.flatten [c,(xm n 8).2]))
def UH (c:List Int) (g:Int × Int × List Int):St:=aY Tryz.f71.ntmps 40 [(0,.is (.one (.ro (.int .u8) c))),(5,.is (.one (.ptr 8 0))),(6,sI .u64 g.2.1),(7,sI .i64 g.1)] [(8,[.ints .u8 8 g.2.2])]
def txO (c:List Int) (g:List Int):St:=aY Tryz.f71.ntmps 40 [(0,.is (.one (.ro (.int .u8) c))),(5,.is (.one (.ptr 8 0)))] [(8,[.ints .u8 8 g])]
theorem Lu (n:Int):∀ k,(xm n k).2.length=8
 | 0=>List.length_replicate
 | k+1=>by show (List.set _ _ _).length=8;rw[List.length_set,Lu n k]
abbrev Fx:HL [b8,iK]->Prop:=fun (c,_,_)=>List.length c<=5000
theorem Kg:aB Tryz.prog 71 [b8,iK] [.own (.int .u8)] sha.db Fx (fun (c,n,_)=>(fj c n,())):=by
 have hsp:aN Tryz.prog (aF [sha.ly]):=ai (B5 sha.nL) aR
 refine bh (sp:=aF [sha.ly]) Rv (by decide) (by decide) (by kernel_rfl) ?_
 rintro w M0 ⟨c,n,⟨⟩⟩
 revert c n
 intro (c:List Int) (n:Int) _ hc
 have hc:c.length<=5000:=hc
 show Tr _ _ _ _ _ _ _
 refine aP hsp mixed 4 (UH c (7,u64.wrap n,List.replicate 8 0)) True ?_ (fun _=>?_)
 ·refine ao (X:=((UH c ((7:Int),u64.wrap n,List.replicate (8:Nat) (0:Int))).ah True)) (by kernel_rfl) ?_
  exact aA trivial
 refine bO hsp mixed dA (fun σ=>(bU (.int .i64) 7 σ,bU (.int .u64) 6 σ,cN (.int .u8) 8 σ)) (UH c) (fun g=>∃ k:Nat,k<=8/\g.1=7-(k:Int)/\g.2.1=(xm n k).1/\g.2.2=(xm n k).2) (fun g=>(g.1+1).toNat)
  (fun σ=>cN (.int .u8) 8 σ) (txO c) (fun g=>g=(xm n 8).2) (7,u64.wrap n,List.replicate 8 0) (c:=aI (aJ Tryz.f71) 4) (by kernel_rfl) (by kernel_rfl) (aC (by kernel_rfl) (by kernel_rfl) ?_) ?_ ?_
 ·exact⟨0,by decide,rfl,rfl,rfl⟩
 ·rintro⟨i,u,xs⟩ hj
  revert i u xs
  intro (i:Int) (u:Int) (xs:List Int) ⟨k,hk,ei,eu,ex⟩
  have ki:i=7-(k:Int):=ei
  have ku:u=(xm n k).1:=eu
  have kx:xs=(xm n k).2:=ex
  refine ao (X:=((decide (i>=(0:Int))=true->((0:Int)<=i/\i<(↑(8:Nat):Int))/\i.toNat<(8:Nat)/\(0:Int)<=(8:Int)/\(UH c (i64.wrap (i-(1:Int)),u.fdiv ((2:Int)^min (8:Nat) u64.bits),xs.set i.toNat (u8.wrap u))).ah ((∃ k,k<=(8:Nat)/\i64.wrap (i-(1:Int))=(7:au (Kd.int i64))-(k:Int)/\u.fdiv ((2:Int)^min (8:Nat) u64.bits)=(xm n k).fst/\xs.set i.toNat (u8.wrap u)=(xm n k).snd)/\Int.toNat (i64.wrap (i-(1:Int))+(1:au (Kd.int i64)))<Int.toNat (i+(1:au (Kd.int i64)))))/\(decide (i>=(0:Int))=false->(txO c xs).ah (xs=(xm n (8:Nat)).snd)))) (by kernel_rfl) ?_
  refine⟨fun h=>?_,fun h=>aA ?_⟩
  ·have h0:0<=i:=Odt h
   have ei2:i.toNat=7-k:=by omega
   rw[aG (by omega) (by omega),ei2,ku,kx]
   exact⟨⟨by omega,by omega⟩,by omega,by decide,aA ⟨⟨k+1,by omega,by show i-1=_;omega,rfl,rfl⟩,by show (i-1+1).toNat<(i+1).toNat;omega⟩⟩
  ·have h0:¬ 0<=i:=Odf h
   have hk8:k=8:=by omega
   rw[kx,hk8]
 intro (xs:List Int) (hx:xs=(xm n 8).2)
 refine bf hsp mixed _ _ ?_
 refine ao (X:=((∀ (g:Nat) (s:Sigma au),sha.db g=some s->Decidable.rec (fun h=>(fun x=>if g=(1:Nat) then some ⟨Kd.arr (64:Nat) sha.uK,sha.dQ⟩ else none) h) (fun h=>(fun x=>some ⟨Kd.arr (8:Nat) sha.uK,sha.cw⟩) h) (instDecidableEqNat g (0:Nat))=some s)/\0+8<=8/\sha.zM ([c,List.take 8 xs],())/\0+32<=32/\(List.take 32 (sha.iM [c,List.take 8 xs].flatten),())=(fj c n,()))) (by kernel_rfl) ?_
 have l8:xs.length=8:=by rw[hx];exact Lu n 8
 rw[List.take_of_length_le (Nat.le_of_eq l8),List.take_of_length_le (l:=sha.iM _) (Nat.le_of_eq (sha.rv _))]
 refine⟨fun _ _ h=>h,Nat.le_refl _,⟨?_,by show 2<=_;decide⟩,Nat.le_refl _,?_⟩
 ·show (List.flatten [c,xs]).length<=1099511627776
  simp only[List.flatten_cons,List.flatten_nil,List.length_append,List.length_nil]
  omega
 ·rw[fj,ay,hx]
def Ic:Nat × Eng.Spec:=(71,mc sha.db [b8,iK] [.own (.int .u8)] Fx (fun (c,n,_)=>(fj c n,())))
theorem Lv (c:List Int) (n:Int):(fj c n).length=32:=by rw[fj,ay];exact sha.rv _
end
end Go.Proofs.YtbeeaekepmnfhaaGreatDoor.beacon
namespace Go.Proofs.YtbeeaekepmnfhaaGreatDoor.law24
open Go Go.Eng Go.RowKit Cr beacon
theorem X9:kJ 100 10 109=0:=by decide
theorem Ya:kJ 100 10 110=1:=by decide
theorem Yb:kJ 100 10 135=3:=by decide
theorem Rf:enters Tryz.prog 32 Tryz.f32:=ek
theorem VJ:aB Tryz.prog 32 [] [.val .bool] sha.db (fun _=>True) (fun _=>(true,())):=by
 refine ax (sp:=aF [ac7,Ic,FE,g1.FC]) (ai (ak YJ) (ai (B5 Kg) (ai (ak Gr) (ai (ak g1.Gw) aR)))) mixed Rf (by decide) (by decide) ?_
 rintro w M0 ⟨⟩ _ _
 refine ao (X:=(True/\((kJ 100 10 (109:Int)==0)=true->True/\((kJ 100 10 (110:Int)==1)=true->True/\((kJ 100 10 (135:Int)==3)=true->(∀ (g:Nat) (s:Sigma au),sha.db g=some s->Decidable.rec (fun h=>(fun x=>if g=1 then some ⟨Kd.arr 64 sha.uK,sha.dQ⟩ else none) h) (fun h=>(fun x=>some ⟨Kd.arr 8 sha.uK,sha.cw⟩) h) (instDecidableEqNat g 0)=some s)/\Fx ([],1,())/\(((↑(fj [] 1).length:Int)==32)=true->CB ([],())/\((!wm [])=true->True/\0+1<=1/\CB (List.take 1 [g1.gG],())/\(wm (List.take 1 [g1.gG]),())=(true,()))/\((!wm [])=false->(false,())=(true,())))/\(((↑(fj [] 1).length:Int)==32)=false->(false,())=(true,())))/\((kJ 100 10 (135:Int)==3)=false->(false,())=(true,())))/\((kJ 100 10 (110:Int)==1)=false->(false,())=(true,())))/\((kJ 100 10 (109:Int)==0)=false->(false,())=(true,())))) (by kernel_rfl) ?_
 rw[Lv,X9,Ya,Yb]
 have no:∀ {P:Prop} {b:Bool},b=true->b=false->P:=fun h k=>by rw[h] at k;cases k
 exact⟨trivial,fun _=>⟨trivial,fun _=>⟨trivial,fun _=>⟨fun _ _ h=>h,(by show 0<=_;decide),fun _=>⟨(by show 0<_;decide),fun _=>⟨trivial,by decide,(by show 1<_;decide),rfl⟩,no (by decide)⟩,no (by decide)⟩,no (by decide)⟩,no (by decide)⟩,no (by decide)⟩
noncomputable def Qd:Nat × Eng.Spec:=(32,mc sha.db [] [.val .bool] (fun _=>True) (fun _=>(true,())))
end Go.Proofs.YtbeeaekepmnfhaaGreatDoor.law24
namespace Go.Proofs.YtbeeaekepmnfhaaGreatDoor.part
section
variable {α:Type} (z:α) (key:α->Int)
def Il (l:List α) (j:Nat):List α:=(l.set (j+1) (l.getD j z)).set j (l.getD (j+1) z)
def xy (l:List α):Nat->List α
 | 0=>l
 | j+1=>if key (l.getD (j+1) z)<key (l.getD j z) then xy (Il z l j) j else l
def q5 (l:List α):Nat->List α
 | 0=>l
 | k+1=>xy z key (q5 l k) (k+1)
theorem Im:∀ (l:List α) (j:Nat),j+1<l.length->(Il z l j).Perm l
 | x::y::l,0,_=>List.Perm.swap x y l
 | x::l,j+1,h=>by
  have h:j+1<l.length:=by simpa using h
  exact (Im l j h).cons x
 | [],_,h=>absurd h (by simp)
 | [_],0,h=>absurd h (by simp)
theorem Lh (l:List α) (j:Nat):(Il z l j).length=l.length:=by simp[Il]
theorem Lg (l:List α) (j:Nat) (hj:j+1<l.length) (i:Nat):(Il z l j).getD i z=if i=j then l.getD (j+1) z else if i=j+1 then l.getD j z else l.getD i z:=by
 unfold Il
 simp only[List.getD_eq_getElem?_getD,List.getElem?_set,List.length_set]
 by_cases h1:i=j
 ·subst h1;simp[show i<l.length by omega]
 ·have h1':¬ j=i:=fun e=>h1 e.symm
  by_cases h2:i=j+1
  ·subst h2;simp[hj]
  ·have h2':¬ j+1=i:=fun e=>h2 e.symm
   simp[h1,h1',h2,h2']
theorem F1:∀ (j:Nat) (l:List α),j<l.length->(xy z key l j).Perm l
 | 0,l,_=>List.Perm.refl l
 | j+1,l,h=>by
  unfold xy
  split
  ·exact (F1 j _ (by rw[Lh];omega)).trans (Im z l j h)
  ·exact List.Perm.refl l
theorem wU (l:List α):∀ (k:Nat),k<l.length\/k=0->(q5 z key l k).Perm l
 | 0,_=>List.Perm.refl l
 | k+1,h=>by
  have ih:=wU l k (by omega)
  exact (F1 z key (k+1) _ (by rw[ih.length_eq];omega)).trans ih
def Up (l:List α) (k j:Nat):Prop:=∀ a b,a<b->b<=k->b≠j->key (l.getD a z)<=key (l.getD b z)
theorem NR {k:Nat}:∀ (j:Nat) (l:List α),j<=k->k<l.length->Up z key l k j->∀ a b,a<b->b<=k->key ((xy z key l j).getD a z)<=key ((xy z key l j).getD b z)
 | 0,l,_,_,h=>fun a b h1 h2=>h a b h1 h2 (by omega)
 | j+1,l,hj,hk,h=>by
  unfold xy
  split
  ·rename_i hlt
   refine NR j _ (by omega) (by rw[Lh];exact hk) ?_
   intro a b h1 h2 h3
   rw[Lg z l j (by omega),Lg z l j (by omega),if_neg h3]
   by_cases e1:a=j
   ·rw[if_pos e1]
    by_cases e2:b=j+1
    ·rw[if_pos e2];omega
    ·rw[if_neg e2];exact h (j+1) b (by omega) h2 e2
   ·rw[if_neg e1]
    by_cases e3:a=j+1
    ·rw[if_pos e3,if_neg (by omega)]
     exact h j b (by omega) h2 (by omega)
    ·rw[if_neg e3]
     by_cases e2:b=j+1
     ·rw[if_pos e2];exact h a j (by omega) (by omega) (by omega)
     ·rw[if_neg e2];exact h a b h1 h2 e2
  ·rename_i hge
   intro a b h1 h2
   by_cases e:b=j+1
   ·subst e
    by_cases ea:a=j
    ·subst ea;omega
    ·have:=h a j (by omega) (by omega) (by omega)
     omega
   ·exact h a b h1 h2 e
theorem Qo (l:List α):∀ (k:Nat),k<l.length->∀ a b,a<b->b<=k->key ((q5 z key l k).getD a z)<=key ((q5 z key l k).getD b z)
 | 0,_=>fun a b h1 h2=>by omega
 | k+1,h=>by
  have ih:=Qo l k (by omega)
  refine NR z key (k+1) (q5 z key l k) (Nat.le_refl _) (by rw[(wU z key l k (by omega)).length_eq];exact h) ?_
  intro a b h1 h2 h3
  exact ih a b h1 (by omega)
def Bt (l:List α):List α:=q5 z key l (l.length-1)
theorem yU (l:List α):(Bt z key l).Perm l:=wU z key l _ (by omega)
theorem Xh (l:List α):((Bt z key l).map key).Pairwise (· <= ·):=by
 rw[List.pairwise_iff_getElem]
 intro i j hi hj hij
 have hl:=(yU z key l).length_eq
 simp only[List.length_map] at hi hj
 have:=Qo z key l (l.length-1) (by omega) i j hij (by omega)
 simp only[List.getElem_map]
 have e:∀ (m:Nat) (hm:m<(Bt z key l).length),(Bt z key l)[m]=(q5 z key l (l.length-1)).getD m z:=by
  intro m hm
  rw[List.getD_eq_getElem?_getD,<- Bt,List.getElem?_eq_getElem hm];rfl
 rw[e,e];exact this
end
def dm (x:Int):Bool:=decide (1<=x)&&decide (x<=9)
def o9 (q:Option Int):List Int->Int
 | []=>0
 | x::l=>if dm x=false then 34 else if q=some x then 33 else o9 (some x) l
def kd (v:Int):Int:=if dm v=false then 34 else 33
def FN (l:List Int) (v:Int):Prop:=v∈l/\(dm v=false\/2<=l.count v)
def tm (l:List Int) (e:Int):Prop:=(e=0/\∀ v,¬ FN l v)\/∃ v,FN l v/\(∀ u,FN l u->v<=u)/\e=kd v
theorem acq (v:Int):kd v≠0:=by unfold kd;split<;>decide
theorem tm.same {l:List Int} {e f:Int} (h:tm l e) (k:tm l f):e=f:=by
 rcases h with ⟨h1,h2⟩|⟨v,h1,h2,h3⟩<;>rcases k with ⟨k1,k2⟩|⟨u,k1,k2,k3⟩
 ·rw[h1,k1]
 ·exact absurd k1 (h2 u)
 ·exact absurd h1 (k2 v)
 ·have:=h2 u k1
  have:=k2 v h1
  rw[h3,k3,show v=u by omega]
theorem tm.perm {l m:List Int} {e:Int} (p:l.Perm m) (h:tm l e):tm m e:=by
 have hb:∀ v,FN l v↔FN m v:=fun v=>by unfold FN;rw[p.mem_iff,p.count_eq]
 rcases h with ⟨h1,h2⟩|⟨v,h1,h2,h3⟩
 ·exact .inl ⟨h1,fun v hv=>h2 v ((hb v).2 hv)⟩
 ·exact .inr ⟨v,(hb v).1 h1,fun u hu=>h2 u ((hb u).2 hu),h3⟩
theorem K1:∀ (t p:List Int),(∀ x∈p,dm x=true)->p.Nodup->(p++t).Pairwise (· <= ·)->tm (p++t) (o9 p.getLast? t)
 | [],p,hm,hd,_=>by
  rw[List.append_nil]
  refine .inl ⟨rfl,fun v ⟨hv,hb⟩=>?_⟩
  rcases hb with hb|hb
  ·rw[hm v hv] at hb;cases hb
  ·have:=List.nodup_iff_count.1 hd v
   omega
 | x::t,p,hm,hd,hs=>by
  have hin:∀ u,FN (p++x::t) u->x<=u:=by
   intro u ⟨hu,hb⟩
   obtain⟨s1,s2,s3⟩:=List.pairwise_append.1 hs
   have hxt:∀ u∈x::t,x<=u:=by
    intro u hu
    rcases List.mem_cons.1 hu with rfl|hu
    ·exact Int.le_refl _
    ·exact List.rel_of_pairwise_cons s2 hu
   rcases List.mem_append.1 hu with hp|ht
   ·rcases hb with hb|hb
    ·rw[hm u hp] at hb;cases hb
    ·rw[List.count_append] at hb
     have h1:=List.nodup_iff_count.1 hd u
     exact hxt u (List.count_pos_iff.1 (by omega))
   ·exact hxt u ht
  have hxm:x∈p++x::t:=by simp
  unfold o9
  by_cases h1:dm x=false
  ·rw[if_pos h1]
   exact .inr ⟨x,⟨hxm,.inl h1⟩,hin,by rw[kd,if_pos h1]⟩
  ·rw[if_neg h1]
   by_cases h2:p.getLast?=some x
   ·rw[if_pos h2]
    have hxp:x∈p:=List.mem_of_getLast? h2
    refine .inr ⟨x,⟨hxm,.inr ?_⟩,hin,by rw[kd,if_neg h1]⟩
    rw[List.count_append]
    have e1:1<=p.count x:=List.count_pos_iff.2 hxp
    have e2:1<=(x::t).count x:=List.count_pos_iff.2 (by simp)
    omega
   ·rw[if_neg h2]
    have hx:x∉p:=by
     intro hx
     obtain⟨s1,s2,s3⟩:=List.pairwise_append.1 hs
     obtain⟨r,y,e⟩:∃ r y,p=r++[y]:=by
      rcases List.eq_nil_or_concat p with e|⟨r,y,e⟩
      ·rw[e] at hx;cases hx
      ·exact⟨r,y,by simpa using e⟩
     rw[e,List.getLast?_append] at h2
     have hy:y≠x:=by simpa using h2
     have hyx:y<=x:=s3 y (by rw[e];simp) x (by simp)
     rw[e] at hx s1
     rcases List.mem_append.1 hx with hr|hr
     ·have:=(List.pairwise_append.1 s1).2.2 x hr y (by simp)
      omega
     ·have hr:x=y:=by simpa using hr
      exact hy hr.symm
    have e:p++x::t=(p++[x])++t:=by simp
    have ih:=K1 t (p++[x]) (by
     intro y hy
     rcases List.mem_append.1 hy with hy|hy
     ·exact hm y hy
     ·have:y=x:=by simpa using hy
      subst this;simpa using h1) (by
     rw[List.nodup_append]
     refine⟨hd,by simp,fun a ha b hb=>?_⟩
     have:b=x:=by simpa using hb
     subst this
     exact fun e=>hx (e▸ha)) (by rw[<- e];exact hs)
    rw[e]
    simpa using ih
theorem aaP {l:List Int} (hs:l.Pairwise (· <= ·)):tm l (o9 none l):=by
 have:=K1 l [] (by simp) List.nodup_nil (by simpa using hs)
 simpa using this
def wr (xs:List Int) (i:Nat):Int:=if dm (xs.getD i 0)=false then 34 else if xs.getD i 0∈xs.take i then 33 else 0
def NF (xs:List Int) (k:Nat) (low e:Int):Prop:=(e=0/\∀ i,i<k->wr xs i=0)\/∃ i,i<k/\wr xs i=e/\e≠0/\xs.getD i 0=low/\∀ j,j<k->wr xs j≠0->low<=xs.getD j 0
theorem NF.nil (xs:List Int) (low:Int):NF xs 0 low 0:=.inl ⟨rfl,fun _ h=>absurd h (by omega)⟩
theorem NF.take {xs:List Int} {k:Nat} {low e:Int} (h:NF xs k low e) (hw:wr xs k≠0) (hk:e=0\/xs.getD k 0<low):NF xs (k+1) (xs.getD k 0) (wr xs k):=by
 refine .inr ⟨k,by omega,rfl,hw,rfl,fun j hj hj2=>?_⟩
 by_cases e1:j=k
 ·rw[e1];exact Int.le_refl _
 ·rcases h with ⟨h1,h2⟩|⟨i,h1,h2,h3,h4,h5⟩
  ·exact absurd (h2 j (by omega)) hj2
  ·have:=h5 j (by omega) hj2
   rcases hk with hk|hk
   ·exact absurd hk h3
   ·omega
end Go.Proofs.YtbeeaekepmnfhaaGreatDoor.part
namespace Go.Proofs.YtbeeaekepmnfhaaGreatDoor.part
noncomputable section
open Go Go.Eng Go.RowKit Cr
abbrev iK:Kd:=.int .i64
abbrev bo:Kd:=.pair .fp .fp
abbrev ba:Kd:=.pair (.pair .fp .fp) (.pair .fp .fp)
abbrev bp:Kd:=.pair iK ba
abbrev PT:=Int × (Fp × Fp) × (Fp × Fp)
theorem Vo:enters Tryz.prog 91 Tryz.f91:=ek
theorem YP:aB Tryz.prog 91 [iK] [.val .bool] aM (fun _=>True) (fun _=>(false,())):=by
 refine ax (sp:=aF []) aR mixed Vo (by decide) (by decide) ?_
 rintro w M0 ⟨a,⟨⟩⟩
 revert a
 intro (a:Int) _ _
 refine ao (X:=((a != a,())=(false,()))) (by kernel_rfl) ?_
 simp
def ac8:Nat × Eng.Spec:=(91,ar [iK] [.val .bool] (fun _=>True) (fun _=>(false,())))
def kI (a b:Int):Int:=if a<b then -1 else if a>b then 1 else 0
theorem Vc (a b:Int):decide (kI a b<0)=decide (a<b):=by
 unfold kI
 split
 ·simp[*]
 ·split<;>simp[*]
theorem IS:enters Tryz.prog 51 Tryz.f51:=ek
theorem Me:aB Tryz.prog 51 [iK,iK] [.val iK] aM (fun _=>True) (fun (a,b,_)=>(kI a b,())):=by
 refine ax (sp:=aF [ac8]) (ai (ak YP) aR) mixed IS (by decide) (by decide) ?_
 rintro w M0 ⟨a,b,⟨⟩⟩
 revert a b
 intro (a:Int) (b:Int) _ _
 refine ao (X:=(True/\True/\(false=true->(false=true->(0,())=(kI a b,()))/\(false=false->((-1:Int),())=(kI a b,())))/\(false=false->(false=true->(1,())=(kI a b,()))/\(false=false->(decide (a<b)=true->((-1:Int),())=(kI a b,()))/\(decide (a<b)=false->(decide (a>b)=true->(1,())=(kI a b,()))/\(decide (a>b)=false->(0,())=(kI a b,()))))))) (by kernel_rfl) ?_
 have no:∀ {P:Prop},false=true->P:=fun h=>by cases h
 refine⟨trivial,trivial,no,fun _=>⟨no,fun _=>⟨fun h=>?_,fun h=>⟨fun h2=>?_,fun h2=>?_⟩⟩⟩⟩
 ·rw[kI,if_pos (Odt h)]
 ·rw[kI,if_neg (Odf h),if_pos (Odt h2)]
 ·rw[kI,if_neg (Odf h),if_neg (Odf h2)]
def Qc:Nat × Eng.Spec:=(51,ar [iK,iK] [.val iK] (fun _=>True) (fun (a,b,_)=>(kI a b,())))
theorem Ri:enters Tryz.prog 50 Tryz.f50:=ek
theorem VM:aB Tryz.prog 50 [bp,bp] [.val iK] aM (fun _=>True) (fun (a,b,_)=>(kI a.1 b.1,())):=by
 refine ax (sp:=aF [Qc]) (ai (ak Me) aR) mixed Ri (by decide) (by decide) ?_
 rintro w M0 ⟨a,b,⟨⟩⟩
 revert a b
 intro (a:PT) (b:PT) _ _
 refine ao (X:=(True/\(kI a.fst b.fst,())=(kI a.fst b.fst,()))) (by kernel_rfl) ?_
 exact⟨trivial,rfl⟩
def Qf:Nat × Eng.Spec:=(50,ar [bp,bp] [.val iK] (fun _=>True) (fun (a,b,_)=>(kI a.1 b.1,())))
theorem L5:enters Tryz.prog 52 Tryz.f52:=ek
theorem Ox:aB Tryz.prog 52 [iK] [.val .bool] aM (fun _=>True) (fun (a,_)=>(dm a,())):=by
 refine ax (sp:=aF []) aR mixed L5 (by decide) (by decide) ?_
 rintro w M0 ⟨a,⟨⟩⟩
 revert a
 intro (a:Int) _ _
 refine ao (X:=((decide (a>=1)=true->(decide (a<=9),())=(dm a,()))/\(decide (a>=1)=false->(false,())=(dm a,())))) (by kernel_rfl) ?_
 refine⟨fun h=>?_,fun h=>?_⟩
 ·have e:decide (1<=a)=true:=h
  rw[dm,e,Bool.true_and]
 ·have e:decide (1<=a)=false:=h
  rw[dm,e,Bool.false_and]
def Ia:Nat × Eng.Spec:=(52,ar [iK] [.val .bool] (fun _=>True) (fun (a,_)=>(dm a,())))
end
end Go.Proofs.YtbeeaekepmnfhaaGreatDoor.part
open Go.IntKind(i64)
namespace Go.Proofs.YtbeeaekepmnfhaaGreatDoor.part
noncomputable section
open Go Go.Eng Go.RowKit Cr
abbrev zP:PT:=(0,(0,0),(0,0))
abbrev ck:PT->Int:=fun p=>p.1
abbrev o8:Kd:=.fn 50
def Ty:SV:=.is (.one (.v (.func (.func 50) ⟨[]⟩ ⟨[]⟩)))
theorem JR:enters Tryz.prog 129 Tryz.f129:=ek
def Cf (n:Nat) (g:Int × List PT):St:=aY Tryz.f129.ntmps 25 [(0,.is (.one (.sl 0 0 0 n 25))),(1,sI .i64 0),(2,sI .i64 n),(3,Ty),(8,sI .i64 g.1)] [(0,[.row bp n g.2])]
def Mq (n:Nat) (i:Int) (g:Int × List PT):St:=aY Tryz.f129.ntmps 41 [(0,.is (.one (.sl 0 0 0 n 25))),(1,sI .i64 0),(2,sI .i64 n),(3,Ty),(8,sI .i64 i),(9,sI .i64 g.1)] [(0,[.row bp n g.2])]
def isO (n:Nat) (ys:List PT):St:=aY Tryz.f129.ntmps 25 [] [(0,[.row bp n ys])]
abbrev Hx:List PT × HL [iK,iK,o8]->Prop:=fun (xs,a,b,_)=>(a:Int)=0/\(b:Int)=(List.length xs:Int)/\List.length xs<=12
def eO (xs:List PT):List PT:=Bt zP ck xs
def isJ (xs:List PT) (g:Int × List PT):Prop:=∃ k:Nat,k+1<=xs.length/\g.1=(k:Int)+1/\g.2=q5 zP ck xs k
def ZB (n:Nat) (tg:List PT) (m:Nat) (g:Int × List PT):Prop:=∃ t:Nat,t<=m/\g.1=(t:Int)/\g.2.length=n/\xy zP ck g.2 t=tg
theorem YN:BG Tryz.prog 129 bp [iK,iK,o8] [] aM Hx (fun (xs,_)=>(eO xs,())):=by
 have hsp:aN Tryz.prog (aF [Qf]):=ai (ak VM) aR
 refine x6 (sp:=aF [Qf]) JR (by decide) (by decide) (by kernel_rfl) ?_
 rintro w M0 b0 xs ⟨a,b,q,⟨⟩⟩
 revert xs a b q
 intro (xs:List PT) (a:Int) (b:Int) (q:Unit) hx0 hx hw hp
 obtain⟨ha,hb,hl⟩:=hp
 have ha:a=0:=ha
 have hb:b=(xs.length:Int):=hb
 have hl:xs.length<=12:=hl
 have hx0:0<xs.length:=hx0
 subst ha hb
 show Tr _ _ _ _ _ _ _
 refine aP hsp mixed 1 (Cf xs.length (1,xs)) True ?_ (fun _=>?_)
 ·refine ao (X:=((Cf xs.length (1,xs)).ah True)) (by kernel_rfl) ?_
  exact aA trivial
 refine fh dA (fun σ=>(bU iK 8 σ,cN bp 0 σ)) (Cf xs.length) (isJ xs) (fun g=>xs.length-g.1.toNat)
  (fun σ=>cN bp 0 σ) (isO xs.length) (fun ys=>ys=eO xs) (1,xs) (c:=aI (aJ Tryz.f129) 1) (by kernel_rfl) (by kernel_rfl) (aC (by kernel_rfl) (by kernel_rfl) ?_) ?_ ?_
 ·exact⟨0,hx0,rfl,rfl⟩
 ·rintro⟨i,ys⟩ hj
  revert i ys
  intro (i:Int) (ys:List PT) ⟨k,hk,ei,ey⟩
  have ei:i=(k:Int)+1:=ei
  subst ei
  have ey:ys=q5 zP ck xs k:=ey
  have hyl:ys.length=xs.length:=by rw[ey];exact (wU zP ck xs k (by omega)).length_eq
  refine aP hsp mixed 2 (Cf xs.length ((k:Int)+1,ys)) (k+1<xs.length) ?_ (fun hlt=>?_)
  ·refine ao (X:=((decide ((k:Int)+1<(xs.length:Int))=true->(Cf xs.length ((k:Int)+1,ys)).ah (k+1<xs.length))/\(decide ((k:Int)+1<(xs.length:Int))=false->(isO xs.length ys).ah (ys=eO xs)))) (by kernel_rfl) ?_
   refine⟨fun h=>aA (by have:=Odt h;omega),fun h=>aA ?_⟩
   have e:xs.length-1=k:=by have:=Odf h;omega
   rw[ey,eO,Bt,e]
  refine eG (c:=aI (bQ (aI (aJ Tryz.f129) 1)) 2) (by kernel_rfl) (by kernel_rfl) ?_
  refine aP hsp mixed 1 (Mq xs.length ((k:Int)+1) ((k:Int)+1,ys)) True ?_ (fun _=>?_)
  ·refine ao (X:=((Mq xs.length ((k:Int)+1) ((k:Int)+1,ys)).ah True)) (by kernel_rfl) ?_
   exact aA trivial
  refine bO hsp mixed dA (fun σ=>(bU iK 9 σ,cN bp 0 σ)) (Mq xs.length ((k:Int)+1)) (ZB xs.length (q5 zP ck xs (k+1)) (k+1)) (fun g=>g.1.toNat)
   (fun σ=>cN bp 0 σ) (fun zs=>Cf xs.length ((k:Int)+1,zs)) (fun zs=>zs=q5 zP ck xs (k+1)) ((k:Int)+1,ys) (c:=aI (fz (aI (bQ (aI (aJ Tryz.f129) 1)) 2)) 1) (by kernel_rfl) (by kernel_rfl) (aC (by kernel_rfl) (by kernel_rfl) ?_) ?_ ?_
  ·exact⟨k+1,Nat.le_refl _,rfl,hyl,by rw[ey];rfl⟩
  ·rintro⟨j,zs⟩ hj
   revert j zs
   intro (j:Int) (zs:List PT) ⟨t,ht,ej,el,ez⟩
   have ej:j=(t:Int):=ej
   subst ej
   have el:zs.length=xs.length:=el
   have ez:xy zP ck zs t=q5 zP ck xs (k+1):=ez
   refine ao (X:=((decide ((t:Int)>0)=true->(0<=(t:Int)/\(t:Int)<(xs.length:Int))/\(t:Int).toNat<xs.length/\(0<=i64.wrap ((t:Int)-1)/\i64.wrap ((t:Int)-1)<(xs.length:Int))/\(i64.wrap ((t:Int)-1)).toNat<xs.length/\True/\(decide (kI (zs.getD (t:Int).toNat (0,((0:Fp),(0:Fp)),(0:Fp),(0:Fp))).fst (zs.getD (i64.wrap ((t:Int)-1)).toNat (0,((0:Fp),(0:Fp)),(0:Fp),(0:Fp))).fst<0)=true->(0<=i64.wrap ((t:Int)-1)/\i64.wrap ((t:Int)-1)<(xs.length:Int))/\(i64.wrap ((t:Int)-1)).toNat<xs.length/\(0<=(t:Int)/\(t:Int)<(xs.length:Int))/\(t:Int).toNat<xs.length/\(0<=(t:Int)/\(t:Int)<(xs.length:Int))/\(t:Int).toNat<xs.length/\(0<=i64.wrap ((t:Int)-1)/\i64.wrap ((t:Int)-1)<(xs.length:Int))/\(i64.wrap ((t:Int)-1)).toNat<xs.length/\(Mq xs.length ((k:Int)+1) (i64.wrap ((t:Int)-1),(zs.set (t:Int).toNat (zs.getD (i64.wrap ((t:Int)-1)).toNat (0,((0:Fp),(0:Fp)),(0:Fp),(0:Fp)))).set (i64.wrap ((t:Int)-1)).toNat (zs.getD (t:Int).toNat (0,((0:Fp),(0:Fp)),(0:Fp),(0:Fp))))).ah (ZB xs.length (q5 zP ck xs (k+1)) (k+1) (i64.wrap ((t:Int)-1),(zs.set (t:Int).toNat (zs.getD (i64.wrap ((t:Int)-1)).toNat (0,((0:Fp),(0:Fp)),(0:Fp),(0:Fp)))).set (i64.wrap ((t:Int)-1)).toNat (zs.getD (t:Int).toNat (0,((0:Fp),(0:Fp)),(0:Fp),(0:Fp))))/\(i64.wrap ((t:Int)-1)).toNat<(t:Int).toNat))/\(decide (kI (zs.getD (t:Int).toNat (0,((0:Fp),(0:Fp)),(0:Fp),(0:Fp))).fst (zs.getD (i64.wrap ((t:Int)-1)).toNat (0,((0:Fp),(0:Fp)),(0:Fp),(0:Fp))).fst<0)=false->(Cf xs.length ((k:Int)+1,zs)).ah (zs=q5 zP ck xs (k+1))))/\(decide ((t:Int)>0)=false->(Cf xs.length ((k:Int)+1,zs)).ah (zs=q5 zP ck xs (k+1))))) (by kernel_rfl) ?_
   have eb:∀ u,xy zP ck zs (u+1)=if ck (zs.getD (u+1) zP)<ck (zs.getD u zP) then xy zP ck (Il zP zs u) u else zs:=fun u=>rfl
   refine⟨fun h=>?_,fun h=>aA ?_⟩
   ·obtain⟨u,rfl⟩:∃ u,t=u+1:=⟨t-1,by have:=Odt h;omega⟩
    rw[eb] at ez
    have e1:i64.wrap (((u+1:Nat):Int)-1)=(u:Int):=by rw[aG (by omega) (by omega)];omega
    rw[e1,Int.toNat_natCast,Int.toNat_natCast,Vc]
    refine⟨⟨by omega,by omega⟩,by omega,⟨by omega,by omega⟩,by omega,trivial,fun hc=>⟨⟨by omega,by omega⟩,by omega,⟨by omega,by omega⟩,by omega,⟨by omega,by omega⟩,by omega,⟨by omega,by omega⟩,by omega,aA ⟨⟨u,by omega,rfl,?_,?_⟩,by omega⟩⟩,fun hc=>aA ?_⟩
    ·show List.length _=_
     rw[List.length_set,List.length_set,el]
    ·rw[if_pos (Odt hc)] at ez
     exact ez
    ·rw[if_neg (Odf hc)] at ez
     exact ez
   ·have:t=0:=by have:=Odf h;omega
    subst this
    exact ez
  intro (zs:List PT) (ez:zs=q5 zP ck xs (k+1))
  refine ig ?_
  refine bf hsp mixed _ _ ?_
  refine ao (X:=((Cf xs.length (i64.wrap ((k:Int)+(1:Int)+1),zs)).ah (isJ xs (i64.wrap ((k:Int)+(1:Int)+1),zs)/\xs.length-(i64.wrap ((k:Int)+(1:Int)+1)).toNat<xs.length-((k:Int)+1).toNat))) (by kernel_rfl) ?_
  rw[aG (by omega) (by omega)]
  exact aA ⟨⟨k+1,by omega,by show _=((k+1:Nat):Int)+1;omega,ez⟩,by omega⟩
 intro (ys:List PT) (ey:ys=eO xs)
 refine bf hsp mixed _ _ ?_
 refine ao (X:=(xs.length=xs.length/\(ys,())=(eO xs,()))) (by kernel_rfl) ?_
 exact⟨rfl,by rw[ey]⟩
end
end Go.Proofs.YtbeeaekepmnfhaaGreatDoor.part
open Go.IntKind(i64 u64 u8)
namespace Go.Proofs.YtbeeaekepmnfhaaGreatDoor.part
noncomputable section
open Go Go.Eng Go.RowKit Cr
def Jv:ByteArray:=(ByteArray.mk ((([(0:UInt8),(1:UInt8),(2:UInt8),(2:UInt8),(3:UInt8),(3:UInt8),(3:UInt8),(3:UInt8),(4:UInt8),(4:UInt8),(4:UInt8),(4:UInt8),(4:UInt8),(4:UInt8),(4:UInt8),(4:UInt8),(5:UInt8),(5:UInt8),(5:UInt8),(5:UInt8),(5:UInt8),(5:UInt8),(5:UInt8),(5:UInt8),(5:UInt8),(5:UInt8),(5:UInt8),(5:UInt8),(5:UInt8),(5:UInt8),(5:UInt8),(5:UInt8),(6:UInt8),(6:UInt8),(6:UInt8),(6:UInt8),(6:UInt8),(6:UInt8),(6:UInt8),(6:UInt8),(6:UInt8),(6:UInt8),(6:UInt8),(6:UInt8),(6:UInt8),(6:UInt8),(6:UInt8),(6:UInt8),(6:UInt8),(6:UInt8),(6:UInt8),(6:UInt8),(6:UInt8),(6:UInt8),(6:UInt8),(6:UInt8),(6:UInt8),(6:UInt8),(6:UInt8),(6:UInt8),(6:UInt8),(6:UInt8),(6:UInt8),(6:UInt8)].append [(7:UInt8),(7:UInt8),(7:UInt8),(7:UInt8),(7:UInt8),(7:UInt8),(7:UInt8),(7:UInt8),(7:UInt8),(7:UInt8),(7:UInt8),(7:UInt8),(7:UInt8),(7:UInt8),(7:UInt8),(7:UInt8),(7:UInt8),(7:UInt8),(7:UInt8),(7:UInt8),(7:UInt8),(7:UInt8),(7:UInt8),(7:UInt8),(7:UInt8),(7:UInt8),(7:UInt8),(7:UInt8),(7:UInt8),(7:UInt8),(7:UInt8),(7:UInt8),(7:UInt8),(7:UInt8),(7:UInt8),(7:UInt8),(7:UInt8),(7:UInt8),(7:UInt8),(7:UInt8),(7:UInt8),(7:UInt8),(7:UInt8),(7:UInt8),(7:UInt8),(7:UInt8),(7:UInt8),(7:UInt8),(7:UInt8),(7:UInt8),(7:UInt8),(7:UInt8),(7:UInt8),(7:UInt8),(7:UInt8),(7:UInt8),(7:UInt8),(7:UInt8),(7:UInt8),(7:UInt8),(7:UInt8),(7:UInt8),(7:UInt8),(7:UInt8)]).append ([(8:UInt8),(8:UInt8),(8:UInt8),(8:UInt8),(8:UInt8),(8:UInt8),(8:UInt8),(8:UInt8),(8:UInt8),(8:UInt8),(8:UInt8),(8:UInt8),(8:UInt8),(8:UInt8),(8:UInt8),(8:UInt8),(8:UInt8),(8:UInt8),(8:UInt8),(8:UInt8),(8:UInt8),(8:UInt8),(8:UInt8),(8:UInt8),(8:UInt8),(8:UInt8),(8:UInt8),(8:UInt8),(8:UInt8),(8:UInt8),(8:UInt8),(8:UInt8),(8:UInt8),(8:UInt8),(8:UInt8),(8:UInt8),(8:UInt8),(8:UInt8),(8:UInt8),(8:UInt8),(8:UInt8),(8:UInt8),(8:UInt8),(8:UInt8),(8:UInt8),(8:UInt8),(8:UInt8),(8:UInt8),(8:UInt8),(8:UInt8),(8:UInt8),(8:UInt8),(8:UInt8),(8:UInt8),(8:UInt8),(8:UInt8),(8:UInt8),(8:UInt8),(8:UInt8),(8:UInt8),(8:UInt8),(8:UInt8),(8:UInt8),(8:UInt8)].append [(8:UInt8),(8:UInt8),(8:UInt8),(8:UInt8),(8:UInt8),(8:UInt8),(8:UInt8),(8:UInt8),(8:UInt8),(8:UInt8),(8:UInt8),(8:UInt8),(8:UInt8),(8:UInt8),(8:UInt8),(8:UInt8),(8:UInt8),(8:UInt8),(8:UInt8),(8:UInt8),(8:UInt8),(8:UInt8),(8:UInt8),(8:UInt8),(8:UInt8),(8:UInt8),(8:UInt8),(8:UInt8),(8:UInt8),(8:UInt8),(8:UInt8),(8:UInt8),(8:UInt8),(8:UInt8),(8:UInt8),(8:UInt8),(8:UInt8),(8:UInt8),(8:UInt8),(8:UInt8),(8:UInt8),(8:UInt8),(8:UInt8),(8:UInt8),(8:UInt8),(8:UInt8),(8:UInt8),(8:UInt8),(8:UInt8),(8:UInt8),(8:UInt8),(8:UInt8),(8:UInt8),(8:UInt8),(8:UInt8),(8:UInt8),(8:UInt8),(8:UInt8),(8:UInt8),(8:UInt8),(8:UInt8),(8:UInt8),(8:UInt8),(8:UInt8)])).toArray ))
def wa (n:Int):Int:=[0,1,2,2,3,3,3,3,4,4,4,4,4].getD n.toNat 0
theorem xM:enters Tryz.prog 138 Tryz.f138:=ek
theorem AY:aB Tryz.prog 138 [.int .u64] [.val iK] aM (fun (n,_)=>0<=(n:Int)/\(n:Int)<=12) (fun (n,_)=>(wa n,())):=by
 have hsp:aN Tryz.prog (aF []):=aR
 refine bh (sp:=aF []) xM (by decide) (by decide) (by kernel_rfl) ?_
 rintro w M0 ⟨n,⟨⟩⟩
 revert n
 intro (n:Int) _ ⟨h0,h1⟩
 have h0:0<=n:=h0
 have h1:n<=12:=h1
 show Tr _ _ _ _ _ _ _
 refine eB hsp mixed 7 (fun σ=>(bU (.int .u64) 0 σ,bU iK 2 σ)) (fun g=>aY Tryz.f138.ntmps 56 [(0,sI .u64 g.1),(2,sI .i64 g.2)] []) (fun g=>g=(n,0)) ?_ ?_
 ·refine ao (X:=((decide (n>=4294967296)=true->(0:Int)<=32/\(decide (n.fdiv (2^min 32 u64.bits)>=65536)=true->(0:Int)<=16/\(decide ((n.fdiv (2^min 32 u64.bits)).fdiv (2^min 16 u64.bits)>=256)=true->(0:Int)<=8/\(aY Tryz.f138.ntmps 56 [(0,sI u64 (((n.fdiv (2^min 32 u64.bits)).fdiv (2^min 16 u64.bits)).fdiv (2^min 8 u64.bits),i64.wrap (i64.wrap ((32:Int)+16)+8)).fst),(2,sI i64 (((n.fdiv (2^min 32 u64.bits)).fdiv (2^min 16 u64.bits)).fdiv (2^min 8 u64.bits),i64.wrap (i64.wrap ((32:Int)+16)+8)).snd)] []).ah ((((n.fdiv (2^min 32 u64.bits)).fdiv (2^min 16 u64.bits)).fdiv (2^min 8 u64.bits),i64.wrap (i64.wrap ((32:Int)+16)+8))=(n,(0:au iK))))/\(decide ((n.fdiv (2^min 32 u64.bits)).fdiv (2^min 16 u64.bits)>=256)=false->(aY Tryz.f138.ntmps 56 [(0,sI u64 ((n.fdiv (2^min 32 u64.bits)).fdiv (2^min 16 u64.bits),i64.wrap ((32:Int)+16)).fst),(2,sI i64 ((n.fdiv (2^min 32 u64.bits)).fdiv (2^min 16 u64.bits),i64.wrap ((32:Int)+16)).snd)] []).ah (((n.fdiv (2^min 32 u64.bits)).fdiv (2^min 16 u64.bits),i64.wrap ((32:Int)+16))=(n,(0:au iK)))))/\(decide (n.fdiv (2^min 32 u64.bits)>=65536)=false->(decide (n.fdiv (2^min 32 u64.bits)>=256)=true->(0:Int)<=8/\(aY Tryz.f138.ntmps 56 [(0,sI u64 ((n.fdiv (2^min 32 u64.bits)).fdiv (2^min 8 u64.bits),i64.wrap ((32:Int)+8)).fst),(2,sI i64 ((n.fdiv (2^min 32 u64.bits)).fdiv (2^min 8 u64.bits),i64.wrap ((32:Int)+8)).snd)] []).ah (((n.fdiv (2^min 32 u64.bits)).fdiv (2^min 8 u64.bits),i64.wrap ((32:Int)+8))=(n,(0:au iK))))/\(decide (n.fdiv (2^min 32 u64.bits)>=256)=false->(aY Tryz.f138.ntmps 56 [(0,sI u64 (n.fdiv (2^min 32 u64.bits),32).fst),(2,sI i64 (n.fdiv (2^min 32 u64.bits),32).snd)] []).ah ((n.fdiv (2^min 32 u64.bits),32)=(n,(0:au iK))))))/\(decide (n>=4294967296)=false->(decide (n>=65536)=true->(0:Int)<=16/\(decide (n.fdiv (2^min 16 u64.bits)>=256)=true->(0:Int)<=8/\(aY Tryz.f138.ntmps 56 [(0,sI u64 ((n.fdiv (2^min 16 u64.bits)).fdiv (2^min 8 u64.bits),i64.wrap (i64.wrap ((0:Int)+16)+8)).fst),(2,sI i64 ((n.fdiv (2^min 16 u64.bits)).fdiv (2^min 8 u64.bits),i64.wrap (i64.wrap ((0:Int)+16)+8)).snd)] []).ah (((n.fdiv (2^min 16 u64.bits)).fdiv (2^min 8 u64.bits),i64.wrap (i64.wrap ((0:Int)+16)+8))=(n,(0:au iK))))/\(decide (n.fdiv (2^min 16 u64.bits)>=256)=false->(aY Tryz.f138.ntmps 56 [(0,sI u64 (n.fdiv (2^min 16 u64.bits),i64.wrap ((0:Int)+16)).fst),(2,sI i64 (n.fdiv (2^min 16 u64.bits),i64.wrap ((0:Int)+16)).snd)] []).ah ((n.fdiv (2^min 16 u64.bits),i64.wrap ((0:Int)+16))=(n,(0:au iK)))))/\(decide (n>=65536)=false->(decide (n>=256)=true->(0:Int)<=8/\(aY Tryz.f138.ntmps 56 [(0,sI u64 (n.fdiv (2^min 8 u64.bits),i64.wrap ((0:Int)+8)).fst),(2,sI i64 (n.fdiv (2^min 8 u64.bits),i64.wrap ((0:Int)+8)).snd)] []).ah ((n.fdiv (2^min 8 u64.bits),i64.wrap ((0:Int)+8))=(n,(0:au iK))))/\(decide (n>=256)=false->(aY Tryz.f138.ntmps 56 [(0,sI u64 (n,0).fst),(2,sI i64 (n,0).snd)] []).ah ((n,0)=(n,(0:au iK)))))))) (by kernel_rfl) ?_
  have no:∀ {m:Int} {P:Prop},13<=m->decide (n>=m)=true->P:=fun hm h=>by have:=Odt h;omega
  exact⟨no (by decide),fun _=>⟨no (by decide),fun _=>⟨no (by decide),fun _=>aA rfl⟩⟩⟩
 rintro g rfl
 refine bf hsp mixed _ _ ?_
 refine ao (X:=((0<=u8.wrap n/\u8.wrap n<(Jv.size:Int))/\(i64.wrap (0+i64.wrap ((dV Jv).getD (u8.wrap n).toNat 0)),())=(wa n,()))) (by kernel_rfl) ?_
 have hc:n=0\/n=1\/n=2\/n=3\/n=4\/n=5\/n=6\/n=7\/n=8\/n=9\/n=10\/n=11\/n=12:=by omega
 rcases hc with rfl|rfl|rfl|rfl|rfl|rfl|rfl|rfl|rfl|rfl|rfl|rfl|rfl<;>exact⟨⟨by decide,by decide⟩,by decide⟩
def vz:Nat × Eng.Spec:=(138,ar [.int .u64] [.val iK] (fun (n,_)=>0<=(n:Int)/\(n:Int)<=12) (fun (n,_)=>(wa n,())))
theorem Vm:enters Tryz.prog 90 Tryz.f90:=ek
theorem Ow:aB Tryz.prog 90 [.int .u64] [.val iK] aM (fun (n,_)=>0<=(n:Int)/\(n:Int)<=12) (fun (n,_)=>(wa n,())):=by
 have hsp:aN Tryz.prog (aF [vz]):=ai (ak AY) aR
 refine bh (sp:=aF [vz]) Vm (by decide) (by decide) (by kernel_rfl) ?_
 rintro w M0 ⟨n,⟨⟩⟩
 revert n
 intro (n:Int) _ ⟨h0,h1⟩
 show Tr _ _ _ _ _ _ _
 refine bf hsp mixed _ _ ?_
 refine ao (X:=((0<=n/\n<=12)/\(wa n,())=(wa n,()))) (by kernel_rfl) ?_
 exact⟨⟨h0,h1⟩,rfl⟩
def FD:Nat × Eng.Spec:=(90,ar [.int .u64] [.val iK] (fun (n,_)=>0<=(n:Int)/\(n:Int)<=12) (fun (n,_)=>(wa n,())))
def Uu:Nat × Eng.Spec:=(129,uZ bp [iK,iK,o8] [] Hx (fun (xs,_)=>(eO xs,())))
theorem JU:enters Tryz.prog 89 Tryz.f89:=ek
abbrev Hz:List PT × HL [iK,iK,iK,o8]->Prop:=fun (xs,a,b,_)=>(a:Int)=0/\(b:Int)=(List.length xs:Int)/\List.length xs<=12
def KP (xs:List PT) (q:Int) (_:Unit):St:=aY Tryz.f89.ntmps 17 [(0,.is (.one (.sl 0 0 0 xs.length 25))),(1,sI .i64 0),(2,sI .i64 xs.length),(3,sI .i64 q),(4,Ty)] [(0,[.row bp xs.length xs])]
theorem YS:BG Tryz.prog 89 bp [iK,iK,iK,o8] [] aM Hz (fun (xs,_)=>(eO xs,())):=by
 have hsp:aN Tryz.prog (aF [Uu]):=ai (vU YN) aR
 refine x6 (sp:=aF [Uu]) JU (by decide) (by decide) (by kernel_rfl) ?_
 rintro w M0 b0 xs ⟨a,b,q,f,⟨⟩⟩
 revert xs a b q f
 intro (xs:List PT) (a:Int) (b:Int) (q:Int) (f:Unit) hx0 hx hw hp
 obtain⟨ha,hb,hl⟩:=hp
 have ha:a=0:=ha
 have hb:b=(xs.length:Int):=hb
 have hl:xs.length<=12:=hl
 have hx0:0<xs.length:=hx0
 subst ha hb
 show Tr _ _ _ _ _ _ _
 refine aP hsp mixed 2 (KP xs q ()) True ?_ (fun _=>?_)
 ·refine ao (X:=((KP xs q ()).ah True)) (by kernel_rfl) ?_
  exact aA trivial
 refine fh dA (fun _=>()) (KP xs q) (fun _=>True) (fun _=>0)
  (fun _=>()) (KP xs q) (fun _=>False) () (c:=aI (aJ Tryz.f89) 2) (by kernel_rfl) (by kernel_rfl) (aC (by kernel_rfl) (by kernel_rfl) ?_) ?_ ?_
 ·trivial
 ·rintro⟨⟩ _
  refine eG (c:=aI (bQ (aI (aJ Tryz.f89) 2)) 0) (by kernel_rfl) (by kernel_rfl) ?_
  refine aP hsp mixed 3 (KP xs q ()) False ?_ (fun h=>h.elim)
  refine ao (X:=((decide (i64.wrap ((xs.length:Int)-0)<=12)=true->xs.length=xs.length/\0<xs.length/\Hx (xs,0,(xs.length:Int),(),())/\xs.length=xs.length/\(eO xs,())=(eO xs,()))/\(decide (i64.wrap ((xs.length:Int)-0)<=12)=false->(KP xs q ()).ah False))) (by kernel_rfl) ?_
  refine⟨fun _=>⟨rfl,hx0,⟨rfl,rfl,hl⟩,rfl,rfl⟩,fun h=>?_⟩
  rw[aG (by omega) (by omega)] at h
  have:=Odf h
  omega
 ·rintro _ h
  exact absurd h id
def Ux:Nat × Eng.Spec:=(89,uZ bp [iK,iK,iK,o8] [] Hz (fun (xs,_)=>(eO xs,())))
theorem Gh:enters Tryz.prog 49 Tryz.f49:=ek
abbrev D2:List PT × HL [o8]->Prop:=fun (xs,_)=>List.length xs<=12
theorem VV:BG Tryz.prog 49 bp [o8] [] aM D2 (fun (xs,_)=>(eO xs,())):=by
 have hsp:aN Tryz.prog (aF [FD,Ux]):=ai (ak Ow) (ai (vU YS) aR)
 refine x6 (sp:=aF [FD,Ux]) Gh (by decide) (by decide) (by kernel_rfl) ?_
 rintro w M0 b0 xs ⟨f,⟨⟩⟩
 revert xs f
 intro (xs:List PT) (f:Unit) hx0 hx hw hl
 have hl:xs.length<=12:=hl
 have hx0:0<xs.length:=hx0
 show Tr _ _ _ _ _ _ _
 refine bf hsp mixed _ _ ?_
 refine ao (X:=((0<=u64.wrap (xs.length:Int)/\u64.wrap (xs.length:Int)<=12)/\xs.length=xs.length/\0<xs.length/\Hz (xs,0,(xs.length:Int),wa (u64.wrap (xs.length:Int)),(),())/\xs.length=xs.length/\(eO xs,())=(eO xs,()))) (by kernel_rfl) ?_
 have e:u64.wrap (xs.length:Int)=(xs.length:Int):=iZ (by omega) (by omega)
 rw[e]
 exact⟨⟨by omega,by omega⟩,rfl,hx0,⟨rfl,rfl,hl⟩,rfl,rfl⟩
def Qm:Nat × Eng.Spec:=(49,uZ bp [o8] [] D2 (fun (xs,_)=>(eO xs,())))
end
end Go.Proofs.YtbeeaekepmnfhaaGreatDoor.part
namespace Go.Proofs.YtbeeaekepmnfhaaGreatDoor.poly
noncomputable section
open Go Go.Eng Go.RowKit Cr
theorem Rm:enters Tryz.prog 92 Tryz.f92:=ek
def As (ws:List Fr) (ts:List (F2 × F2)):Nat->F2 × F2
 | 0=>(0,0)
 | k+1=>g2.dR (As ws ts k) (g2.a6 (ts.getD k (0,0)) (ws.getD k 0))
def kO (xs:List Int) (ts:List (F2 × F2)):(F2 × F2) × Int:=if xs.length=ts.length then (if im [] xs=0 then (As (gD xs) ts xs.length,0) else ((0,0),im [] xs)) else ((0,0),1)
abbrev rF:HL [.sl (.int .i64),.sl g2.ba]->Prop:=fun (xs,_,_)=>List.length xs<4611686018427387904/\∀ x∈(xs:List Int),nh x
abbrev nr:HL [.sl (.int .i64),.sl g2.ba]->HO [.val g2.ba,.val (.int .i64)]:=fun (xs,ts,_)=>((kO xs ts).1,(kO xs ts).2,())
def KA (xs:List Int) (ts:List (F2 × F2)) (g:Int × (F2 × F2)):St:=aY Tryz.f92.ntmps 160 [(1,.is (.one (.ro g2.ba ts))),(2,Gp 26),(3,Gp 24),(8,.is (.one (.ptr 0 0))),(9,sI .i64 0),(10,.is (.one (.ptr 16 0))),(30,.is (.one (.sl 72 0 0 (gD xs).length 4))),(31,sI .i64 (gD xs).length),(32,sI .i64 g.1)] [(0,g2.pc (0,0)),(16,g2.pc g.2),(72,[.row .fr (gD xs).length (gD xs)])]
def mJS (xs:List Int) (ts:List (F2 × F2)) (g:Int × (F2 × F2)):Prop:=∃ k:Nat,k<=xs.length/\g.1=(k:Int)/\g.2=As (gD xs) ts k
def mOS (xs:List Int) (ts:List (F2 × F2)) (g:Int × (F2 × F2)):Prop:=g.2=As (gD xs) ts xs.length
theorem VQ:BH Tryz.prog 92 [.sl (.int .i64),.sl g2.ba] ([26,24].map Ka) [.val g2.ba,.val (.int .i64)] aM rF nr:=by
 have hsp:aN Tryz.prog (aF [E1,g2.zW,g2.oy]):=(ai (ak Mg) (ai (ak g2.B9) (ai (ak g2.se) aR)))
 refine OB (sp:=aF [E1,g2.zW,g2.oy]) Rm (by decide) (by decide) (by kernel_rfl) ?_
 rintro w M0 ⟨xs,ts,⟨⟩⟩
 revert xs ts
 intro (xs:List Int) (ts:List (F2 × F2)) _ hp
 have hpp:=hp
 obtain⟨hl,hx⟩:=hp
 have hl:xs.length<4611686018427387904:=hl
 show Tr _ _ _ _ _ _ _
 refine aP hsp mixed 8 (KA xs ts (0,(0,0))) (xs.length=ts.length/\im [] xs=0) ?_ (fun hk=>?_)
 ·refine ao (X:=((((xs.length:Int) != (ts.length:Int))=true->((((0:Fp),(0:Fp)),(0:Fp),(0:Fp)),1,())=nr (xs,ts,()))/\(((xs.length:Int) != (ts.length:Int))=false->wF (xs,())/\((im [] xs != 0)=true->((((0:Fp),(0:Fp)),(0:Fp),(0:Fp)),im [] xs,())=nr (xs,ts,()))/\((im [] xs != 0)=false->(KA xs ts (0,(0:F2),(0:F2))).ah (xs.length=ts.length/\im [] xs=0))))) (by kernel_rfl) ?_
  refine⟨fun h=>?_,fun h=>⟨hpp,fun h2=>?_,fun h2=>aA ?_⟩⟩
  ·have h:¬ xs.length=ts.length:=by simp at h;omega
   show _=((kO xs ts).1,(kO xs ts).2,())
   rw[kO,if_neg h];rfl
  ·have h:xs.length=ts.length:=by simp at h;omega
   have h2:¬ im [] xs=0:=by simpa using h2
   show _=((kO xs ts).1,(kO xs ts).2,())
   rw[kO,if_pos h,if_neg h2];rfl
  ·exact⟨by simp at h;omega,by simpa using h2⟩
 obtain⟨he,h0⟩:=hk
 have hwl:(gD xs).length=xs.length:=by rw[gD,if_pos h0,List.length_map]
 refine bO hsp mixed dA (fun σ=>(bU (.int .i64) 32 σ,ga g2.ba 16 σ)) (KA xs ts) (mJS xs ts) (fun g=>xs.length-g.1.toNat)
  (fun σ=>(bU (.int .i64) 32 σ,ga g2.ba 16 σ)) (KA xs ts) (mOS xs ts) (0,(0,0)) (c:=aI (aJ Tryz.f92) 8) (by kernel_rfl) (by kernel_rfl) (aC (by kernel_rfl) (by kernel_rfl) ?_) ?_ ?_
 ·exact⟨0,Nat.zero_le _,rfl,rfl⟩
 ·rintro⟨i,s⟩ hj
  revert i s
  intro (i:Int) (s:F2 × F2) ⟨k,hk,ei,es⟩
  have ei:i=(k:Int):=ei
  have ks:s=As (gD xs) ts k:=es
  subst ei
  refine ao (X:=((decide ((k:Int)<(↑(gD xs).length:Int))=true->(0<=(k:Int)/\(k:Int)<(↑(gD xs).length:Int))/\(k:Int).toNat<(gD xs).length/\(0<=(k:Int)/\(k:Int)<(ts.length:Int))/\(k:Int).toNat<ts.length/\True/\True/\(KA xs ts (IntKind.i64.wrap ((k:Int)+1),g2.dR s (g2.a6 (ts.getD (k:Int).toNat (((0:Fp),(0:Fp)),(0:Fp),(0:Fp))) ((gD xs).getD (k:Int).toNat (0:Fr))))).ah (mJS xs ts (IntKind.i64.wrap ((k:Int)+1),g2.dR s (g2.a6 (ts.getD (k:Int).toNat (((0:Fp),(0:Fp)),(0:Fp),(0:Fp))) ((gD xs).getD (k:Int).toNat (0:Fr))))/\xs.length-(IntKind.i64.wrap ((k:Int)+1)).toNat<xs.length-(k:Int).toNat))/\(decide ((k:Int)<(↑(gD xs).length:Int))=false->(KA xs ts ((k:Int),s)).ah (mOS xs ts ((k:Int),s))))) (by kernel_rfl) ?_
  rw[Int.toNat_natCast,hwl]
  refine⟨fun h=>?_,fun h=>aA ?_⟩
  ·have hlt:k<xs.length:=by have:=dec_lt h;omega
   rw[aQ (by omega)]
   refine⟨⟨by omega,by omega⟩,by omega,⟨by omega,by omega⟩,by omega,trivial,trivial,aA ⟨⟨k+1,hlt,rfl,?_⟩,?_⟩⟩
   ·show g2.dR (s) (g2.a6 (ts.getD k (0,0)) ((gD xs).getD k 0))=As _ ts (k+1)
    rw[ks];rfl
   ·show xs.length-((k+1:Nat):Int).toNat<xs.length-(k:Int).toNat
    rw[Int.toNat_natCast,Int.toNat_natCast];omega
  ·have:k=xs.length:=by have:=dk h;omega
   show s=As _ ts _
   rw[ks,this]
 rintro⟨i,s⟩ hj
 revert i s
 intro (i:Int) (s:F2 × F2) (hj:s=As (gD xs) ts xs.length)
 refine bf hsp mixed _ _ ?_
 refine ao (X:=((s,0,())=nr (xs,ts,()))) (by kernel_rfl) ?_
 show _=((kO xs ts).1,(kO xs ts).2,())
 rw[kO,if_pos he,if_pos h0,hj]
def aa7:Nat × Eng.Spec:=(92,Dx [.sl (.int .i64),.sl g2.ba] [26,24] [.val g2.ba,.val (.int .i64)] rF nr)
theorem Vr:enters Tryz.prog 53 Tryz.f53:=ek
theorem YV:aB Tryz.prog 53 [.sl (.int .i64),.sl g2.ba] [.val g2.ba,.val (.int .i64)] aM rF nr:=by
 refine ax (sp:=aF [aa7]) (ai (Mc VQ) aR) mixed Vr (by decide) (by decide) ?_
 rintro w M0 ⟨xs,ts,⟨⟩⟩
 revert xs ts
 intro (xs:List Int) (ts:List (F2 × F2)) _ hp
 refine ao (X:=(rF (xs,ts,())/\((kO xs ts).fst,(kO xs ts).snd,())=nr (xs,ts,()))) (by kernel_rfl) ?_
 exact⟨hp,rfl⟩
def UA:Nat × Eng.Spec:=(53,ar [.sl (.int .i64),.sl g2.ba] [.val g2.ba,.val (.int .i64)] rF nr)
end
end Go.Proofs.YtbeeaekepmnfhaaGreatDoor.poly
namespace Go.Proofs.YtbeeaekepmnfhaaGreatDoor.part
open Go Go.Eng Go.RowKit Cr
theorem tz:enters Tryz.prog 48 Tryz.f48:=ek
abbrev iV:HL [.sl bp]->Prop:=fun (c,_)=>List.length c<1048576
theorem vW:aB Tryz.prog 48 [.sl bp] [.own bp] aM iV (fun (c,_)=>(c,())):=by
 have hsp:aN Tryz.prog (aF []):=aR
 refine xZ (sp:=aF []) tz (by decide) (by decide) (by kernel_rfl) ?_ ?_
 ·rintro w M0 ⟨⟩ _ hp
  show Tr _ _ _ _ _ _ _
  refine bf hsp mixed _ _ ?_
  refine ao (X:=((([]:List PT),())=(([]:List PT),()))) (by kernel_rfl) rfl
 ·rintro w M0 c ⟨⟩ _ _ hp
  revert c
  intro (c:List PT) _ hp
  have hp:c.length<1048576:=hp
  show Tr _ _ _ _ _ _ _
  refine bf hsp mixed _ _ ?_
  refine ao (X:=(0<=0/\(0+c.length)*200<=140737488355328/\0+c.length<=4611686018427387904/\0+(0+c.length)<=0+c.length/\(List.take (0+c.length) (List.take 0 []++c),())=(c,()))) (by kernel_rfl) ?_
  rw[List.take_zero,List.nil_append,Nat.zero_add,List.take_length]
  exact⟨Nat.le_refl _,by omega,by omega,by omega,rfl⟩
noncomputable def rH:Nat × Eng.Spec:=(48,ar [.sl bp] [.own bp] iV (fun (c,_)=>(c,())))
theorem Oq:aB Tryz.prog 48 [.sl bp] [.val (.sl bp)] aM iV (fun (c,_)=>(c,())):=by
 have hsp:aN Tryz.prog (aF []):=aR
 refine xZ (sp:=aF []) tz (by decide) (by decide) (by kernel_rfl) ?_ ?_
 ·rintro w M0 ⟨⟩ _ hp
  show Tr _ _ _ _ _ _ _
  refine bf hsp mixed _ _ ?_
  refine ao (X:=((([]:List PT),())=(([]:List PT),()))) (by kernel_rfl) rfl
 ·rintro w M0 c ⟨⟩ _ _ hp
  revert c
  intro (c:List PT) _ hp
  have hp:c.length<1048576:=hp
  show Tr _ _ _ _ _ _ _
  refine bf hsp mixed _ _ ?_
  refine ao (X:=(0<=0/\(0+c.length)*200<=140737488355328/\0+c.length<=4611686018427387904/\0+(0+c.length)<=0+c.length/\(List.take (0+c.length) (List.take 0 []++c),())=(c,()))) (by kernel_rfl) ?_
  rw[List.take_zero,List.nil_append,Nat.zero_add,List.take_length]
  exact⟨Nat.le_refl _,by omega,by omega,by omega,rfl⟩
noncomputable def H6:Nat × Eng.Spec:=(48,ar [.sl bp] [.val (.sl bp)] iV (fun (c,_)=>(c,())))
end Go.Proofs.YtbeeaekepmnfhaaGreatDoor.part
namespace Go.Proofs.YtbeeaekepmnfhaaGreatDoor.part
noncomputable section
open Go Go.Eng Go.RowKit Cr
def GF (_:Unit):St:=aY Tryz.f129.ntmps 24 [(2,sI .i64 0),(8,sI .i64 1)] []
abbrev D0:HL [.sl bp,iK,iK,o8]->Prop:=fun (_,a,b,_)=>(a:Int)=0/\(b:Int)=0
theorem VK:aB Tryz.prog 129 [.sl bp,iK,iK,o8] [] aM D0 (fun _=>()):=by
 have hsp:aN Tryz.prog (aF []):=aR
 refine bh (sp:=aF []) JR (by decide) (by decide) (by kernel_rfl) ?_
 rintro w M0 ⟨xs,a,b,q,⟨⟩⟩
 revert xs a b q
 intro (xs:List PT) (a:Int) (b:Int) (q:Unit) _ ⟨ha,hb⟩
 have ha:a=0:=ha
 have hb:b=0:=hb
 subst ha hb
 show Tr _ _ _ _ _ _ _
 refine aP hsp mixed 1 (GF ()) True ?_ (fun _=>?_)
 ·refine ao (X:=((GF ()).ah True)) (by kernel_rfl) ?_
  exact aA trivial
 refine fh dA (fun _=>()) GF (fun _=>True) (fun _=>0)
  (fun _=>()) GF (fun _=>True) () (c:=aI (aJ Tryz.f129) 1) (by kernel_rfl) (by kernel_rfl) (aC (by kernel_rfl) (by kernel_rfl) ?_) ?_ ?_
 ·trivial
 ·rintro⟨⟩ _
  refine aP hsp mixed 2 (GF ()) False ?_ (fun h=>h.elim)
  refine ao (X:=((decide ((1:Int)<0)=true->(GF ()).ah False)/\(decide ((1:Int)<0)=false->(GF ()).ah True))) (by kernel_rfl) ?_
  exact⟨fun h=>absurd h (by decide),fun _=>aA trivial⟩
 rintro⟨⟩ _
 refine bf hsp mixed _ _ ?_
 refine ao (X:=(()=())) (by kernel_rfl) ?_
 rfl
def Qe:Nat × Eng.Spec:=(129,ar [.sl bp,iK,iK,o8] [] D0 (fun _=>()))
def KL (xs:List PT) (q:Int) (_:Unit):St:=aY Tryz.f89.ntmps 16 [(0,.is (.one (.ro bp xs))),(1,sI .i64 0),(2,sI .i64 0),(3,sI .i64 q),(4,Ty)] []
abbrev D1:HL [.sl bp,iK,iK,iK,o8]->Prop:=fun (_,a,b,_)=>(a:Int)=0/\(b:Int)=0
theorem VU:aB Tryz.prog 89 [.sl bp,iK,iK,iK,o8] [] aM D1 (fun _=>()):=by
 have hsp:aN Tryz.prog (aF [Qe]):=ai (ak VK) aR
 refine bh (sp:=aF [Qe]) JU (by decide) (by decide) (by kernel_rfl) ?_
 rintro w M0 ⟨xs,a,b,q,f,⟨⟩⟩
 revert xs a b q f
 intro (xs:List PT) (a:Int) (b:Int) (q:Int) (f:Unit) _ ⟨ha,hb⟩
 have ha:a=0:=ha
 have hb:b=0:=hb
 subst ha hb
 show Tr _ _ _ _ _ _ _
 refine aP hsp mixed 2 (KL xs q ()) True ?_ (fun _=>?_)
 ·refine ao (X:=((KL xs q ()).ah True)) (by kernel_rfl) ?_
  exact aA trivial
 refine fh dA (fun _=>()) (KL xs q) (fun _=>True) (fun _=>0)
  (fun _=>()) (KL xs q) (fun _=>False) () (c:=aI (aJ Tryz.f89) 2) (by kernel_rfl) (by kernel_rfl) (aC (by kernel_rfl) (by kernel_rfl) ?_) ?_ ?_
 ·trivial
 ·rintro⟨⟩ _
  refine eG (c:=aI (bQ (aI (aJ Tryz.f89) 2)) 0) (by kernel_rfl) (by kernel_rfl) ?_
  refine aP hsp mixed 3 (KL xs q ()) False ?_ (fun h=>h.elim)
  refine ao (X:=((decide (IntKind.i64.wrap ((0:Int)-0)<=12)=true->D0 (xs,0,0,(),())/\()=())/\(decide (IntKind.i64.wrap ((0:Int)-0)<=12)=false->(KL xs q ()).ah False))) (by kernel_rfl) ?_
  exact⟨fun _=>⟨⟨rfl,rfl⟩,rfl⟩,fun h=>absurd h (by decide)⟩
 ·rintro _ h
  exact absurd h id
def Qk:Nat × Eng.Spec:=(89,ar [.sl bp,iK,iK,iK,o8] [] D1 (fun _=>()))
abbrev Bi:HL [.sl bp,o8]->Prop:=fun (xs,_)=>List.length xs=0
theorem RJ:aB Tryz.prog 49 [.sl bp,o8] [] aM Bi (fun _=>()):=by
 have hsp:aN Tryz.prog (aF [FD,Qk]):=ai (ak Ow) (ai (ak VU) aR)
 refine bh (sp:=aF [FD,Qk]) Gh (by decide) (by decide) (by kernel_rfl) ?_
 rintro w M0 ⟨xs,f,⟨⟩⟩
 revert xs f
 intro (xs:List PT) (f:Unit) _ hl
 have hl:xs.length=0:=hl
 show Tr _ _ _ _ _ _ _
 refine bf hsp mixed _ _ ?_
 refine ao (X:=((0<=IntKind.u64.wrap (xs.length:Int)/\IntKind.u64.wrap (xs.length:Int)<=12)/\D1 (xs,0,(xs.length:Int),wa (IntKind.u64.wrap (xs.length:Int)),(),())/\()=())) (by kernel_rfl) ?_
 have e:IntKind.u64.wrap (xs.length:Int)=0:=by rw[hl];decide
 rw[e]
 exact⟨⟨by decide,by decide⟩,⟨rfl,by show ((xs.length:Nat):Int)=0;omega⟩,rfl⟩
def Lb:Nat × Eng.Spec:=(49,ar [.sl bp,o8] [] Bi (fun _=>()))
end
end Go.Proofs.YtbeeaekepmnfhaaGreatDoor.part
open Go.IntKind(i64)
namespace Go.Proofs.YtbeeaekepmnfhaaGreatDoor.part
noncomputable section
open Go Go.Eng Go.RowKit Cr poly
abbrev z2:(Fp × Fp) × (Fp × Fp):=((0,0),(0,0))
def jn (m:Nat) (ss:List PT):((Fp × Fp) × (Fp × Fp)) × Int × Unit :=
 if o9 none (ss.map ck)=0 then (if m=0\/ss.length<m then (z2,32,()) else ((kO ((ss.take m).map ck) ((ss.take m).map Prod.snd)).1,(kO ((ss.take m).map ck) ((ss.take m).map Prod.snd)).2,()))
 else (z2,o9 none (ss.map ck),())
theorem SD {ks:List Int} {k:Nat} (hk:k<ks.length) (q:Option Int):o9 q (ks.drop k)=if dm (ks.getD k 0)=false then 34 else if q=some (ks.getD k 0) then 33 else o9 (some (ks.getD k 0)) (ks.drop (k+1)):=by
 have e:ks.getD k 0=ks[k]:=by rw[List.getD_eq_getElem?_getD,List.getElem?_eq_getElem hk];rfl
 rw[List.drop_eq_getElem_cons hk,e,o9]
theorem aaO:∀ {l:List Int} {q:Option Int},o9 q l=0->∀ x∈l,dm x=true
 | [],_,_,x,hx=>by cases hx
 | y::l,q,h,x,hx=>by
  unfold o9 at h
  by_cases h1:dm y=false
  ·rw[if_pos h1] at h;cases h
  ·rw[if_neg h1] at h
   by_cases h2:q=some y
   ·rw[if_pos h2] at h;cases h
   ·rw[if_neg h2] at h
    rcases List.mem_cons.1 hx with rfl|hx
    ·simpa using h1
    ·exact aaO h x hx
theorem HZ {α:Type} {l:List α} {k:Nat} (hk:k<l.length) (v z:α) (j:Nat):(l.set k v).getD j z=if j=k then v else l.getD j z:=by
 simp only[List.getD_eq_getElem?_getD,List.getElem?_set]
 by_cases h:j=k
 ·subst h;simp[hk]
 ·rw[if_neg (fun e=>h e.symm),if_neg h]
theorem J6 {α β:Type} {ss:List α} {zα:α} {f:α->β} {zβ:β} {m:Nat} {xs:List β} (hm:m<=ss.length) (hl:xs.length=m) (h:∀ j,j<m->xs.getD j zβ=f (ss.getD j zα)):xs=(ss.take m).map f:=by
 refine List.ext_getElem (by rw[List.length_map,List.length_take];omega) fun j h1 h2=>?_
 have:=h j (by omega)
 rw[List.getD_eq_getElem?_getD,List.getD_eq_getElem?_getD,List.getElem?_eq_getElem h1,List.getElem?_eq_getElem (by omega)] at this
 simpa using this
def KQ (ks:List Int):Nat->Option Int
 | 0=>none
 | k+1=>some (ks.getD k 0)
theorem Gg:enters Tryz.prog 17 Tryz.f17:=ek
def GS (c:List (Fp × Fp)) (ps:List PT) (_:Unit):St:=aY Tryz.f17.ntmps 80 [(0,.is (.one (.ro bo c))),(4,.is (.one (.ptr 0 0))),(6,.is (.one (.ro bp ps))),(17,sI .i64 0),(18,sI .i64 0)] [(0,g2.pc (0,0))]
theorem RG:aB Tryz.prog 17 [.sl bo,.sl bp] [.val ba,.val iK] aM (fun (_,ps,_)=>List.length ps=0) (fun _=>(z2,32,())):=by
 have hsp:aN Tryz.prog (aF [H6,Lb]):=ai (ak Oq) (ai (ak RJ) aR)
 refine bh (sp:=aF [H6,Lb]) Gg (by decide) (by decide) (by kernel_rfl) ?_
 rintro w M0 ⟨c,ps,⟨⟩⟩
 revert c ps
 intro (c:List (Fp × Fp)) (ps:List PT) _ hl
 have hl:ps.length=0:=hl
 have hn:ps=[]:=List.eq_nil_of_length_eq_zero hl
 show Tr _ _ _ _ _ _ _
 refine eB hsp mixed 4 (fun σ=>bU iK 17 σ) (fun n=>aY Tryz.f17.ntmps 80 [(0,.is (.one (.ro bo c))),(4,.is (.one (.ptr 0 0))),(6,.is (.one (.ro bp ps))),(17,sI .i64 n),(18,sI .i64 0)] [(0,g2.pc (0,0))]) (fun n=>n=0) ?_ ?_
 ·refine ao (X:=(iV (ps,())/\Bi (ps,(),())/\(aY Tryz.f17.ntmps 80 [(0,SV.is (TV.one (Cell.ro bo c))),(4,SV.is (TV.one (Cell.ptr 0 0))),(6,SV.is (TV.one (Cell.ro bp ps))),(17,sI i64 (↑(ps,()).fst.length:Int)),(18,sI i64 (0:Int))] [(0,g2.pc ((0:F2),(0:F2)))]).ah ((ps.length:Int)=(0:au iK)))) (by kernel_rfl) ?_
  exact⟨by show ps.length<_;omega,hl,aA (by show (ps.length:Int)=0;omega)⟩
 intro (n:Int) (hn:n=0)
 subst hn
 refine fh dA (fun _=>()) (GS c ps) (fun _=>True) (fun _=>0)
  (fun _=>()) (GS c ps) (fun _=>True) () (c:=aI (aJ Tryz.f17) 4) (by kernel_rfl) (by kernel_rfl) (aC (by kernel_rfl) (by kernel_rfl) ?_) ?_ ?_
 ·trivial
 ·rintro⟨⟩ _
  refine aP hsp mixed 2 (GS c ps ()) False ?_ (fun h=>h.elim)
  refine ao (X:=((decide ((0:Int)<(0:Int))=true->(GS c ps ()).ah False)/\(decide ((0:Int)<(0:Int))=false->(GS c ps ()).ah True))) (by kernel_rfl) ?_
  exact⟨fun h=>absurd h (by decide),fun _=>aA trivial⟩
 rintro⟨⟩ _
 refine aP hsp mixed 2 (GS c ps ()) False ?_ (fun h=>h.elim)
 refine ao (X:=((((c.length:Int)==(0:Int))=true->((((0:Fp),(0:Fp)),(0:Fp),(0:Fp)),(32:Int),())=(z2,(32:Int),()))/\(((c.length:Int)==(0:Int))=false->(decide ((ps.length:Int)<(c.length:Int))=true->((((0:Fp),(0:Fp)),(0:Fp),(0:Fp)),(32:Int),())=(z2,(32:Int),()))/\(decide ((ps.length:Int)<(c.length:Int))=false->(GS c ps ()).ah False)))) (by kernel_rfl) ?_
 refine⟨fun _=>rfl,fun h1=>⟨fun _=>rfl,fun h2=>?_⟩⟩
 have h1:¬ (c.length:Int)=0:=fun e=>by rw[e] at h1;cases h1
 have h2:=Odf h2
 omega
def jI (c:List (Fp × Fp)) (ss:List PT) (i:Int):St:=aY Tryz.f17.ntmps 80 [(0,.is (.one (.ro bo c))),(4,.is (.one (.ptr 0 0))),(6,.is (.one (.ro bp ss))),(16,.is (.one (.ro bp ss))),(17,sI .i64 ss.length),(18,sI .i64 i)] [(0,g2.pc (0,0))]
def jK (ss:List PT) (m:Nat) (g:Int × List Int × List ((Fp × Fp) × (Fp × Fp))):St:=aY Tryz.f17.ntmps 248 [(4,.is (.one (.ptr 0 0))),(6,.is (.one (.ro bp ss))),(9,.is (.one (.sl 176 0 0 m 1))),(10,.is (.one (.sl 208 0 0 m 24))),(61,sI .i64 m),(62,sI .i64 g.1)] [(0,g2.pc (0,0)),(176,[.ints .i64 m g.2.1]),(208,[.row ba m g.2.2])]
def jO (c:List (Fp × Fp)) (ss:List PT) (_:Unit):St:=aY Tryz.f17.ntmps 80 [(0,.is (.one (.ro bo c))),(4,.is (.one (.ptr 0 0))),(6,.is (.one (.ro bp ss)))] [(0,g2.pc (0,0))]
def jL (m:Nat) (g:List Int × List ((Fp × Fp) × (Fp × Fp))):St:=aY Tryz.f17.ntmps 248 [(4,.is (.one (.ptr 0 0))),(9,.is (.one (.sl 176 0 0 m 1))),(10,.is (.one (.sl 208 0 0 m 24)))] [(0,g2.pc (0,0)),(176,[.ints .i64 m g.1]),(208,[.row ba m g.2])]
def jJ (ss:List PT) (i:Int):Prop:=∃ k:Nat,k<=ss.length/\i=(k:Int)/\o9 none (ss.map ck)=o9 (KQ (ss.map ck) k) ((ss.map ck).drop k)
def jJ2 (ss:List PT) (m:Nat) (g:Int × List Int × List ((Fp × Fp) × (Fp × Fp))):Prop:=∃ k:Nat,k<=m/\g.1=(k:Int)/\g.2.1.length=m/\g.2.2.length=m/\∀ j,j<k->g.2.1.getD j 0=(ss.getD j zP).1/\g.2.2.getD j z2=(ss.getD j zP).2
abbrev So:HL [.sl bo,.sl bp]->Prop:=fun (c,ps,_)=>0<List.length ps/\List.length ps<=12/\List.length c<1048576
theorem RH:aB Tryz.prog 17 [.sl bo,.sl bp] [.val ba,.val iK] aM So (fun (c,ps,_)=>jn (List.length c) (eO ps)):=by
 have hsp:aN Tryz.prog (aF [rH,Qm,Ia,UA]):=ai (ak vW) (ai (vU VV) (ai (ak Ox) (ai (ak YV) aR)))
 refine bh (sp:=aF [rH,Qm,Ia,UA]) Gg (by decide) (by decide) (by kernel_rfl) ?_
 rintro w M0 ⟨c,ps,⟨⟩⟩
 revert c ps
 intro (c:List (Fp × Fp)) (ps:List PT) _ hp
 obtain⟨h0,h1,h2⟩:=hp
 have h0:0<ps.length:=h0
 have h1:ps.length<=12:=h1
 have h2:c.length<1048576:=h2
 have hsl:(eO ps).length=ps.length:=(yU zP ck ps).length_eq
 show Tr _ _ _ _ _ _ _
 refine eB hsp mixed 3 (fun σ=>cN bp 24 σ) (fun ss=>aY Tryz.f17.ntmps 56 [(0,.is (.one (.ro bo c))),(4,.is (.one (.ptr 0 0))),(6,.is (.one (.sl 24 0 0 ps.length 25)))] [(0,g2.pc (0,0)),(24,[.row bp ps.length ss])]) (fun ss=>ss=eO ps) ?_ ?_
 ·refine ao (X:=(iV (ps,())/\ps.length=ps.length/\0<ps.length/\D2 (ps,(),())/\(aY Tryz.f17.ntmps 56 [(0,SV.is (TV.one (Cell.ro bo c))),(4,SV.is (TV.one (Cell.ptr 0 0))),(6,SV.is (TV.one (Cell.sl 24 0 0 ps.length 25)))] [(0,g2.pc ((0:F2),(0:F2))),(24,[Cell.row bp ps.length (eO (ps,()).fst,()).fst])]).ah (eO ps=eO ps))) (by kernel_rfl) ?_
  exact⟨by show ps.length<_;omega,rfl,h0,h1,aA rfl⟩
 intro (ss:List PT) (hss:ss=eO ps)
 have hsn:ss.length=ps.length:=by rw[hss];exact hsl
 have hkl:(ss.map ck).length=ss.length:=List.length_map ..
 have hkg:∀ k,k<ss.length->(ss.map ck).getD k 0=(ss.getD k zP).1:=fun k hk=>by
  rw[List.getD_eq_getElem?_getD,List.getD_eq_getElem?_getD,List.getElem?_map,List.getElem?_eq_getElem hk];rfl
 refine Is 6 24 ps.length 25 bp ss rfl rfl hsn ?_
 refine aP hsp mixed 1 (jI c ss 0) True ?_ (fun _=>?_)
 ·refine ao (X:=((jI c ss (0:Int)).ah True)) (by kernel_rfl) ?_
  exact aA trivial
 refine bO hsp mixed dA (fun σ=>bU iK 18 σ) (jI c ss) (jJ ss) (fun i=>ss.length-i.toNat)
  (fun _=>()) (jO c ss) (fun _=>o9 none (ss.map ck)=0) 0 (c:=aI (aJ Tryz.f17) 4) (by kernel_rfl) (by kernel_rfl) (aC (by kernel_rfl) (by kernel_rfl) ?_) ?_ ?_
 ·exact⟨0,Nat.zero_le _,rfl,rfl⟩
 ·intro (i:Int) ⟨k,hk,ei,es⟩
  subst ei
  refine ao (X:=((decide ((k:Int)<(ss.length:Int))=true->((0:Int)<=(k:Int)/\(k:Int)<(ss.length:Int))/\(k:Int).toNat<ss.length/\True/\((!dm (ss.getD (k:Int).toNat ((0:Int),((0:Fp),(0:Fp)),(0:Fp),(0:Fp))).fst)=true->((((0:Fp),(0:Fp)),(0:Fp),(0:Fp)),(34:Int),())=jn c.length (eO ps))/\((!dm (ss.getD (k:Int).toNat ((0:Int),((0:Fp),(0:Fp)),(0:Fp),(0:Fp))).fst)=false->(decide ((k:Int)>(0:Int))=true->((0:Int)<=i64.wrap ((k:Int)-(1:Int))/\i64.wrap ((k:Int)-(1:Int))<(ss.length:Int))/\(i64.wrap ((k:Int)-(1:Int))).toNat<ss.length/\(((ss.getD (i64.wrap ((k:Int)-(1:Int))).toNat ((0:Int),((0:Fp),(0:Fp)),(0:Fp),(0:Fp))).fst==(ss.getD (k:Int).toNat ((0:Int),((0:Fp),(0:Fp)),(0:Fp),(0:Fp))).fst)=true->((((0:Fp),(0:Fp)),(0:Fp),(0:Fp)),(33:Int),())=jn c.length (eO ps))/\(((ss.getD (i64.wrap ((k:Int)-(1:Int))).toNat ((0:Int),((0:Fp),(0:Fp)),(0:Fp),(0:Fp))).fst==(ss.getD (k:Int).toNat ((0:Int),((0:Fp),(0:Fp)),(0:Fp),(0:Fp))).fst)=false->(jI c ss (i64.wrap ((k:Int)+(1:Int)))).ah (jJ ss (i64.wrap ((k:Int)+(1:Int)))/\ss.length-(i64.wrap ((k:Int)+(1:Int))).toNat<ss.length-(k:Int).toNat)))/\(decide ((k:Int)>(0:Int))=false->(jI c ss (i64.wrap ((k:Int)+(1:Int)))).ah (jJ ss (i64.wrap ((k:Int)+(1:Int)))/\ss.length-(i64.wrap ((k:Int)+(1:Int))).toNat<ss.length-(k:Int).toNat))))/\(decide ((k:Int)<(ss.length:Int))=false->(jO c ss ()).ah (o9 none (List.map ck ss)=(0:Int))))) (by kernel_rfl) ?_
  rw[Int.toNat_natCast]
  refine⟨fun h=>?_,fun h=>aA ?_⟩
  ·have hlt:k<ss.length:=by have:=Odt h;omega
   have st:=SD (ks:=ss.map ck) (k:=k) (by rw[hkl];exact hlt) (KQ (ss.map ck) k)
   have pn:KQ (ss.map ck) (k+1)=some (ss.getD k zP).1:=by rw[KQ,hkg k hlt]
   rw[hkg k hlt,<- es] at st
   rw[aG (show -9223372036854775808<=(k:Int)+1 by omega) (by omega)]
   have hmu:ss.length-((k:Int)+1).toNat<ss.length-k:=by omega
   refine⟨⟨by omega,by omega⟩,hlt,trivial,fun hm=>?_,fun hm=>?_⟩
   ·have hm:dm (ss.getD k zP).1=false:=by simpa using hm
    rw[if_pos hm] at st
    rw[<- hss,jn,st,if_neg (by decide)]
   have hm:¬ dm (ss.getD k zP).1=false:=by simpa using hm
   rw[if_neg hm] at st
   refine⟨fun h0=>?_,fun h0=>aA ?_⟩
   ·obtain⟨u,rfl⟩:∃ u,k=u+1:=⟨k-1,by have:=Odt h0;omega⟩
    have e1:i64.wrap (((u+1:Nat):Int)-1)=(u:Int):=by rw[aG (by omega) (by omega)];omega
    have pu:KQ (ss.map ck) (u+1)=some (ss.getD u zP).1:=by rw[KQ,hkg u (by omega)]
    rw[pu] at st
    rw[e1,Int.toNat_natCast]
    refine⟨⟨by omega,by omega⟩,by omega,fun he=>?_,fun he=>aA ?_⟩
    ·have he:(ss.getD u zP).1=(ss.getD (u+1) zP).1:=eq_of_beq he
     rw[if_pos (by rw[he])] at st
     rw[<- hss,jn,st,if_neg (by decide)]
    ·rw[if_neg (fun e=>by rw[Option.some.inj e,beq_self_eq_true] at he;cases he)] at st
     exact⟨⟨u+1+1,hlt,rfl,by rw[pn];exact st⟩,hmu⟩
   ·have:k=0:=by have:=Odf h0;omega
    subst this
    rw[if_neg (fun e=>by cases e)] at st
    exact⟨⟨0+1,hlt,rfl,by rw[pn];exact st⟩,hmu⟩
  ·have:k=ss.length:=by have:=Odf h;omega
   subst this
   rw[es,<- hkl,List.drop_length,o9]
 rintro⟨⟩ hs0
 refine aP hsp mixed 5 (jK ss c.length (0,List.replicate c.length 0,List.replicate c.length z2)) (0<c.length/\c.length<=ss.length) ?_ (fun hm=>?_)
 ·refine ao (X:=((((c.length:Int)==(0:Int))=true->((((0:Fp),(0:Fp)),(0:Fp),(0:Fp)),(32:Int),())=jn c.length (eO ps))/\(((c.length:Int)==(0:Int))=false->(decide ((ss.length:Int)<(c.length:Int))=true->((((0:Fp),(0:Fp)),(0:Fp),(0:Fp)),(32:Int),())=jn c.length (eO ps))/\(decide ((ss.length:Int)<(c.length:Int))=false->((0:Int)<=(c.length:Int)/\(c.length:Int)<=(c.length:Int)/\(↑(8:Nat):Int)*(c.length:Int)<=(281474976710656:Int)/\(c.length:Int)<=(9223372036854775807:Int))/\((0:Int)<=(c.length:Int)/\(c.length:Int)<=(c.length:Int)/\(↑(192:Nat):Int)*(c.length:Int)<=(281474976710656:Int)/\(c.length:Int)<=(9223372036854775807:Int))/\(jK ss c.length ((0:Int),List.replicate c.length (0:Int),List.replicate c.length z2)).ah (0<c.length/\c.length<=ss.length))))) (by kernel_rfl) ?_
  refine⟨fun h=>?_,fun h=>⟨fun h2=>?_,fun h2=>⟨⟨by omega,Int.le_refl _,by omega,by omega⟩,⟨by omega,Int.le_refl _,by omega,by omega⟩,aA ⟨?_,?_⟩⟩⟩⟩
  ·have h:(c.length:Int)=0:=eq_of_beq h
   rw[<- hss,jn,if_pos hs0,if_pos (.inl (by omega))]
  ·have h2:=Odt h2
   rw[<- hss,jn,if_pos hs0,if_pos (.inr (by omega))]
  ·have h:¬ (c.length:Int)=0:=fun e=>by rw[e] at h;cases h
   omega
  ·have h2:=Odf h2
   omega
 obtain⟨hm0,hm⟩:=hm
 refine bO hsp mixed dA (fun σ=>(bU iK 62 σ,cN iK 176 σ,cN ba 208 σ)) (jK ss c.length) (jJ2 ss c.length) (fun g=>c.length-g.1.toNat)
  (fun σ=>(cN iK 176 σ,cN ba 208 σ)) (jL c.length) (fun g=>g=((ss.take c.length).map ck,(ss.take c.length).map Prod.snd)) (0,List.replicate c.length 0,List.replicate c.length z2) (c:=aI (aJ Tryz.f17) 10) (by kernel_rfl) (by kernel_rfl) (aC (by kernel_rfl) (by kernel_rfl) ?_) ?_ ?_
 ·exact⟨0,Nat.zero_le _,rfl,List.length_replicate ..,List.length_replicate ..,fun j hj=>absurd hj (Nat.not_lt_zero j)⟩
 ·rintro⟨i,xs,qs⟩ hj
  revert i xs qs
  intro (i:Int) (xs:List Int) (qs:List ((Fp × Fp) × (Fp × Fp))) ⟨k,hk,ei,lx,lq,ea⟩
  have ei:i=(k:Int):=ei
  subst ei
  have lx:xs.length=c.length:=lx
  have lq:qs.length=c.length:=lq
  have ea:∀ j,j<k->xs.getD j 0=(ss.getD j zP).1/\qs.getD j z2=(ss.getD j zP).2:=ea
  refine ao (X:=((decide ((k:Int)<(c.length:Int))=true->((0:Int)<=(k:Int)/\(k:Int)<(ss.length:Int))/\(k:Int).toNat<ss.length/\((0:Int)<=(k:Int)/\(k:Int)<(ss.length:Int))/\(k:Int).toNat<ss.length/\((0:Int)<=(k:Int)/\(k:Int)<(c.length:Int))/\(k:Int).toNat<c.length/\((0:Int)<=(k:Int)/\(k:Int)<(c.length:Int))/\(k:Int).toNat<c.length/\(jK ss c.length (i64.wrap ((k:Int)+(1:Int)),xs.set (k:Int).toNat (ss.getD (k:Int).toNat ((0:Int),((0:Fp),(0:Fp)),(0:Fp),(0:Fp))).fst,qs.set (k:Int).toNat (ss.getD (k:Int).toNat ((0:Int),((0:Fp),(0:Fp)),(0:Fp),(0:Fp))).snd)).ah (jJ2 ss c.length (i64.wrap ((k:Int)+(1:Int)),xs.set (k:Int).toNat (ss.getD (k:Int).toNat ((0:Int),((0:Fp),(0:Fp)),(0:Fp),(0:Fp))).fst,qs.set (k:Int).toNat (ss.getD (k:Int).toNat ((0:Int),((0:Fp),(0:Fp)),(0:Fp),(0:Fp))).snd)/\c.length-(i64.wrap ((k:Int)+(1:Int))).toNat<c.length-(k:Int).toNat))/\(decide ((k:Int)<(c.length:Int))=false->(jL c.length (xs,qs)).ah ((xs,qs)=(List.map ck (List.take c.length ss),List.map Prod.snd (List.take c.length ss)))))) (by kernel_rfl) ?_
  rw[Int.toNat_natCast]
  refine⟨fun h=>?_,fun h=>aA ?_⟩
  ·have hlt:k<c.length:=by have:=Odt h;omega
   rw[aG (show -9223372036854775808<=(k:Int)+1 by omega) (by omega)]
   refine⟨⟨by omega,by omega⟩,by omega,⟨by omega,by omega⟩,by omega,⟨by omega,by omega⟩,hlt,⟨by omega,by omega⟩,hlt,aA ⟨⟨k+1,hlt,rfl,?_,?_,fun j hj=>?_⟩,by omega⟩⟩
   ·show List.length _=_;rw[List.length_set,lx]
   ·show List.length _=_;rw[List.length_set,lq]
   ·show (xs.set k _).getD j 0=_/\(qs.set k _).getD j z2=_
    rw[HZ (by omega),HZ (by omega)]
    by_cases e:j=k
    ·rw[if_pos e,if_pos e,e];exact⟨rfl,rfl⟩
    ·rw[if_neg e,if_neg e];exact ea j (by omega)
  ·have:k=c.length:=by have:=Odf h;omega
   rw[this] at ea
   exact Prod.ext (J6 (zα:=zP) (f:=ck) (zβ:=0) hm lx (fun j hj=>(ea j hj).1)) (J6 (zα:=zP) (f:=Prod.snd) (zβ:=z2) hm lq (fun j hj=>(ea j hj).2))
 rintro _ rfl
 refine bf hsp mixed _ _ ?_
 refine ao (X:=(0+c.length<=c.length/\0+c.length<=c.length/\rF (List.take c.length (List.map ck (List.take c.length ss)),List.take c.length (List.map Prod.snd (List.take c.length ss)),())/\((kO (List.take c.length (List.map ck (List.take c.length ss))) (List.take c.length (List.map Prod.snd (List.take c.length ss)))).fst,(kO (List.take c.length (List.map ck (List.take c.length ss))) (List.take c.length (List.map Prod.snd (List.take c.length ss)))).snd,())=jn c.length (eO ps))) (by kernel_rfl) ?_
 have lk:((ss.take c.length).map ck).length=c.length:=by rw[List.length_map,List.length_take];omega
 have lp:((ss.take c.length).map (Prod.snd:PT->(Fp × Fp) × (Fp × Fp))).length=c.length:=by rw[List.length_map,List.length_take];omega
 rw[List.take_of_length_le (Nat.le_of_eq lk),List.take_of_length_le (Nat.le_of_eq lp)]
 refine⟨by omega,by omega,⟨by show List.length _<_;rw[lk];omega,fun x hx=>?_⟩,?_⟩
 ·have hx:x∈ss.map ck:=List.map_subset _ (fun y hy=>List.mem_of_mem_take hy) hx
  have:=aaO hs0 x hx
  simp[dm] at this
  exact⟨by omega,by omega⟩
 ·rw[<- hss,jn,if_pos hs0,if_neg (by omega)]
abbrev zK:HL [.sl bo,.sl bp]->Prop:=fun (c,ps,_)=>List.length ps<=12/\List.length c<1048576
theorem VL:aB Tryz.prog 17 [.sl bo,.sl bp] [.val ba,.val iK] aM zK (fun (c,ps,_)=>jn (List.length c) (eO ps)):=by
 rintro w M us ⟨c,ps,⟨⟩⟩ hM hG hin ⟨h1,h2⟩
 revert c ps
 intro (c:List (Fp × Fp)) (ps:List PT) hin (h1:ps.length<=12) (h2:c.length<1048576)
 by_cases h0:ps.length=0
 ·have e:=RG w M us (c,ps,()) hM hG hin h0
  have hn:ps=[]:=List.eq_nil_of_length_eq_zero h0
  subst hn
  have ej:jn c.length (eO [])=(z2,32,()):=by
   show jn c.length []=_
   have hc:c.length=0\/([]:List PT).length<c.length:=by
    by_cases hc:c.length=0
    ·exact .inl hc
    ·exact .inr (by show 0<_;omega)
   rw[jn,if_pos (show o9 none (([]:List PT).map ck)=0 from rfl),if_pos hc]
  show iy _ _ _ _ _
  rw[show (fun x:HL [.sl bo,.sl bp]=>jn (List.length x.1) (eO x.2.1)) (c,[],())=(z2,32,()) from ej]
  exact e
 ·exact RH w M us (c,ps,()) hM hG hin ⟨by show 0<ps.length;omega,h1,h2⟩
end
end Go.Proofs.YtbeeaekepmnfhaaGreatDoor.part
namespace Cr
open Rg Fd
theorem aaj:∀ (B A:Nat) (f:Nat->Nat),(∀ i,i<A->f i<B)->(∀ i j,i<A->j<A->f i=f j->i=j)->A<=B:=by
 intro B
 induction B with
 | zero =>
  intro A f h _
  cases A with
  | zero=>exact Nat.le_refl 0
  | succ A=>exact absurd (h 0 (by omega)) (by omega)
 | succ B ih =>
  intro A f h inj
  cases A with
  | zero=>omega
  | succ A =>
   have ne:∀ i,i<A->f i≠f A:=fun i hi e=>by have:=inj i A (by omega) (by omega) e;omega
   have:=ih A (fun i=>if f i>f A then f i-1 else f i) (fun i hi=>by
    have h1:=h i (by omega)
    have h2:=h A (by omega)
    have h3:=ne i hi
    show (if f i>f A then f i-1 else f i)<B
    split<;>omega) (fun i j hi hj e=>by
    have h3:=ne i hi
    have h4:=ne j hj
    have e:(if f i>f A then f i-1 else f i)=(if f j>f A then f j-1 else f j):=e
    refine inj i j (by omega) (by omega) ?_
    split at e<;>split at e<;>omega)
   omega
theorem bez (m n:Nat):∃ u v:Int,u*(m:Int)+v*(n:Int)=((Nat.gcd m n:Nat):Int):=by
 induction m,n using Nat.gcd.induction with
 | H0 n=>exact⟨0,1,by simp⟩
 | H1 m n hm ih =>
  obtain⟨u,v,h⟩:=ih
  refine⟨v-u*((n/m:Nat):Int),u,?_⟩
  rw[Nat.gcd_rec,<- h]
  have e:(n:Int)=(m:Int)*((n/m:Nat):Int)+((n%m:Nat):Int):=by
   have:=Nat.div_add_mod n m
   rw[<- Int.natCast_mul,<- Int.natCast_add,this]
  generalize ((n/m:Nat):Int)=q at *
  generalize ((n%m:Nat):Int)=t at *
  rw[e,Int.sub_mul,Int.mul_add]
  have:u*q*(m:Int)=u*((m:Int)*q):=by rw[Int.mul_assoc,Int.mul_comm q]
  omega
theorem Wo {l a:Nat} (h:Nat.Coprime l a) (hl:1<l):∃ s:Nat,a*s%l=1:=by
 obtain⟨u,v,e⟩:=bez l a
 rw[h] at e
 refine⟨(v%(l:Int)).toNat,?_⟩
 have hv:(((v%(l:Int)).toNat:Nat):Int)=v%(l:Int):=Int.toNat_of_nonneg (Int.emod_nonneg _ (by omega))
 have:(((a*(v%(l:Int)).toNat%l:Nat)):Int)=1:=by
  rw[Int.natCast_emod,Int.natCast_mul,hv,Int.mul_emod,Int.emod_emod_of_dvd _ (Int.dvd_refl _),<- Int.mul_emod]
  have e2:(a:Int)*v=1+(l:Int)*(-u):=by
   rw[Int.mul_neg,Int.mul_comm (l:Int) u,Int.mul_comm (a:Int) v]
   omega
  rw[e2,Int.add_mul_emod_self_left]
  exact Int.emod_eq_of_lt (by omega) (by omega)
 omega
section
variable {F:Type} [Fd F] {b:F} (hb:b≠0)
include hb
theorem Ha {S:F × F} (oS:aV b S) (m n:Nat):aq S m=O2->aq S n=O2->aq S (Nat.gcd m n)=O2:=by
 induction m,n using Nat.gcd.induction with
 | H0 n=>intro _ h;rw[Nat.gcd_zero_left];exact h
 | H1 m n hm ih =>
  intro h1 h2
  rw[Nat.gcd_rec]
  refine ih ?_ h1
  have e:=Nat.div_add_mod n m
  rw[<- e,cn hb oS,<- bu hb oS,h1,fV,ct] at h2
  exact h2
theorem Hc {S:F × F} (oS:aV b S) {l:Nat} (h:aq S l=O2) (n:Nat):aq S n=aq S (n%l):=by
 conv=>lhs;rw[<- Nat.div_add_mod n l]
 rw[cn hb oS,<- bu hb oS,h,fV,ct]
theorem vj {P:F × F} (oP:aV b P) {l n a:Nat} (hl:dr l) (hk:aq P (n*l)=O2) (hne:aq P n≠O2) (ha:aq P a=O2):l∣a:=by
 refine Classical.byContradiction fun hd=>hne ?_
 have hc:Nat.gcd l a=1:=hl.coprime hd
 have oS:=a7 hb oP n
 have h1:aq (aq P n) l=O2:=by rw[bu hb oP];exact hk
 have h2:aq (aq P n) a=O2:=by rw[bu hb oP,Nat.mul_comm,<- bu hb oP,ha,fV]
 have:=Ha hb oS l a h1 h2
 rw[hc,gv] at this
 exact this
theorem afc {U V:F × F} (oU:aV b U) (oV:aV b V) {l:Nat} (hl:dr l) (hU:aq U l=O2) (hV:aq V l=O2) (hV0:V≠O2) (hj:∀ j,j<l->ae U (aq V j)≠O2) {a c:Nat}
  (h:ae (aq U a) (aq V c)=O2):l∣a/\l∣c:=by
 by_cases hd:l∣a
 ·refine⟨hd,?_⟩
  obtain⟨t,rfl⟩:=hd
  rw[<- bu hb oU,hU,fV,ct] at h
  refine Classical.byContradiction fun hc=>hV0 ?_
  have:=Ha hb oV l c hV h
  rw[show Nat.gcd l c=1 from hl.coprime hc,gv] at this
  exact this
 ·obtain⟨s,hs⟩:=Wo (hl.coprime hd) hl.1
  have h2:aq (ae (aq U a) (aq V c)) s=O2:=by rw[h,fV]
  rw[kD hb (a7 hb oU _) (a7 hb oV _),bu hb oU,bu hb oV,Hc hb oU hU (a*s),hs,gv,Hc hb oV hV (c*s)] at h2
  exact absurd h2 (hj _ (Nat.mod_lt _ (by have:=hl.1;omega)))
def mD (P1 P2 P:F × F):Prop:=∃ a c:Nat,P=ae (aq P1 a) (aq P2 c)
variable {P1 P2:F × F} (o1:aV b P1) (o2:aV b P2)
include o1 o2
theorem qw {P:F × F} (h:mD P1 P2 P):aV b P:=by
 obtain⟨a,c,rfl⟩:=h
 exact dP hb (a7 hb o1 _) (a7 hb o2 _)
theorem Wj {P Q:F × F} (h:mD P1 P2 P) (k:mD P1 P2 Q):mD P1 P2 (ae P Q):=by
 obtain⟨a,c,rfl⟩:=h
 obtain⟨a',c',rfl⟩:=k
 refine⟨a+a',c+c',?_⟩
 rw[cn hb o1,cn hb o2]
 exact FR hb (a7 hb o1 _) (a7 hb o2 _) (a7 hb o1 _) (a7 hb o2 _)
theorem Ko {P:F × F} (h:mD P1 P2 P) (n:Nat):mD P1 P2 (aq P n):=by
 obtain⟨a,c,rfl⟩:=h
 refine⟨a*n,c*n,?_⟩
 rw[kD hb (a7 hb o1 _) (a7 hb o2 _),bu hb o1,bu hb o2]
omit o1 o2 in
theorem My {P:F × F} (oP:aV b P) {N:Nat} (h:aq P N=O2) (hN:0<N):aX P=aq P (N-1):=by
 have e:N=1+(N-1):=by omega
 rw[e,cn hb oP,gv] at h
 have:=cancel hb oP (a7 hb oP (N-1))
 rw[h,dD] at this
 exact this
variable {n1 n2:Nat} (k1:aq P1 n1=O2) (k2:aq P2 n2=O2)
include k1 k2
theorem GI {P:F × F} (h:mD P1 P2 P):aq P (n1*n2)=O2:=by
 obtain⟨a,c,rfl⟩:=h
 rw[kD hb (a7 hb o1 _) (a7 hb o2 _),bu hb o1,bu hb o2]
 rw[show a*(n1*n2)=n1*(n2*a) by rw[Nat.mul_comm a,Nat.mul_assoc],show c*(n1*n2)=n2*(n1*c) by rw[Nat.mul_comm c,Nat.mul_comm n1,Nat.mul_assoc]]
 rw[<- bu hb o1,<- bu hb o2,k1,k2,fV,fV,ct]
theorem Kp (hN:0<n1*n2) {P:F × F} (h:mD P1 P2 P):mD P1 P2 (aX P):=by
 rw[My hb (qw hb o1 o2 h) (GI hb o1 o2 k1 k2 h) hN]
 exact Ko hb o1 o2 h _
theorem RU (hodd:n1*n2%2=1) (no2:∀ P:F × F,aV b P->ae P P=O2->P=O2) {Q:F × F} (oQ:aV b Q) (h:mD P1 P2 (ae Q Q)):mD P1 P2 Q:=by
 have hk:=GI hb o1 o2 k1 k2 h
 rw[kD hb oQ oQ] at hk
 have hz:=no2 _ (a7 hb oQ _) hk
 have e:aq Q (2*((n1*n2+1)/2))=Q:=by
  rw[show 2*((n1*n2+1)/2)=n1*n2+1 by omega,cn hb oQ,hz,ct,gv]
 rw[<- bu hb oQ,A9] at e
 rw[<- e]
 exact Ko hb o1 o2 h _
theorem Wl (hN:0<n1*n2) {X Y U V:F × F} (oX:aV b X) (oY:aV b Y) (hU:mD P1 P2 U) (hV:mD P1 P2 V) (e:ae X U=ae Y V):∃ W,mD P1 P2 W/\X=ae Y W/\(W=O2->U=V):=by
 have oU:=qw hb o1 o2 hU
 have oV:=qw hb o1 o2 hV
 have onU:=cP oU
 refine⟨ae V (aX U),Wj hb o1 o2 hV (Kp hb o1 o2 k1 k2 hN hU),?_,?_⟩
 ·rw[<- eH hb oY oV onU,<- e,eH hb oX oU onU,bE,dD]
 ·intro h
  have:ae (ae V (aX U)) U=ae O2 U:=by rw[h]
  rw[eH hb oV onU oU,eZ,dD,ct] at this
  exact this.symm
theorem Wk (ind:∀ a c,ae (aq P1 a) (aq P2 c)=O2->n1∣a/\n2∣c) {a c a' c':Nat} (ha:a<n1) (ha':a'<n1) (hc:c<n2) (hc':c'<n2)
  (e:ae (aq P1 a) (aq P2 c)=ae (aq P1 a') (aq P2 c')):a=a'/\c=c':=by
 have h:ae (ae (aq P1 a) (aq P2 c)) (ae (aq P1 (n1-a)) (aq P2 (n2-c)))=O2:=by
  rw[FR hb (a7 hb o1 _) (a7 hb o2 _) (a7 hb o1 _) (a7 hb o2 _),<- cn hb o1,<- cn hb o2,show a+(n1-a)=n1 by omega,show c+(n2-c)=n2 by omega,k1,k2,ct]
 rw[e,FR hb (a7 hb o1 _) (a7 hb o2 _) (a7 hb o1 _) (a7 hb o2 _),<- cn hb o1,<- cn hb o2] at h
 obtain⟨⟨u,hu⟩,⟨v,hv⟩⟩:=ind _ _ h
 refine⟨?_,?_⟩
 ·match u with
  | 0=>omega
  | 1=>omega
  | u+2=>have:n1*(u+2)=n1*u+n1+n1:=by rw[Nat.mul_add];omega
         omega
 ·match v with
  | 0=>omega
  | 1=>omega
  | v+2=>have:n2*(v+2)=n2*v+n2+n2:=by rw[Nat.mul_add];omega
         omega
def cQ (Q:F × F) (c:Nat):F × F:=if c=0 then O2 else if c=1 then Q else aX Q
omit k1 k2 o1 o2 hb in
theorem zh {Q:F × F} (oQ:aV b Q) (c:Nat):aV b (cQ Q c):=by
 unfold cQ
 split
 ·exact .inl rfl
 ·split
  ·exact oQ
  ·exact cP oQ
theorem V4 (hodd:n1*n2%2=1) (ind:∀ a c,ae (aq P1 a) (aq P2 c)=O2->n1∣a/\n2∣c) (no2:∀ P:F × F,aV b P->ae P P=O2->P=O2)
  (code:F × F->Nat) (B:Nat) (hB:∀ P,aV b P->code P<B) (hinj:∀ P Q,aV b P->aV b Q->code P=code Q->P=Q) (hsz:B<3*(n1*n2)) {Q:F × F} (oQ:aV b Q):mD P1 P2 Q:=by
 refine Classical.byContradiction fun hQ=>?_
 have hN:0<n1*n2:=by omega
 have hn2:0<n2:=Nat.pos_of_ne_zero fun e=>by rw[e] at hN;simp at hN
 have hH:∀ t,mD P1 P2 (ae (aq P1 (t/n2)) (aq P2 (t%n2))):=fun t=>⟨_,_,rfl⟩
 have hneg:∀ P,aV b P->mD P1 P2 (aX P)->mD P1 P2 P:=fun P _ h=>by have:=Kp hb o1 o2 k1 k2 hN h;rwa [cR] at this
 have h2Q:¬ mD P1 P2 (ae Q Q):=fun h=>hQ (RU hb o1 o2 k1 k2 hodd no2 oQ h)
 have key:∀ c c',c<3->c'<3->c≠c'->∀ W,mD P1 P2 W->cQ Q c=ae (cQ Q c') W->False:=by
  intro c c' hc hc' hne W hW e
  have oW:=qw hb o1 o2 hW
  have oN:=cP oQ
  have hc:c=0\/c=1\/c=2:=by omega
  have hc':c'=0\/c'=1\/c'=2:=by omega
  have e0:cQ Q 0=O2:=rfl
  have e1:cQ Q 1=Q:=rfl
  have e2:cQ Q 2=aX Q:=rfl
  rcases hc with rfl|rfl|rfl<;>rcases hc' with rfl|rfl|rfl
  ·exact hne rfl
  ·rw[e0,e1] at e
   have:=cancel hb oQ oW
   rw[<- e,dD] at this
   exact hQ (hneg Q oQ (this▸hW))
  ·rw[e0,e2] at e
   have:=cancel hb oN oW
   rw[<- e,dD,cR] at this
   exact hQ (this▸hW)
  ·rw[e1,e0,ct] at e
   exact hQ (e▸hW)
  ·exact hne rfl
  ·rw[e1,e2] at e
   have:ae Q Q=W:=by
    have:=cancel hb oN oW
    rw[<- e,cR] at this
    exact this
   exact h2Q (this▸hW)
  ·rw[e2,e0,ct] at e
   exact hQ (hneg Q oQ (e▸hW))
  ·rw[e2,e1] at e
   have:aX (ae Q Q)=W:=by
    have:=cancel hb oQ oW
    rw[<- e] at this
    rw[<- this]
    exact sE hb oQ oQ
   exact h2Q (hneg _ (dP hb oQ oQ) (this▸hW))
  ·exact hne rfl
 have:=aaj B (3*(n1*n2)) (fun i=>code (ae (cQ Q (i/(n1*n2))) (ae (aq P1 (i%(n1*n2)/n2)) (aq P2 (i%(n1*n2)%n2))))) (fun i _=>hB _ (dP hb (zh oQ _) (qw hb o1 o2 (hH _)))) (fun i j hi hj e=>by
  have e:=hinj _ _ (dP hb (zh oQ _) (qw hb o1 o2 (hH _))) (dP hb (zh oQ _) (qw hb o1 o2 (hH _))) e
  obtain⟨W,hW,eW,hz⟩:=Wl hb o1 o2 k1 k2 hN (zh oQ _) (zh oQ _) (hH _) (hH _) e
  have di:i/(n1*n2)<3:=Nat.div_lt_of_lt_mul (by rw[Nat.mul_comm];exact hi)
  have dj:j/(n1*n2)<3:=Nat.div_lt_of_lt_mul (by rw[Nat.mul_comm];exact hj)
  by_cases hc:i/(n1*n2)=j/(n1*n2)
  ·rw[hc] at eW
   have oc:=zh oQ (j/(n1*n2))
   have hW0:W=O2:=by
    have:=cancel hb oc (qw hb o1 o2 hW)
    rw[<- eW,eZ] at this
    exact this.symm
   have li:i%(n1*n2)<n1*n2:=Nat.mod_lt _ hN
   have lj:j%(n1*n2)<n1*n2:=Nat.mod_lt _ hN
   obtain⟨ea,ec⟩:=Wk hb o1 o2 k1 k2 ind (Nat.div_lt_of_lt_mul (by rw[Nat.mul_comm n2];exact li)) (Nat.div_lt_of_lt_mul (by rw[Nat.mul_comm n2];exact lj)) (Nat.mod_lt _ hn2) (Nat.mod_lt _ hn2) (hz hW0)
   have f1:=Nat.div_add_mod (i%(n1*n2)) n2
   have f2:=Nat.div_add_mod (j%(n1*n2)) n2
   have f3:=Nat.div_add_mod i (n1*n2)
   have f4:=Nat.div_add_mod j (n1*n2)
   rw[ea,ec,f2] at f1
   rw[<- f1,hc] at f3
   omega
  ·exact (key _ _ di dj hc W hW eW).elim)
 omega
omit k1 k2 o1 o2 in
theorem Z3 (hx:∀ x:F,x*x*x+b≠0) (P:F × F) (oP:aV b P) (h:ae P P=O2):P=O2:=by
 rcases oP with rfl|oP
 ·rfl
 ·have:=cancel hb (.inr oP) (.inr oP)
  rw[h,dD] at this
  have e : -P.2=P.2:=congrArg Prod.snd this
  have e0:=qe e.symm
  have oP:P.2*P.2=P.1*P.1*P.1+b:=oP
  rw[e0,Rg.mul_zero] at oP
  exact absurd oP.symm (hx _)
omit k1 k2 in
theorem Wm {k l l':Nat} (hl:dr l) (hl':dr l') (hll:Nat.Coprime l l') (hkl:Nat.Coprime k (l*l')) (k1:aq P1 (k*(l*l'))=O2) (k2:aq P2 (l*l')=O2)
  (hk:∀ a,aq P1 a=O2->k∣a)
  (v1:aq P2 l'≠O2) (j1:∀ j,j<l->ae (aq P1 (k*l')) (aq (aq P2 l') j)≠O2)
  (v2:aq P2 l≠O2) (j2:∀ j,j<l'->ae (aq P1 (k*l)) (aq (aq P2 l) j)≠O2) (a c:Nat) (h:ae (aq P1 a) (aq P2 c)=O2):k*(l*l')∣a/\l*l'∣c:=by
 have h1:aq (ae (aq P1 a) (aq P2 c)) (l*l')=O2:=by rw[h,fV]
 rw[kD hb (a7 hb o1 _) (a7 hb o2 _),bu hb o1,bu hb o2,Nat.mul_comm c,<- bu hb o2,k2,fV,dD] at h1
 obtain⟨a',rfl⟩:k∣a:=hkl.dvd_of_dvd_mul_right (hk _ h1)
 have part:∀ {l l':Nat},dr l->aq P1 (k*(l*l'))=O2->aq P2 (l*l')=O2->aq P2 l'≠O2->(∀ j,j<l->ae (aq P1 (k*l')) (aq (aq P2 l') j)≠O2)->l∣a'/\l∣c:=by
  intro l l' hl k1 k2 v1 j1
  have e:aq (ae (aq P1 (k*a')) (aq P2 c)) l'=O2:=by rw[h,fV]
  rw[kD hb (a7 hb o1 _) (a7 hb o2 _),bu hb o1,bu hb o2,show k*a'*l'=k*l'*a' by rw[Nat.mul_assoc,Nat.mul_comm a',Nat.mul_assoc],Nat.mul_comm c,<- bu hb o1,<- bu hb o2] at e
  exact afc hb (a7 hb o1 _) (a7 hb o2 _) hl (by rw[bu hb o1,Nat.mul_assoc,Nat.mul_comm l'];exact k1) (by rw[bu hb o2,Nat.mul_comm];exact k2) v1 j1 e
 obtain⟨d1,d2⟩:=part hl k1 k2 v1 j1
 obtain⟨d3,d4⟩:=part hl' (by rw[Nat.mul_comm l'];exact k1) (by rw[Nat.mul_comm l'];exact k2) v2 j2
 exact⟨Nat.mul_dvd_mul (Nat.dvd_refl k) (hll.mul_dvd_of_dvd_of_dvd d1 d3),hll.mul_dvd_of_dvd_of_dvd d2 d4⟩
end
end Cr
namespace Cr
theorem I4:dr 1367711:=kW (f:=11) (by decide) (by decide) (by kernel_rfl)
theorem WT:dr 541:=kW (f:=5) (by decide) (by decide) (by kernel_rfl)
theorem yu:dr 12192593745179:=by
 refine Classical.byContradiction fun hp=>?_
 obtain⟨d,hd,hdn,hdd⟩:=dq (n:=12192593745179) (by decide) hp
 have h0:1367711∣d-1:=jd (k:=8914598) (a:=2) (f:=44) I4 (by kernel_rfl) (Odt (by kernel_rfl)) (by kernel_rfl) (by kernel_rfl) hd hdn
 have h1:541∣d-1:=jd (k:=22537141858) (a:=2) (f:=44) WT (by kernel_rfl) (Odt (by kernel_rfl)) (by kernel_rfl) (by kernel_rfl) hd hdn
 have g1:1367711*541∣d-1:=Nat.Coprime.mul_dvd_of_dvd_of_dvd (show Nat.gcd 1367711 541=1 by kernel_rfl) h0 h1
 rw[show 1367711*541=739931651 by kernel_rfl] at g1
 exact fR hd.1 g1 hdd (Odt (by kernel_rfl))
theorem xo:dr 512088937297519:=by
 refine Classical.byContradiction fun hp=>?_
 obtain⟨d,hd,hdn,hdd⟩:=dq (n:=512088937297519) (by decide) hp
 have h0:12192593745179∣d-1:=jd (k:=42) (a:=2) (f:=49) yu (by kernel_rfl) (Odt (by kernel_rfl)) (by kernel_rfl) (by kernel_rfl) hd hdn
 exact fR hd.1 h0 hdd (Odt (by kernel_rfl))
theorem tj:dr 1857858664515398933:=by
 refine Classical.byContradiction fun hp=>?_
 obtain⟨d,hd,hdn,hdd⟩:=dq (n:=1857858664515398933) (by decide) hp
 have h0:512088937297519∣d-1:=jd (k:=3628) (a:=2) (f:=61) xo (by kernel_rfl) (Odt (by kernel_rfl)) (by kernel_rfl) (by kernel_rfl) hd hdn
 exact fR hd.1 h0 hdd (Odt (by kernel_rfl))
theorem sG:dr 22294303974184787197:=by
 refine Classical.byContradiction fun hp=>?_
 obtain⟨d,hd,hdn,hdd⟩:=dq (n:=22294303974184787197) (by decide) hp
 have h0:1857858664515398933∣d-1:=jd (k:=12) (a:=2) (f:=65) tj (by kernel_rfl) (Odt (by kernel_rfl)) (by kernel_rfl) (by kernel_rfl) hd hdn
 exact fR hd.1 h0 hdd (Odt (by kernel_rfl))
theorem qF:dr 19931107752921199754119:=by
 refine Classical.byContradiction fun hp=>?_
 obtain⟨d,hd,hdn,hdd⟩:=dq (n:=19931107752921199754119) (by decide) hp
 have h0:22294303974184787197∣d-1:=jd (k:=894) (a:=2) (f:=75) sG (by kernel_rfl) (Odt (by kernel_rfl)) (by kernel_rfl) (by kernel_rfl) hd hdn
 exact fR hd.1 h0 hdd (Odt (by kernel_rfl))
theorem iW:dr 81162125843606155545104998607900118769099783:=by
 refine Classical.byContradiction fun hp=>?_
 obtain⟨d,hd,hdn,hdd⟩:=dq (n:=81162125843606155545104998607900118769099783) (by decide) hp
 have h0:19931107752921199754119∣d-1:=jd (k:=4072133212551150901578) (a:=2) (f:=146) qF (by kernel_rfl) (Odt (by kernel_rfl)) (by kernel_rfl) (by kernel_rfl) hd hdn
 exact fR hd.1 h0 hdd (Odt (by kernel_rfl))
theorem ff:dr 26935696298915610574513298451669528361624243820491956655650666425177:=by
 refine Classical.byContradiction fun hp=>?_
 obtain⟨d,hd,hdn,hdd⟩:=dq (n:=26935696298915610574513298451669528361624243820491956655650666425177) (by decide) hp
 have h0:81162125843606155545104998607900118769099783∣d-1:=jd (k:=331875194481953911837672) (a:=2) (f:=224) iW (by kernel_rfl) (Odt (by kernel_rfl)) (by kernel_rfl) (by kernel_rfl) hd hdn
 exact fR hd.1 h0 hdd (Odt (by kernel_rfl))
theorem cq:dr 4638704574076146691498289350639807119782054683906549022985642612861209609656189848749536921852444848596916990932297:=by
 refine Classical.byContradiction fun hp=>?_
 obtain⟨d,hd,hdn,hdd⟩:=dq (n:=4638704574076146691498289350639807119782054683906549022985642612861209609656189848749536921852444848596916990932297) (by decide) hp
 have h0:26935696298915610574513298451669528361624243820491956655650666425177∣d-1:=jd (k:=172214021222941014338396330402661971150362189448) (a:=2) (f:=381) ff (by kernel_rfl) (Odt (by kernel_rfl)) (by kernel_rfl) (by kernel_rfl) hd hdn
 exact fR hd.1 h0 hdd (Odt (by kernel_rfl))
theorem acJ:dr 402096035359507321594726366720466575392706800671181159425656785868777272553337714697862511267018014931937703598282857976535744623203249:=by
 refine Classical.byContradiction fun hp=>?_
 obtain⟨d,hd,hdn,hdd⟩:=dq (n:=402096035359507321594726366720466575392706800671181159425656785868777272553337714697862511267018014931937703598282857976535744623203249) (by decide) hp
 have h0:4638704574076146691498289350639807119782054683906549022985642612861209609656189848749536921852444848596916990932297∣d-1:=jd (k:=86682828996409959984) (a:=2) (f:=448) cq (by kernel_rfl) (Odt (by kernel_rfl)) (by kernel_rfl) (by kernel_rfl) hd hdn
 exact fR hd.1 h0 hdd (Odt (by kernel_rfl))
theorem aam:dr 13:=kW (f:=1) (by decide) (by decide) (by kernel_rfl)
theorem aan:dr 23:=kW (f:=2) (by decide) (by decide) (by kernel_rfl)
theorem Sp:dr 2713:=kW (f:=6) (by decide) (by decide) (by kernel_rfl)
theorem PG:dr 11953:=kW (f:=7) (by decide) (by decide) (by kernel_rfl)
theorem MO:dr 262069:=kW (f:=9) (by decide) (by decide) (by kernel_rfl)
end Cr
namespace Cr
open Rg Fd Go.Eng
abbrev F6:=F2 × F2 × F2
def xi:F2:=((1:Fp),(1:Fp))
theorem QF (x:F2):xi*x=(x.1-x.2,x.1+x.2):=by
 rw[F2.mul_def]
 show ((1:Fp)*x.1-1*x.2,1*x.2+1*x.1)=_
 rw[one_mul,one_mul,add_comm x.2]
theorem abP {F:Type} [Rg F] (a b c d e f x:F):a*d+x*(b*f+c*e)=d*a+x*(e*c+f*b) :=
 aL [a,b,c,d,e,f,x] ((fun (a b c d e f x:PE)=>(a*d+x*(b*f+c*e))) (.v 0) (.v 1) (.v 2) (.v 3) (.v 4) (.v 5) (.v 6)) ((fun (a b c d e f x:PE)=>(d*a+x*(e*c+f*b))) (.v 0) (.v 1) (.v 2) (.v 3) (.v 4) (.v 5) (.v 6)) (by kernel_rfl)
theorem abQ {F:Type} [Rg F] (a b c d e f x:F):a*e+b*d+x*(c*f)=d*b+e*a+x*(f*c) :=
 aL [a,b,c,d,e,f,x] ((fun (a b c d e f x:PE)=>(a*e+b*d+x*(c*f))) (.v 0) (.v 1) (.v 2) (.v 3) (.v 4) (.v 5) (.v 6)) ((fun (a b c d e f x:PE)=>(d*b+e*a+x*(f*c))) (.v 0) (.v 1) (.v 2) (.v 3) (.v 4) (.v 5) (.v 6)) (by kernel_rfl)
theorem abR {F:Type} [Rg F] (a b c d e f x:F):a*f+b*e+c*d=d*c+e*b+f*a :=
 aL [a,b,c,d,e,f,x] ((fun (a b c d e f x:PE)=>(a*f+b*e+c*d)) (.v 0) (.v 1) (.v 2) (.v 3) (.v 4) (.v 5) (.v 6)) ((fun (a b c d e f x:PE)=>(d*c+e*b+f*a)) (.v 0) (.v 1) (.v 2) (.v 3) (.v 4) (.v 5) (.v 6)) (by kernel_rfl)
theorem abY {F:Type} [Rg F] (a b c d e f g h k x:F):(a*d+x*(b*f+c*e))*g+x*((a*e+b*d+x*(c*f))*k+(a*f+b*e+c*d)*h)=a*(d*g+x*(e*k+f*h))+x*(b*(d*k+e*h+f*g)+c*(d*h+e*g+x*(f*k))) :=
 aL [a,b,c,d,e,f,g,h,k,x] ((fun (a b c d e f g h k x:PE)=>((a*d+x*(b*f+c*e))*g+x*((a*e+b*d+x*(c*f))*k+(a*f+b*e+c*d)*h))) (.v 0) (.v 1) (.v 2) (.v 3) (.v 4) (.v 5) (.v 6) (.v 7) (.v 8) (.v 9)) ((fun (a b c d e f g h k x:PE)=>(a*(d*g+x*(e*k+f*h))+x*(b*(d*k+e*h+f*g)+c*(d*h+e*g+x*(f*k))))) (.v 0) (.v 1) (.v 2) (.v 3) (.v 4) (.v 5) (.v 6) (.v 7) (.v 8) (.v 9)) (by kernel_rfl)
theorem abZ {F:Type} [Rg F] (a b c d e f g h k x:F):(a*d+x*(b*f+c*e))*h+(a*e+b*d+x*(c*f))*g+x*((a*f+b*e+c*d)*k)=a*(d*h+e*g+x*(f*k))+b*(d*g+x*(e*k+f*h))+x*(c*(d*k+e*h+f*g)) :=
 aL [a,b,c,d,e,f,g,h,k,x] ((fun (a b c d e f g h k x:PE)=>((a*d+x*(b*f+c*e))*h+(a*e+b*d+x*(c*f))*g+x*((a*f+b*e+c*d)*k))) (.v 0) (.v 1) (.v 2) (.v 3) (.v 4) (.v 5) (.v 6) (.v 7) (.v 8) (.v 9)) ((fun (a b c d e f g h k x:PE)=>(a*(d*h+e*g+x*(f*k))+b*(d*g+x*(e*k+f*h))+x*(c*(d*k+e*h+f*g)))) (.v 0) (.v 1) (.v 2) (.v 3) (.v 4) (.v 5) (.v 6) (.v 7) (.v 8) (.v 9)) (by kernel_rfl)
theorem ab0 {F:Type} [Rg F] (a b c d e f g h k x:F):(a*d+x*(b*f+c*e))*k+(a*e+b*d+x*(c*f))*h+(a*f+b*e+c*d)*g=a*(d*k+e*h+f*g)+b*(d*h+e*g+x*(f*k))+c*(d*g+x*(e*k+f*h)) :=
 aL [a,b,c,d,e,f,g,h,k,x] ((fun (a b c d e f g h k x:PE)=>((a*d+x*(b*f+c*e))*k+(a*e+b*d+x*(c*f))*h+(a*f+b*e+c*d)*g)) (.v 0) (.v 1) (.v 2) (.v 3) (.v 4) (.v 5) (.v 6) (.v 7) (.v 8) (.v 9)) ((fun (a b c d e f g h k x:PE)=>(a*(d*k+e*h+f*g)+b*(d*h+e*g+x*(f*k))+c*(d*g+x*(e*k+f*h)))) (.v 0) (.v 1) (.v 2) (.v 3) (.v 4) (.v 5) (.v 6) (.v 7) (.v 8) (.v 9)) (by kernel_rfl)
theorem abV {F:Type} [Rg F] (a b c x:F):1*a+x*(0*c+0*b)=a :=
 aL [a,b,c,x] ((fun (a b c x:PE)=>(1*a+x*(0*c+0*b))) (.v 0) (.v 1) (.v 2) (.v 3)) ((fun (a b c x:PE)=>(a)) (.v 0) (.v 1) (.v 2) (.v 3)) (by kernel_rfl)
theorem abW {F:Type} [Rg F] (a b c x:F):1*b+0*a+x*(0*c)=b :=
 aL [a,b,c,x] ((fun (a b c x:PE)=>(1*b+0*a+x*(0*c))) (.v 0) (.v 1) (.v 2) (.v 3)) ((fun (a b c x:PE)=>(b)) (.v 0) (.v 1) (.v 2) (.v 3)) (by kernel_rfl)
theorem abX {F:Type} [Rg F] (a b c:F):1*c+0*b+0*a=c :=
 aL [a,b,c] ((fun (a b c:PE)=>(1*c+0*b+0*a)) (.v 0) (.v 1) (.v 2)) ((fun (a b c:PE)=>(c)) (.v 0) (.v 1) (.v 2)) (by kernel_rfl)
theorem abS {F:Type} [Rg F] (a b c d e f g h k x:F):(a+d)*g+x*((b+e)*k+(c+f)*h)=a*g+x*(b*k+c*h)+(d*g+x*(e*k+f*h)) :=
 aL [a,b,c,d,e,f,g,h,k,x] ((fun (a b c d e f g h k x:PE)=>((a+d)*g+x*((b+e)*k+(c+f)*h))) (.v 0) (.v 1) (.v 2) (.v 3) (.v 4) (.v 5) (.v 6) (.v 7) (.v 8) (.v 9)) ((fun (a b c d e f g h k x:PE)=>(a*g+x*(b*k+c*h)+(d*g+x*(e*k+f*h)))) (.v 0) (.v 1) (.v 2) (.v 3) (.v 4) (.v 5) (.v 6) (.v 7) (.v 8) (.v 9)) (by kernel_rfl)
theorem abT {F:Type} [Rg F] (a b c d e f g h k x:F):(a+d)*h+(b+e)*g+x*((c+f)*k)=a*h+b*g+x*(c*k)+(d*h+e*g+x*(f*k)) :=
 aL [a,b,c,d,e,f,g,h,k,x] ((fun (a b c d e f g h k x:PE)=>((a+d)*h+(b+e)*g+x*((c+f)*k))) (.v 0) (.v 1) (.v 2) (.v 3) (.v 4) (.v 5) (.v 6) (.v 7) (.v 8) (.v 9)) ((fun (a b c d e f g h k x:PE)=>(a*h+b*g+x*(c*k)+(d*h+e*g+x*(f*k)))) (.v 0) (.v 1) (.v 2) (.v 3) (.v 4) (.v 5) (.v 6) (.v 7) (.v 8) (.v 9)) (by kernel_rfl)
theorem abU {F:Type} [Rg F] (a b c d e f g h k:F):(a+d)*k+(b+e)*h+(c+f)*g=a*k+b*h+c*g+(d*k+e*h+f*g) :=
 aL [a,b,c,d,e,f,g,h,k] ((fun (a b c d e f g h k:PE)=>((a+d)*k+(b+e)*h+(c+f)*g)) (.v 0) (.v 1) (.v 2) (.v 3) (.v 4) (.v 5) (.v 6) (.v 7) (.v 8)) ((fun (a b c d e f g h k:PE)=>(a*k+b*h+c*g+(d*k+e*h+f*g))) (.v 0) (.v 1) (.v 2) (.v 3) (.v 4) (.v 5) (.v 6) (.v 7) (.v 8)) (by kernel_rfl)
section
variable {R:Type} [Rg R] (v:R)
noncomputable def pg (x y:R × R × R):R × R × R:=cr (x.1+y.1,x.2.1+y.2.1,x.2.2+y.2.2)
noncomputable def Q0 (x y:R × R × R):R × R × R:=cr (x.1-y.1,x.2.1-y.2.1,x.2.2-y.2.2)
noncomputable def LX (x:R × R × R):R × R × R:=cr (-x.1,-x.2.1,-x.2.2)
noncomputable def mY (x y:R × R × R):R × R × R:=cr (x.1*y.1+v*(x.2.1*y.2.2+x.2.2*y.2.1),x.1*y.2.1+x.2.1*y.1+v*(x.2.2*y.2.2),x.1*y.2.2+x.2.1*y.2.1+x.2.2*y.1)
theorem iu (x y:R × R × R):pg x y=(x.1+y.1,x.2.1+y.2.1,x.2.2+y.2.2):=ay _
theorem Ga (x y:R × R × R):Q0 x y=(x.1-y.1,x.2.1-y.2.1,x.2.2-y.2.2):=ay _
theorem AM (x:R × R × R):LX x=(-x.1,-x.2.1,-x.2.2):=ay _
theorem gk (x y:R × R × R):mY v x y=(x.1*y.1+v*(x.2.1*y.2.2+x.2.2*y.2.1),x.1*y.2.1+x.2.1*y.1+v*(x.2.2*y.2.2),x.1*y.2.2+x.2.1*y.2.1+x.2.2*y.1):=ay _
omit [Rg R] in
theorem AL {x y:R × R × R} (h1:x.1=y.1) (h2:x.2.1=y.2.1) (h3:x.2.2=y.2.2):x=y:=Prod.ext h1 (Prod.ext h2 h3)
theorem aes (a b:R × R × R):pg a b=pg b a:=by rw[iu,iu,add_comm,add_comm a.2.1,add_comm a.2.2]
theorem aet (a b c:R × R × R):pg (pg a b) c=pg a (pg b c):=by rw[iu,iu,iu,iu,add_assoc,add_assoc,add_assoc]
theorem aeu (a:R × R × R):pg (0,0,0) a=a:=by rw[iu,zero_add,zero_add,zero_add]
theorem aev (a:R × R × R):pg (LX a) a=(0,0,0):=by rw[iu,AM,neg_add,neg_add,neg_add]
theorem aew (a b:R × R × R):Q0 a b=pg a (LX b):=by rw[iu,AM,Ga,Rg.sub_def,Rg.sub_def,Rg.sub_def]
theorem aex (a b:R × R × R):mY v a b=mY v b a:=by rw[gk,gk];exact AL (abP _ _ _ _ _ _ _) (abQ _ _ _ _ _ _ _) (abR _ _ _ _ _ _ (0:R))
theorem aey (a b c:R × R × R):mY v (mY v a b) c=mY v a (mY v b c):=by rw[gk,gk,gk,gk];exact AL (abY _ _ _ _ _ _ _ _ _ _) (abZ _ _ _ _ _ _ _ _ _ _) (ab0 _ _ _ _ _ _ _ _ _ _)
theorem aez (a:R × R × R):mY v (1,0,0) a=a:=by rw[gk];exact AL (abV _ _ _ _) (abW _ _ _ _) (abX _ _ _)
theorem aeA (a b c:R × R × R):mY v (pg a b) c=pg (mY v a c) (mY v b c):=by rw[iu,gk,gk,gk,iu];exact AL (abS _ _ _ _ _ _ _ _ _ _) (abT _ _ _ _ _ _ _ _ _ _) (abU _ _ _ _ _ _ _ _ _)
end
noncomputable instance rgF6:Rg F6 where
 zero:=(0,0,0)
 one:=(1,0,0)
 add:=pg
 sub:=Q0
 neg:=LX
 mul:=mY xi
 add_comm:=aes
 add_assoc:=aet
 zero_add:=aeu
 neg_add:=aev
 sub_def:=aew
 mul_comm:=aex xi
 mul_assoc:=aey xi
 one_mul:=aez xi
 add_mul:=aeA xi
theorem F6.ext {x y:F6} (h1:x.1=y.1) (h2:x.2.1=y.2.1) (h3:x.2.2=y.2.2):x=y:=Prod.ext h1 (Prod.ext h2 h3)
theorem F6.add_def (x y:F6):x+y=(x.1+y.1,x.2.1+y.2.1,x.2.2+y.2.2):=iu x y
theorem F6.sub_def (x y:F6):x-y=(x.1-y.1,x.2.1-y.2.1,x.2.2-y.2.2):=Ga x y
theorem F6.neg_def (x:F6) : -x=(-x.1,-x.2.1,-x.2.2):=AM x
theorem F6.mul_def (x y:F6):x*y=(x.1*y.1+xi*(x.2.1*y.2.2+x.2.2*y.2.1),x.1*y.2.1+x.2.1*y.1+xi*(x.2.2*y.2.2),x.1*y.2.2+x.2.1*y.2.1+x.2.2*y.1):=gk xi x y
theorem abO {F:Type} [Rg F] (a b c d:F):(a*c-b*d)*(a*c-b*d)+(a*d+b*c)*(a*d+b*c)=(a*a+b*b)*(c*c+d*d) :=
 aL [a,b,c,d] ((fun (a b c d:PE)=>((a*c-b*d)*(a*c-b*d)+(a*d+b*c)*(a*d+b*c))) (.v 0) (.v 1) (.v 2) (.v 3)) ((fun (a b c d:PE)=>((a*a+b*b)*(c*c+d*d))) (.v 0) (.v 1) (.v 2) (.v 3)) (by kernel_rfl)
noncomputable def lD (x:F2):Fp:=x.1*x.1+x.2*x.2
theorem rA (x y:F2):lD (x*y)=lD x*lD y:=by
 unfold lD
 rw[F2.mC,F2.gK]
 exact abO _ _ _ _
theorem Pp:lD xi=1+1:=by
 unfold lD xi
 show (1:Fp)*1+1*1=1+1
 rw[one_mul]
section
variable {M:Int} [Md M]
theorem ud (x:Zm M) (m n:Nat):zpow x (m+n)=zpow x m*zpow x n:=by
 induction n with
 | zero=>show zpow x m=zpow x m*1;rw[mul_one]
 | succ n ih=>show zpow x (m+n)*x=zpow x m*(zpow x n*x);rw[ih,mul_assoc]
theorem Fe (x:Zm M) (m n:Nat):zpow x (m*n)=zpow (zpow x m) n:=by
 induction n with
 | zero=>rfl
 | succ n ih=>show zpow x (m*n+m)=zpow (zpow x m) n*zpow x m;rw[ud,ih]
end
def bM:Nat:=4002409555221667393417789825735904156556882819939007885332058136124031650490837864442687629129015664037894272559787
theorem tA {x:Fp} (hx:x≠0):zpow x (bM-1)=1:=by
 have h1:=uc BK Fz hx (n:=bM-2) (Odt (by kernel_rfl))
 have h3:zpow x (bM-1)=zpow x (bM-2+1):=congrArg (zpow x) (Odt (by kernel_rfl))
 have h4:zpow x (bM-2+1)=zpow x (bM-2)*x:=rfl
 rw[h3,h4,mul_comm,h1]
def He (m x:Nat):Nat->Nat->Nat
 | 0,_=>1
 | f+1,n=>match n with
  | 0=>1
  | n+1=>fc (He m x f ((n+1)/2)) fun h=>match (n+1)%2 with
   | 0=>h*h%m
   | _=>h*h%m*x%m
theorem vi (m x:Nat) (hm:1<m):∀ f n,n<2^f->He m x f n=x^n%m
 | 0,n,h=>by
  have:n=0:=by simpa using h
  subst this
  show 1=1%m
  rw[Nat.mod_eq_of_lt hm]
 | f+1,0,_=>by show 1=1%m;rw[Nat.mod_eq_of_lt hm]
 | f+1,n+1,h=>by
  have ih:=vi m x hm f ((n+1)/2) (by rw[Nat.pow_succ] at h;omega)
  rw[He,zp,ih]
  have e:n+1=(n+1)/2+(n+1)/2+(n+1)%2:=by omega
  have e2:x^(n+1)=x^((n+1)/2)*x^((n+1)/2)*x^((n+1)%2):=by rw[<- Nat.pow_add,<- Nat.pow_add,<- e]
  rw[e2]
  rcases Nat.mod_two_eq_zero_or_one (n+1) with h0|h0
  ·rw[h0,Nat.pow_zero,Nat.mul_one,<- Nat.mul_mod]
   rfl
  ·rw[h0,Nat.pow_one]
   show x^((n+1)/2)%m*(x^((n+1)/2)%m)%m*x%m=_
   rw[<- Nat.mul_mod,Nat.mul_mod (_%m) x,Nat.mod_mod,<- Nat.mul_mod]
theorem w9 (n:Nat):(zpow (1+1:Fp) n).v=((2^n%bM:Nat):Int):=by
 rw[II]
 have:(1+1:Fp).v=2:=by decide
 rw[this,BK,Int.natCast_emod,Int.natCast_pow];rfl
theorem KG {s:Fp} {k:Nat} {q:Nat} (hq:q*k=bM-1) (h:zpow s k=1+1):2^q%bM=1:=by
 have hs:zpow (1+1:Fp) q=1:=by
  rw[<- h,<- Fe,Nat.mul_comm,hq]
  refine tA ?_
  intro e
  subst e
  cases k with
  | zero=>rw[Nat.mul_zero] at hq;exact absurd hq (by decide)
  | succ k =>
   have:zpow (0:Fp) (k+1)=zpow (0:Fp) k*0:=rfl
   rw[this,mul_zero] at h
   exact absurd h (by decide)
 have h2:=w9 q
 rw[hs] at h2
 have:(1:Fp).v=1:=by decide
 rw[this] at h2
 omega
theorem QA:He bM 2 384 2001204777610833696708894912867952078278441409969503942666029068062015825245418932221343814564507832018947136279893=bM-1:=by kernel_rfl
theorem SY:Nat.beq (He bM 2 384 1334136518407222464472596608578634718852294273313002628444019378708010550163612621480895876376338554679298090853262) 1=false:=by kernel_rfl
theorem NB {s:F2} (h:s*s=xi):False:=by
 have e:=congrArg lD h
 rw[rA,Pp] at e
 have k:=KG (s:=lD s) (k:=2) (q:=2001204777610833696708894912867952078278441409969503942666029068062015825245418932221343814564507832018947136279893) (Odt (by kernel_rfl)) (by
  show 1*lD s*lD s=1+1
  rw[one_mul];exact e)
 have t:=QA
 rw[vi _ _ (by decide) 384 _ (Odt (by kernel_rfl)),k] at t
 exact absurd t (by decide)
theorem Xw {s:F2} (h:s*s*s=xi):False:=by
 have e:=congrArg lD h
 rw[rA,rA,Pp] at e
 have k:=KG (s:=lD s) (k:=3) (q:=1334136518407222464472596608578634718852294273313002628444019378708010550163612621480895876376338554679298090853262) (Odt (by kernel_rfl)) (by
  show 1*lD s*lD s*lD s=1+1
  rw[one_mul];exact e)
 have t:=SY
 rw[vi _ _ (by decide) 384 _ (Odt (by kernel_rfl)),k] at t
 exact absurd t (by decide)
theorem acz {F:Type} [Rg F] (a b c x:F):(a*(a*a-x*(b*c))+x*(c*(x*(c*c)-a*b)+b*(b*b-a*c)))*(x*(c*c*c)-b*b*b)=(x*(c*c)-a*b)*(x*(c*c)-a*b)*(x*(c*c)-a*b)+x*((c*a-b*b)*(c*a-b*b)*(c*a-b*b)) :=
 aL [a,b,c,x] ((fun (a b c x:PE)=>((a*(a*a-x*(b*c))+x*(c*(x*(c*c)-a*b)+b*(b*b-a*c)))*(x*(c*c*c)-b*b*b))) (.v 0) (.v 1) (.v 2) (.v 3)) ((fun (a b c x:PE)=>((x*(c*c)-a*b)*(x*(c*c)-a*b)*(x*(c*c)-a*b)+x*((c*a-b*b)*(c*a-b*b)*(c*a-b*b)))) (.v 0) (.v 1) (.v 2) (.v 3)) (by kernel_rfl)
theorem acy {F:Type} [Rg F] (a b x:F):a*(a*a-x*(b*0))+x*(0*(x*(0*0)-a*b)+b*(b*b-a*0))=a*a*a+x*(b*b*b) :=
 aL [a,b,x] ((fun (a b x:PE)=>(a*(a*a-x*(b*0))+x*(0*(x*(0*0)-a*b)+b*(b*b-a*0)))) (.v 0) (.v 1) (.v 2)) ((fun (a b x:PE)=>(a*a*a+x*(b*b*b))) (.v 0) (.v 1) (.v 2)) (by kernel_rfl)
theorem aft {F:Type} [Rg F] (a j:F):(- a*j)*(- a*j)*(- a*j)=-(a*a*a*(j*j*j)) :=
 aL [a,j] ((fun (a j:PE)=>((- a*j)*(- a*j)*(- a*j))) (.v 0) (.v 1)) ((fun (a j:PE)=>(-(a*a*a*(j*j*j)))) (.v 0) (.v 1)) (by kernel_rfl)
theorem afs {F:Type} [Rg F] (x c j:F):x*(c*c*c)*(j*j*j)=x*((c*j)*(c*j)*(c*j)) :=
 aL [x,c,j] ((fun (x c j:PE)=>(x*(c*c*c)*(j*j*j))) (.v 0) (.v 1) (.v 2)) ((fun (x c j:PE)=>(x*((c*j)*(c*j)*(c*j)))) (.v 0) (.v 1) (.v 2)) (by kernel_rfl)
theorem acA {F:Type} [Rg F] (b c a x:F):b*b*b-c*c*c*x=(-b)*(c*a-b*b)+(-c)*(x*(c*c)-a*b) :=
 aL [b,c,a,x] ((fun (b c a x:PE)=>(b*b*b-c*c*c*x)) (.v 0) (.v 1) (.v 2) (.v 3)) ((fun (b c a x:PE)=>((-b)*(c*a-b*b)+(-c)*(x*(c*c)-a*b))) (.v 0) (.v 1) (.v 2) (.v 3)) (by kernel_rfl)
theorem acB {F:Type} [Rg F] (b c j x:F):b*j*(b*j)*(b*j)-x*((c*j)*(c*j)*(c*j))=(j*j*j)*(b*b*b-c*c*c*x) :=
 aL [b,c,j,x] ((fun (b c j x:PE)=>(b*j*(b*j)*(b*j)-x*((c*j)*(c*j)*(c*j)))) (.v 0) (.v 1) (.v 2) (.v 3)) ((fun (b c j x:PE)=>((j*j*j)*(b*b*b-c*c*c*x))) (.v 0) (.v 1) (.v 2) (.v 3)) (by kernel_rfl)
theorem aeP {F:Type} [Rg F] (a b c x n:F):a*((a*a-x*(b*c))*n)+x*(b*((b*b-a*c)*n)+c*((x*(c*c)-a*b)*n))=(a*(a*a-x*(b*c))+x*(c*(x*(c*c)-a*b)+b*(b*b-a*c)))*n :=
 aL [a,b,c,x,n] ((fun (a b c x n:PE)=>(a*((a*a-x*(b*c))*n)+x*(b*((b*b-a*c)*n)+c*((x*(c*c)-a*b)*n)))) (.v 0) (.v 1) (.v 2) (.v 3) (.v 4)) ((fun (a b c x n:PE)=>((a*(a*a-x*(b*c))+x*(c*(x*(c*c)-a*b)+b*(b*b-a*c)))*n)) (.v 0) (.v 1) (.v 2) (.v 3) (.v 4)) (by kernel_rfl)
theorem aeQ {F:Type} [Rg F] (a b c x n:F):a*((x*(c*c)-a*b)*n)+b*((a*a-x*(b*c))*n)+x*(c*((b*b-a*c)*n))=0 :=
 aL [a,b,c,x,n] ((fun (a b c x n:PE)=>(a*((x*(c*c)-a*b)*n)+b*((a*a-x*(b*c))*n)+x*(c*((b*b-a*c)*n)))) (.v 0) (.v 1) (.v 2) (.v 3) (.v 4)) ((fun (a b c x n:PE)=>(0)) (.v 0) (.v 1) (.v 2) (.v 3) (.v 4)) (by kernel_rfl)
theorem aeR {F:Type} [Rg F] (a b c x n:F):a*((b*b-a*c)*n)+b*((x*(c*c)-a*b)*n)+c*((a*a-x*(b*c))*n)=0 :=
 aL [a,b,c,x,n] ((fun (a b c x n:PE)=>(a*((b*b-a*c)*n)+b*((x*(c*c)-a*b)*n)+c*((a*a-x*(b*c))*n))) (.v 0) (.v 1) (.v 2) (.v 3) (.v 4)) ((fun (a b c x n:PE)=>(0)) (.v 0) (.v 1) (.v 2) (.v 3) (.v 4)) (by kernel_rfl)
theorem acC {F:Type} [Rg F] (a b c x:F):(a*a+x*(b*c+c*b))*((a*a+x*(b*c+c*b))*(a*a+x*(b*c+c*b))-x*((a*b+b*a+x*(c*c))*(a*c+b*b+c*a)))+x*((a*c+b*b+c*a)*(x*((a*c+b*b+c*a)*(a*c+b*b+c*a))-(a*a+x*(b*c+c*b))*(a*b+b*a+x*(c*c)))+(a*b+b*a+x*(c*c))*((a*b+b*a+x*(c*c))*(a*b+b*a+x*(c*c))-(a*a+x*(b*c+c*b))*(a*c+b*b+c*a)))=(a*(a*a-x*(b*c))+x*(c*(x*(c*c)-a*b)+b*(b*b-a*c)))*(a*(a*a-x*(b*c))+x*(c*(x*(c*c)-a*b)+b*(b*b-a*c))) :=
 aL [a,b,c,x] ((fun (a b c x:PE)=>((a*a+x*(b*c+c*b))*((a*a+x*(b*c+c*b))*(a*a+x*(b*c+c*b))-x*((a*b+b*a+x*(c*c))*(a*c+b*b+c*a)))+x*((a*c+b*b+c*a)*(x*((a*c+b*b+c*a)*(a*c+b*b+c*a))-(a*a+x*(b*c+c*b))*(a*b+b*a+x*(c*c)))+(a*b+b*a+x*(c*c))*((a*b+b*a+x*(c*c))*(a*b+b*a+x*(c*c))-(a*a+x*(b*c+c*b))*(a*c+b*b+c*a))))) (.v 0) (.v 1) (.v 2) (.v 3)) ((fun (a b c x:PE)=>((a*(a*a-x*(b*c))+x*(c*(x*(c*c)-a*b)+b*(b*b-a*c)))*(a*(a*a-x*(b*c))+x*(c*(x*(c*c)-a*b)+b*(b*b-a*c))))) (.v 0) (.v 1) (.v 2) (.v 3)) (by kernel_rfl)
theorem acD {F:Type} [Rg F] (x:F):0*(0*0-x*(1*0))+x*(0*(x*(0*0)-0*1)+1*(1*1-0*0))=x :=
 aL [x] ((fun (x:PE)=>(0*(0*0-x*(1*0))+x*(0*(x*(0*0)-0*1)+1*(1*1-0*0)))) (.v 0)) ((fun (x:PE)=>(x)) (.v 0)) (by kernel_rfl)
section
variable {R:Type} [Fd R] (x:R)
theorem Tp (hx:∀ s:R,s*s*s=x->False) {a c:R} (h:a*a*a+x*(c*c*c)=0):a=0/\c=0:=by
 have hc:c=0:=by
  refine Classical.byContradiction fun hc=>?_
  have hi:=mul_inv c hc
  refine hx (-a*inv c) ?_
  have e:a*a*a=-(x*(c*c*c)):=by
   have:=neg_eq h
   rw[<- this,neg_neg]
  rw[aft,e,neg_mul,neg_neg]
  have:x*(c*c*c)*(inv c*inv c*inv c)=x*((c*inv c)*(c*inv c)*(c*inv c)):=afs _ _ _
  rw[this,hi,one_mul,one_mul,mul_one]
 refine⟨?_,hc⟩
 rw[hc,mul_zero,mul_zero,add_zero] at h
 rcases mul_eq_zero h with h|h
 ·rcases mul_eq_zero h with h|h<;>exact h
 ·exact h
def Dl (t:R × R × R):R × R × R:=(t.1*t.1-x*(t.2.1*t.2.2),x*(t.2.2*t.2.2)-t.1*t.2.1,t.2.1*t.2.1-t.1*t.2.2)
def uQ (t:R × R × R):R:=t.1*(t.1*t.1-x*(t.2.1*t.2.2))+x*(t.2.2*(x*(t.2.2*t.2.2)-t.1*t.2.1)+t.2.1*(t.2.1*t.2.1-t.1*t.2.2))
theorem X4 (hx:∀ s:R,s*s*s=x->False) {t:R × R × R} (h:t≠(0,0,0)):uQ x t≠0:=by
 intro e
 unfold uQ at e
 by_cases hc:t.2.2=0
 ·rw[hc,acy] at e
  obtain⟨h1,h2⟩:=Tp x hx e
  exact h (AL h1 h2 hc)
 ·have k:=acz t.1 t.2.1 t.2.2 x
  rw[e,zero_mul] at k
  obtain⟨h1,h2⟩:=Tp x hx k.symm
  have hi:=mul_inv _ hc
  refine hx (t.2.1*inv t.2.2) (bq ?_)
  have p:=acA t.2.1 t.2.2 t.1 x
  rw[h1,h2,mul_zero,mul_zero,add_zero] at p
  have q:=acB t.2.1 t.2.2 (inv t.2.2) x
  rw[p,mul_zero,hi,one_mul,one_mul,mul_one] at q
  exact q
noncomputable def LU (t:R × R × R):R × R × R:=cr ((Dl x t).1*inv (uQ x t),(Dl x t).2.1*inv (uQ x t),(Dl x t).2.2*inv (uQ x t))
theorem F7 (t:R × R × R):LU x t=((Dl x t).1*inv (uQ x t),(Dl x t).2.1*inv (uQ x t),(Dl x t).2.2*inv (uQ x t)):=ay _
theorem QW (hx:∀ s:R,s*s*s=x->False) {t:R × R × R} (h:t≠(0,0,0)):mY x t (LU x t)=(1,0,0):=by
 have hn:=mul_inv _ (X4 x hx h)
 rw[gk,F7]
 exact AL ((aeP _ _ _ _ _).trans hn) (aeQ _ _ _ _ _) (aeR _ _ _ _ _)
theorem X5 (t:R × R × R):uQ x (mY x t t)=uQ x t*uQ x t:=by
 rw[gk]
 exact acC t.1 t.2.1 t.2.2 x
theorem abB:uQ x ((0:R),(1:R),(0:R))=x:=acD x
end
noncomputable abbrev Pq (t:F6):F2:=uQ xi t
noncomputable abbrev afd (t:F6):F6:=LU xi t
noncomputable instance fdF6:Fd F6 where
 deq:=inferInstanceAs (DecidableEq (F2 × F2 × F2))
 inv:=afd
 mul_inv _ h:=QW xi (fun _ e=>Xw e) h
 one_ne:=fun h=>absurd (congrArg Prod.fst h) one_ne
 two_ne:=fun h=>absurd (congrArg Prod.fst h) (by rw[F6.add_def];exact two_ne)
 three_ne:=fun h=>absurd (congrArg Prod.fst h) (by rw[F6.add_def,F6.add_def];exact three_ne)
end Cr
namespace Cr
open Rg
section
variable {F:Type} [Rg F]
def az (x:F):Nat->F
 | 0=>1
 | n+1=>az x n*x
theorem dZ (x:F) (m n:Nat):az x (m+n)=az x m*az x n:=by
 induction n with
 | zero=>show az x m=az x m*1;rw[mul_one]
 | succ n ih=>show az x (m+n)*x=az x m*(az x n*x);rw[ih,mul_assoc]
theorem bz (x:F) (m n:Nat):az x (m*n)=az (az x m) n:=by
 induction n with
 | zero=>rfl
 | succ n ih=>show az x (m*n+m)=az (az x m) n*az x m;rw[dZ,ih]
theorem jQ (x y:F) (n:Nat):az (x*y) n=az x n*az y n:=by
 induction n with
 | zero=>show (1:F)=1*1;rw[one_mul]
 | succ n ih =>
  show az (x*y) n*(x*y)=az x n*x*(az y n*y)
  rw[ih,mul_assoc,mul_assoc,<- mul_assoc (az y n),mul_comm (az y n),mul_assoc x]
theorem fY (n:Nat):az (1:F) n=1:=by
 induction n with
 | zero=>rfl
 | succ n ih=>show az (1:F) n*1=1;rw[ih,mul_one]
def dS (f:Nat->F):Nat->F
 | 0=>0
 | n+1=>dS f n+f n
theorem rf {f g:Nat->F}:∀ n,(∀ k,k<n->f k=g k)->dS f n=dS g n
 | 0,_=>rfl
 | n+1,h=>by show dS f n+f n=dS g n+g n;rw[rf n (fun k hk=>h k (by omega)),h n (by omega)]
theorem Ii (f g:Nat->F):∀ n,dS (fun k=>f k+g k) n=dS f n+dS g n
 | 0=>by show (0:F)=0+0;rw[zero_add]
 | n+1=>by show dS _ n+(f n+g n)=dS f n+f n+(dS g n+g n);rw[Ii f g n,uf]
theorem Bw (f:Nat->F) (c:F):∀ n,dS f n*c=dS (fun k=>f k*c) n
 | 0=>zero_mul c
 | n+1=>by show (dS f n+f n)*c=_+f n*c;rw[add_mul,Bw f c n]
theorem rh (f:Nat->F):∀ n,dS f (n+1)=f 0+dS (fun k=>f (k+1)) n
 | 0=>by show 0+f 0=f 0+0;rw[zero_add,add_zero]
 | n+1=>by show dS f (n+1)+f (n+1)=f 0+(dS _ n+f (n+1));rw[rh f n,add_assoc]
theorem E3 {f:Nat->F}:∀ n,(∀ k,k<n->f k=0)->dS f n=0
 | 0,_=>rfl
 | n+1,h=>by show dS f n+f n=0;rw[E3 n (fun k hk=>h k (by omega)),h n (by omega),zero_add]
def bc:Nat->Nat->Nat
 | _,0=>1
 | 0,_+1=>0
 | n+1,k+1=>bc n k+bc n (k+1)
theorem BQ:∀ n k,n<k->bc n k=0
 | 0,k+1,_=>rfl
 | n+1,k+1,h=>by show bc n k+bc n (k+1)=0;rw[BQ n k (by omega),BQ n (k+1) (by omega)]
theorem Jw:∀ n,bc n n=1
 | 0=>rfl
 | n+1=>by show bc n n+bc n (n+1)=1;rw[Jw n,BQ n (n+1) (by omega)]
theorem zf (n:Nat):bc n 0=1:=by cases n<;>rfl
theorem BP:∀ n k,(k+1)*bc (n+1) (k+1)=(n+1)*bc n k
 | 0,0=>rfl
 | 0,k+1=>by show (k+2)*(bc 0 (k+1)+bc 0 (k+2))=_;rfl
 | n+1,0=>by
  have h:=BP n 0
  show 1*(bc (n+1) 0+bc (n+1) 1)=(n+2)*bc (n+1) 0
  rw[zf] at h ⊢
  have h:1*bc (n+1) 1=(n+1)*1:=h
  omega
 | n+1,k+1=>by
  have h1:=BP n k
  have h2:=BP n (k+1)
  show (k+2)*(bc (n+1) (k+1)+bc (n+1) (k+2))=(n+2)*bc (n+1) (k+1)
  have h3:bc (n+1) (k+1)=bc n k+bc n (k+1):=rfl
  have e1:(k+2)*(bc (n+1) (k+1)+bc (n+1) (k+2))=(k+1)*bc (n+1) (k+1)+bc (n+1) (k+1)+(k+2)*bc (n+1) (k+2):=by
   rw[Nat.mul_add,show (k+2)*bc (n+1) (k+1)=(k+1)*bc (n+1) (k+1)+bc (n+1) (k+1) by rw[<- Nat.succ_mul]]
  have e2:(n+2)*bc (n+1) (k+1)=(n+1)*bc n k+(n+1)*bc n (k+1)+bc (n+1) (k+1):=by
   rw[show (n+2)*bc (n+1) (k+1)=(n+1)*bc (n+1) (k+1)+bc (n+1) (k+1) by rw[<- Nat.succ_mul],h3,Nat.mul_add]
  rw[e1,e2,h1,h2]
  omega
theorem ER (x y:F):∀ n,az (x+y) n=dS (fun k=>nc (bc n k)*(az x k*az y (n-k))) (n+1)
 | 0=>by
  show (1:F)=0+nc 1*(1*1)
  have:(nc 1:F)=1:=by show (0:F)+1=1;rw[zero_add]
  rw[this,one_mul,one_mul,zero_add]
 | n+1=>by
  have ih:=ER x y n
  show az (x+y) n*(x+y)=_
  rw[mul_add,ih,Bw,Bw,rh _ (n+1)]
  have a0:nc (bc (n+1) 0)*(az x 0*az y (n+1-0))=az y (n+1):=by
   have:(nc 1:F)=1:=by show (0:F)+1=1;rw[zero_add]
   rw[zf,this,one_mul]
   show 1*az y (n+1)=_
   rw[one_mul]
  have a1:dS (fun k=>nc (bc (n+1) (k+1))*(az x (k+1)*az y (n+1-(k+1)))) (n+1) =
    dS (fun k=>nc (bc n k)*(az x (k+1)*az y (n-k))) (n+1)+dS (fun k=>nc (bc n (k+1))*(az x (k+1)*az y (n-k))) (n+1):=by
   rw[<- Ii]
   refine rf _ fun k _=>?_
   show nc (bc n k+bc n (k+1))*_=_
   rw[qC,add_mul,Nat.add_sub_add_right]
  have a2:dS (fun k=>nc (bc n k)*(az x k*az y (n-k))*x) (n+1)=dS (fun k=>nc (bc n k)*(az x (k+1)*az y (n-k))) (n+1):=by
   refine rf _ fun k _=>?_
   show nc (bc n k)*(az x k*az y (n-k))*x=nc (bc n k)*(az x k*x*az y (n-k))
   rw[mul_assoc,mul_assoc,mul_assoc,mul_comm (az y (n-k)) x]
  have a3:dS (fun k=>nc (bc n k)*(az x k*az y (n-k))*y) (n+1)=az y (n+1)+dS (fun k=>nc (bc n (k+1))*(az x (k+1)*az y (n-k))) (n+1):=by
   rw[rh]
   have b0:nc (bc n 0)*(az x 0*az y (n-0))*y=az y (n+1):=by
    have:(nc 1:F)=1:=by show (0:F)+1=1;rw[zero_add]
    rw[zf,this,one_mul]
    show 1*az y n*y=az y n*y
    rw[one_mul]
   have b1:dS (fun k=>nc (bc n (k+1))*(az x (k+1)*az y (n-k))) (n+1)=dS (fun k=>nc (bc n (k+1))*(az x (k+1)*az y (n-k))) n:=by
    show _+nc (bc n (n+1))*_=_
    rw[BQ n (n+1) (by omega)]
    show _+(0:F)*_=_
    rw[zero_mul,add_zero]
   rw[b0,b1]
   congr 1
   refine rf _ fun k hk=>?_
   have e:n-k=n-(k+1)+1:=by omega
   rw[e]
   show nc _*(_*_)*y=nc _*(_*(az y (n-(k+1))*y))
   rw[mul_assoc,mul_assoc]
  rw[a0,a1,a2,a3]
  generalize dS (fun k=>nc (bc n k)*(az x (k+1)*az y (n-k))) (n+1)=A
  generalize dS (fun k=>nc (bc n (k+1))*(az x (k+1)*az y (n-k))) (n+1)=B
  rw[<- add_assoc,<- add_assoc,add_comm A]
theorem XK {p:Nat} (hp:dr p) {k:Nat} (h0:0<k) (h1:k<p):p∣bc p k:=by
 obtain⟨k,rfl⟩:∃ j,k=j+1:=⟨k-1,by omega⟩
 obtain⟨n,rfl⟩:∃ m,p=m+1:=⟨p-1,by omega⟩
 have h:=BP n k
 have hd:(n+1)∣(k+1)*bc (n+1) (k+1):=⟨_,h⟩
 rcases hp.dvd_mul hd with h2|h2
 ·exact absurd (Nat.le_of_dvd (by omega) h2) (by omega)
 ·exact h2
theorem zS {p:Nat} (hp:dr p) (h0:(nc p:F)=0) (x y:F):az (x+y) p=az x p+az y p:=by
 have hp1:1<p:=hp.1
 obtain⟨n,rfl⟩:∃ m,p=m+1:=⟨p-1,by omega⟩
 have n1:(nc 1:F)=1:=by show (0:F)+1=1;rw[zero_add]
 rw[ER,rh]
 show _+(dS _ n+_)=_
 have e1:dS (fun k=>nc (bc (n+1) (k+1))*(az x (k+1)*az y (n+1-(k+1)))) n=0:=by
  refine E3 _ fun k hk=>?_
  obtain⟨c,hc⟩:=XK hp (show 0<k+1 by omega) (show k+1<n+1 by omega)
  show nc (bc (n+1) (k+1))*_=0
  rw[hc,ym,h0,zero_mul,zero_mul]
 rw[e1]
 show nc (bc (n+1) 0)*(az x 0*az y (n+1-0))+(0+nc (bc (n+1) (n+1))*(az x (n+1)*az y (n+1-(n+1))))=_
 rw[zero_add,zf,Jw,n1,one_mul,one_mul,Nat.sub_self,Nat.sub_zero]
 show 1*az y (n+1)+az x (n+1)*1=_
 rw[one_mul,mul_one,add_comm]
end
end Cr
namespace Cr
open Rg Fd Go.Eng
abbrev aE:=F6 × F6
def vv:F6:=((0:F2),(1:F2),(0:F2))
theorem agH {F:Type} [Rg F] (a b c x:F):0*a+x*(1*c+0*b)=x*c :=
 aL [a,b,c,x] ((fun (a b c x:PE)=>(0*a+x*(1*c+0*b))) (.v 0) (.v 1) (.v 2) (.v 3)) ((fun (a b c x:PE)=>(x*c)) (.v 0) (.v 1) (.v 2) (.v 3)) (by kernel_rfl)
theorem agI {F:Type} [Rg F] (a b c x:F):0*b+1*a+x*(0*c)=a :=
 aL [a,b,c,x] ((fun (a b c x:PE)=>(0*b+1*a+x*(0*c))) (.v 0) (.v 1) (.v 2) (.v 3)) ((fun (a b c x:PE)=>(a)) (.v 0) (.v 1) (.v 2) (.v 3)) (by kernel_rfl)
theorem agJ {F:Type} [Rg F] (a b c:F):0*c+1*b+0*a=b :=
 aL [a,b,c] ((fun (a b c:PE)=>(0*c+1*b+0*a)) (.v 0) (.v 1) (.v 2)) ((fun (a b c:PE)=>(b)) (.v 0) (.v 1) (.v 2)) (by kernel_rfl)
section
variable {R:Type} [Rg R] (v:R)
theorem X7 (x:R × R × R):mY v (0,1,0) x=(v*x.2.2,x.1,x.2.1):=by rw[gk];exact AL (agH _ _ _ _) (agI _ _ _ _) (agJ _ _ _)
end
theorem CY (x:F6):vv*x=(xi*x.2.2,x.1,x.2.1):=X7 xi x
theorem acR {F:Type} [Rg F] (a b c d v:F):a*c+v*(b*d)=c*a+v*(d*b) :=
 aL [a,b,c,d,v] ((fun (a b c d v:PE)=>(a*c+v*(b*d))) (.v 0) (.v 1) (.v 2) (.v 3) (.v 4)) ((fun (a b c d v:PE)=>(c*a+v*(d*b))) (.v 0) (.v 1) (.v 2) (.v 3) (.v 4)) (by kernel_rfl)
theorem acS {F:Type} [Rg F] (a b c d:F):a*d+b*c=c*b+d*a :=
 aL [a,b,c,d] ((fun (a b c d:PE)=>(a*d+b*c)) (.v 0) (.v 1) (.v 2) (.v 3)) ((fun (a b c d:PE)=>(c*b+d*a)) (.v 0) (.v 1) (.v 2) (.v 3)) (by kernel_rfl)
theorem acP {F:Type} [Rg F] (a b c d e f v:F):(a*c+v*(b*d))*e+v*((a*d+b*c)*f)=a*(c*e+v*(d*f))+v*(b*(c*f+d*e)) :=
 aL [a,b,c,d,e,f,v] ((fun (a b c d e f v:PE)=>((a*c+v*(b*d))*e+v*((a*d+b*c)*f))) (.v 0) (.v 1) (.v 2) (.v 3) (.v 4) (.v 5) (.v 6)) ((fun (a b c d e f v:PE)=>(a*(c*e+v*(d*f))+v*(b*(c*f+d*e)))) (.v 0) (.v 1) (.v 2) (.v 3) (.v 4) (.v 5) (.v 6)) (by kernel_rfl)
theorem acQ {F:Type} [Rg F] (a b c d e f v:F):(a*c+v*(b*d))*f+(a*d+b*c)*e=a*(c*f+d*e)+b*(c*e+v*(d*f)) :=
 aL [a,b,c,d,e,f,v] ((fun (a b c d e f v:PE)=>((a*c+v*(b*d))*f+(a*d+b*c)*e)) (.v 0) (.v 1) (.v 2) (.v 3) (.v 4) (.v 5) (.v 6)) ((fun (a b c d e f v:PE)=>(a*(c*f+d*e)+b*(c*e+v*(d*f)))) (.v 0) (.v 1) (.v 2) (.v 3) (.v 4) (.v 5) (.v 6)) (by kernel_rfl)
theorem afP {F:Type} [Rg F] (a b v:F):1*a+v*(0*b)=a :=
 aL [a,b,v] ((fun (a b v:PE)=>(1*a+v*(0*b))) (.v 0) (.v 1) (.v 2)) ((fun (a b v:PE)=>(a)) (.v 0) (.v 1) (.v 2)) (by kernel_rfl)
theorem afQ {F:Type} [Rg F] (a b:F):1*b+0*a=b :=
 aL [a,b] ((fun (a b:PE)=>(1*b+0*a)) (.v 0) (.v 1)) ((fun (a b:PE)=>(b)) (.v 0) (.v 1)) (by kernel_rfl)
theorem afB {F:Type} [Rg F] (a b c d e f v:F):(a+c)*e+v*((b+d)*f)=a*e+v*(b*f)+(c*e+v*(d*f)) :=
 aL [a,b,c,d,e,f,v] ((fun (a b c d e f v:PE)=>((a+c)*e+v*((b+d)*f))) (.v 0) (.v 1) (.v 2) (.v 3) (.v 4) (.v 5) (.v 6)) ((fun (a b c d e f v:PE)=>(a*e+v*(b*f)+(c*e+v*(d*f)))) (.v 0) (.v 1) (.v 2) (.v 3) (.v 4) (.v 5) (.v 6)) (by kernel_rfl)
theorem afC {F:Type} [Rg F] (a b c d e f:F):(a+c)*f+(b+d)*e=a*f+b*e+(c*f+d*e) :=
 aL [a,b,c,d,e,f] ((fun (a b c d e f:PE)=>((a+c)*f+(b+d)*e)) (.v 0) (.v 1) (.v 2) (.v 3) (.v 4) (.v 5)) ((fun (a b c d e f:PE)=>(a*f+b*e+(c*f+d*e))) (.v 0) (.v 1) (.v 2) (.v 3) (.v 4) (.v 5)) (by kernel_rfl)
section
variable {R:Type} [Rg R] (v:R)
noncomputable def pT (x y:R × R):R × R:=cr (x.1+y.1,x.2+y.2)
noncomputable def Sv (x y:R × R):R × R:=cr (x.1-y.1,x.2-y.2)
noncomputable def MY (x:R × R):R × R:=cr (-x.1,-x.2)
noncomputable def pU (x y:R × R):R × R:=cr (x.1*y.1+v*(x.2*y.2),x.1*y.2+x.2*y.1)
theorem iw (x y:R × R):pT x y=(x.1+y.1,x.2+y.2):=ay _
theorem HM (x y:R × R):Sv x y=(x.1-y.1,x.2-y.2):=ay _
theorem Bl (x:R × R):MY x=(-x.1,-x.2):=ay _
theorem ix (x y:R × R):pU v x y=(x.1*y.1+v*(x.2*y.2),x.1*y.2+x.2*y.1):=ay _
theorem afF (a b:R × R):pT a b=pT b a:=by rw[iw,iw,add_comm,add_comm a.2]
theorem afG (a b c:R × R):pT (pT a b) c=pT a (pT b c):=by rw[iw,iw,iw,iw,add_assoc,add_assoc]
theorem afH (a:R × R):pT (0,0) a=a:=by rw[iw,zero_add,zero_add]
theorem afI (a:R × R):pT (MY a) a=(0,0):=by rw[iw,Bl,neg_add,neg_add]
theorem afJ (a b:R × R):Sv a b=pT a (MY b):=by rw[iw,Bl,HM,Rg.sub_def,Rg.sub_def]
theorem afK (a b:R × R):pU v a b=pU v b a:=by rw[ix,ix];exact Prod.ext (acR a.1 a.2 b.1 b.2 v) (acS a.1 a.2 b.1 b.2)
theorem afL (a b c:R × R):pU v (pU v a b) c=pU v a (pU v b c):=by rw[ix,ix,ix,ix];exact Prod.ext (acP a.1 a.2 b.1 b.2 c.1 c.2 v) (acQ a.1 a.2 b.1 b.2 c.1 c.2 v)
theorem afM (a:R × R):pU v (1,0) a=a:=by rw[ix];exact Prod.ext (afP a.1 a.2 v) (afQ a.1 a.2)
theorem afN (a b c:R × R):pU v (pT a b) c=pT (pU v a c) (pU v b c):=by rw[iw,ix,ix,ix,iw];exact Prod.ext (afB a.1 a.2 b.1 b.2 c.1 c.2 v) (afC a.1 a.2 b.1 b.2 c.1 c.2)
end
noncomputable instance rgF12:Rg aE where
 zero:=(0,0)
 one:=(1,0)
 add:=pT
 sub:=Sv
 neg:=MY
 mul:=pU vv
 add_comm:=afF
 add_assoc:=afG
 zero_add:=afH
 neg_add:=afI
 sub_def:=afJ
 mul_comm:=afK vv
 mul_assoc:=afL vv
 one_mul:=afM vv
 add_mul:=afN vv
theorem aE.ext {x y:aE} (h1:x.1=y.1) (h2:x.2=y.2):x=y:=Prod.ext h1 h2
theorem aE.add_def (x y:aE):x+y=(x.1+y.1,x.2+y.2):=iw x y
theorem aE.sub_def (x y:aE):x-y=(x.1-y.1,x.2-y.2):=HM x y
theorem aE.neg_def (x:aE) : -x=(-x.1,-x.2):=Bl x
theorem aE.mul_def (x y:aE):x*y=(x.1*y.1+vv*(x.2*y.2),x.1*y.2+x.2*y.1):=ix vv x y
theorem aE.a1 (x y:aE):(x+y).1=x.1+y.1:=by rw[aE.add_def]
theorem aE.a2 (x y:aE):(x+y).2=x.2+y.2:=by rw[aE.add_def]
theorem aE.m1 (x y:aE):(x*y).1=x.1*y.1+vv*(x.2*y.2):=by rw[aE.mul_def]
theorem aE.m2 (x y:aE):(x*y).2=x.1*y.2+x.2*y.1:=by rw[aE.mul_def]
theorem Z1 (t:F6):Pq (t*t)=Pq t*Pq t:=X5 xi t
theorem Z2:Pq vv=xi:=abB xi
theorem adv {t:F6} (h:t*t=vv):False:=by
 have e:=congrArg Pq h
 rw[Z1,Z2] at e
 exact NB e
theorem afO {F:Type} [Rg F] (a b j v:F):(a*j)*(a*j)-v=(j*j)*(a*a-v*(b*b))+v*((b*j)*(b*j)-1) :=
 aL [a,b,j,v] ((fun (a b j v:PE)=>((a*j)*(a*j)-v)) (.v 0) (.v 1) (.v 2) (.v 3)) ((fun (a b j v:PE)=>((j*j)*(a*a-v*(b*b))+v*((b*j)*(b*j)-1))) (.v 0) (.v 1) (.v 2) (.v 3)) (by kernel_rfl)
theorem afD {F:Type} [Rg F] (a b n v:F):a*(a*n)+v*(b * -(b*n))=(a*a-v*(b*b))*n :=
 aL [a,b,n,v] ((fun (a b n v:PE)=>(a*(a*n)+v*(b * -(b*n)))) (.v 0) (.v 1) (.v 2) (.v 3)) ((fun (a b n v:PE)=>((a*a-v*(b*b))*n)) (.v 0) (.v 1) (.v 2) (.v 3)) (by kernel_rfl)
theorem afE {F:Type} [Rg F] (a b n:F):a * -(b*n)+b*(a*n)=0 :=
 aL [a,b,n] ((fun (a b n:PE)=>(a * -(b*n)+b*(a*n))) (.v 0) (.v 1) (.v 2)) ((fun (a b n:PE)=>(0)) (.v 0) (.v 1) (.v 2)) (by kernel_rfl)
section
variable {R:Type} [Fd R] (v:R)
theorem aax (hv:∀ t:R,t*t=v->False) {x:R × R} (h:x≠(0,0)):x.1*x.1-v*(x.2*x.2)≠0:=by
 intro e
 by_cases hb:x.2=0
 ·rw[hb,mul_zero,mul_zero,Rg.sub_def,neg_zero,add_zero] at e
  have ha:x.1=0:=by rcases mul_eq_zero e with e|e<;>exact e
  exact h (Prod.ext ha hb)
 ·have hi:=mul_inv x.2 hb
  refine hv (x.1*inv x.2) (bq ?_)
  have k:=afO x.1 x.2 (inv x.2) v
  rw[e,hi,one_mul,sub_self,mul_zero,mul_zero,zero_add] at k
  exact k
noncomputable def MX (x:R × R):R × R:=cr (x.1*inv (x.1*x.1-v*(x.2*x.2)),-(x.2*inv (x.1*x.1-v*(x.2*x.2))))
theorem HK (x:R × R):MX v x=(x.1*inv (x.1*x.1-v*(x.2*x.2)),-(x.2*inv (x.1*x.1-v*(x.2*x.2)))):=ay _
theorem Su (hv:∀ t:R,t*t=v->False) {x:R × R} (h:x≠(0,0)):pU v x (MX v x)=(1,0):=by
 have hn:=mul_inv _ (aax v hv h)
 rw[ix,HK]
 exact Prod.ext ((afD _ _ _ _).trans hn) (afE _ _ _)
end
noncomputable abbrev aco (t:aE):aE:=MX vv t
noncomputable instance fdF12:Fd aE where
 deq:=inferInstanceAs (DecidableEq (F6 × F6))
 inv:=aco
 mul_inv _ h:=Su vv (fun _ e=>adv e) h
 one_ne:=fun h=>absurd (congrArg Prod.fst h) one_ne
 two_ne:=fun h=>absurd (congrArg Prod.fst h) (by rw[aE.add_def];exact two_ne)
 three_ne:=fun h=>absurd (congrArg Prod.fst h) (by rw[aE.add_def,aE.add_def];exact three_ne)
end Cr
namespace Cr
open Rg Fd
theorem agi {F:Type} [Rg F] (a b c d e f x:F):a*d+x*((b+c)*(e+f)-b*e-c*f)=a*d+x*(b*f+c*e) :=
 aL [a,b,c,d,e,f,x] ((fun (a b c d e f x:PE)=>(a*d+x*((b+c)*(e+f)-b*e-c*f))) (.v 0) (.v 1) (.v 2) (.v 3) (.v 4) (.v 5) (.v 6)) ((fun (a b c d e f x:PE)=>(a*d+x*(b*f+c*e))) (.v 0) (.v 1) (.v 2) (.v 3) (.v 4) (.v 5) (.v 6)) (by kernel_rfl)
theorem agj {F:Type} [Rg F] (a b c d e f x:F):((a+b)*(d+e)-a*d-b*e)+x*(c*f)=a*e+b*d+x*(c*f) :=
 aL [a,b,c,d,e,f,x] ((fun (a b c d e f x:PE)=>(((a+b)*(d+e)-a*d-b*e)+x*(c*f))) (.v 0) (.v 1) (.v 2) (.v 3) (.v 4) (.v 5) (.v 6)) ((fun (a b c d e f x:PE)=>(a*e+b*d+x*(c*f))) (.v 0) (.v 1) (.v 2) (.v 3) (.v 4) (.v 5) (.v 6)) (by kernel_rfl)
theorem agk {F:Type} [Rg F] (a b c d e f:F):((a+c)*(d+f)-a*d-c*f)+b*e=a*f+b*e+c*d :=
 aL [a,b,c,d,e,f] ((fun (a b c d e f:PE)=>(((a+c)*(d+f)-a*d-c*f)+b*e)) (.v 0) (.v 1) (.v 2) (.v 3) (.v 4) (.v 5)) ((fun (a b c d e f:PE)=>(a*f+b*e+c*d)) (.v 0) (.v 1) (.v 2) (.v 3) (.v 4) (.v 5)) (by kernel_rfl)
theorem Qz (x y:F6):((x.1*y.1+xi*((x.2.1+x.2.2)*(y.2.1+y.2.2)-x.2.1*y.2.1-x.2.2*y.2.2),((x.1+x.2.1)*(y.1+y.2.1)-x.1*y.1-x.2.1*y.2.1)+xi*(x.2.2*y.2.2),((x.1+x.2.2)*(y.1+y.2.2)-x.1*y.1-x.2.2*y.2.2)+x.2.1*y.2.1):F6)=x*y:=by
 rw[F6.mul_def,agi,agj,agk]
theorem adi {F:Type} [Rg F] (a b c d e x:F):a*d+x*(c*e)=a*d+x*(b*0+c*e) :=
 aL [a,b,c,d,e,x] ((fun (a b c d e x:PE)=>(a*d+x*(c*e))) (.v 0) (.v 1) (.v 2) (.v 3) (.v 4) (.v 5)) ((fun (a b c d e x:PE)=>(a*d+x*(b*0+c*e))) (.v 0) (.v 1) (.v 2) (.v 3) (.v 4) (.v 5)) (by kernel_rfl)
theorem adj {F:Type} [Rg F] (a b c d e x:F):(a+b)*(d+e)-a*d-b*e=a*e+b*d+x*(c*0) :=
 aL [a,b,c,d,e,x] ((fun (a b c d e x:PE)=>((a+b)*(d+e)-a*d-b*e)) (.v 0) (.v 1) (.v 2) (.v 3) (.v 4) (.v 5)) ((fun (a b c d e x:PE)=>(a*e+b*d+x*(c*0))) (.v 0) (.v 1) (.v 2) (.v 3) (.v 4) (.v 5)) (by kernel_rfl)
theorem adk {F:Type} [Rg F] (a b c d e:F):b*e+c*d=a*0+b*e+c*d :=
 aL [a,b,c,d,e] ((fun (a b c d e:PE)=>(b*e+c*d)) (.v 0) (.v 1) (.v 2) (.v 3) (.v 4)) ((fun (a b c d e:PE)=>(a*0+b*e+c*d)) (.v 0) (.v 1) (.v 2) (.v 3) (.v 4)) (by kernel_rfl)
theorem Xr (x:F6) (a b:F2):((x.1*a+xi*(x.2.2*b),(x.1+x.2.1)*(a+b)-x.1*a-x.2.1*b,x.2.1*b+x.2.2*a):F6)=x*((a,b,0):F6):=by
 rw[F6.mul_def,adi x.1 x.2.1 x.2.2 a b xi,adj x.1 x.2.1 x.2.2 a b xi,adk x.1 x.2.1 x.2.2 a b]
theorem adl {F:Type} [Rg F] (a b c k x:F):a*k=a*k+x*(b*0+c*0) :=
 aL [a,b,c,k,x] ((fun (a b c k x:PE)=>(a*k)) (.v 0) (.v 1) (.v 2) (.v 3) (.v 4)) ((fun (a b c k x:PE)=>(a*k+x*(b*0+c*0))) (.v 0) (.v 1) (.v 2) (.v 3) (.v 4)) (by kernel_rfl)
theorem adm {F:Type} [Rg F] (a b c k x:F):b*k=a*0+b*k+x*(c*0) :=
 aL [a,b,c,k,x] ((fun (a b c k x:PE)=>(b*k)) (.v 0) (.v 1) (.v 2) (.v 3) (.v 4)) ((fun (a b c k x:PE)=>(a*0+b*k+x*(c*0))) (.v 0) (.v 1) (.v 2) (.v 3) (.v 4)) (by kernel_rfl)
theorem adn {F:Type} [Rg F] (a b c k:F):c*k=a*0+b*0+c*k :=
 aL [a,b,c,k] ((fun (a b c k:PE)=>(c*k)) (.v 0) (.v 1) (.v 2) (.v 3)) ((fun (a b c k:PE)=>(a*0+b*0+c*k)) (.v 0) (.v 1) (.v 2) (.v 3)) (by kernel_rfl)
theorem Iv (x:F6) (k:F2):((x.1*k,x.2.1*k,x.2.2*k):F6)=x*((k,0,0):F6):=by
 rw[F6.mul_def,<- adl,<- adm,<- adn]
theorem abk (x:F6):((x.1*x.1-xi*(x.2.1*x.2.2),xi*(x.2.2*x.2.2)-x.1*x.2.1,x.2.1*x.2.1-x.1*x.2.2):F6)*((inv (x.1*(x.1*x.1-xi*(x.2.1*x.2.2))+xi*(x.2.2*(xi*(x.2.2*x.2.2)-x.1*x.2.1)+x.2.1*(x.2.1*x.2.1-x.1*x.2.2))),0,0):F6)=inv x:=by
 rw[<- Iv]
 show _=LU xi x
 rw[F7];rfl
theorem adb {F:Type} [Rg F] (a b c d v:F):(a+b)*(c+d)-a*c-b*d=a*d+b*c :=
 aL [a,b,c,d,v] ((fun (a b c d v:PE)=>((a+b)*(c+d)-a*c-b*d)) (.v 0) (.v 1) (.v 2) (.v 3) (.v 4)) ((fun (a b c d v:PE)=>(a*d+b*c)) (.v 0) (.v 1) (.v 2) (.v 3) (.v 4)) (by kernel_rfl)
theorem Lr (x y:aE):((x.1*y.1+vv*(x.2*y.2),(x.1+x.2)*(y.1+y.2)-x.1*y.1-x.2*y.2):aE)=x*y:=by
 rw[aE.mul_def,adb x.1 x.2 y.1 y.2 vv]
theorem ade {F:Type} [Rg F] (a b v:F):(a+b)*(a+v*b)-a*b-v*(a*b)=a*a+v*(b*b) :=
 aL [a,b,v] ((fun (a b v:PE)=>((a+b)*(a+v*b)-a*b-v*(a*b))) (.v 0) (.v 1) (.v 2)) ((fun (a b v:PE)=>(a*a+v*(b*b))) (.v 0) (.v 1) (.v 2)) (by kernel_rfl)
theorem adf {F:Type} [Rg F] (a b:F):a*b+a*b=a*b+b*a :=
 aL [a,b] ((fun (a b:PE)=>(a*b+a*b)) (.v 0) (.v 1)) ((fun (a b:PE)=>(a*b+b*a)) (.v 0) (.v 1)) (by kernel_rfl)
theorem Qy (x:aE):(((x.1+x.2)*(x.1+vv*x.2)-x.1*x.2-vv*(x.1*x.2),x.1*x.2+x.1*x.2):aE)=x*x:=by
 rw[aE.mul_def,ade x.1 x.2 vv,adf x.1 x.2]
noncomputable def r6 (x:aE):aE:=(x.1,-x.2)
theorem jF {R:Type} [Rg R] (b:R):0-b=-b:=by rw[Rg.sub_def,zero_add]
theorem Xo (x:aE):((x.1,(0:F6)-x.2):aE)=r6 x:=by rw[jF];rfl
theorem Xp (x:aE):((x.1*inv (x.1*x.1-vv*(x.2*x.2)),(0:F6)-x.2*inv (x.1*x.1-vv*(x.2*x.2))):aE)=inv x:=by
 rw[jF]
 show _=MX vv x
 rw[HK]
def dN (a b c:F2):aE:=(((a,b,0):F6),((0,c,0):F6))
theorem acs (c:F2):vv*((c,0,0):F6)=((0,c,0):F6):=by
 rw[CY]
 show ((xi*0,c,0):F6)=_
 rw[mul_zero]
theorem acu (a b c:F2):((a,b+c,0):F6)=((a,b,0):F6)+((0,c,0):F6):=by
 rw[F6.add_def]
 show _=((a+0,b+c,0+0):F6)
 rw[add_zero,add_zero]
theorem adg {F:Type} [Rg F] (b c v:F):v*(b*c)=b*(v*c) :=
 aL [b,c,v] ((fun (b c v:PE)=>(v*(b*c))) (.v 0) (.v 1) (.v 2)) ((fun (b c v:PE)=>(b*(v*c))) (.v 0) (.v 1) (.v 2)) (by kernel_rfl)
theorem adh {F:Type} [Rg F] (a b l m:F):(a+b)*(l+m)-a*l-b*m=a*m+b*l :=
 aL [a,b,l,m] ((fun (a b l m:PE)=>((a+b)*(l+m)-a*l-b*m)) (.v 0) (.v 1) (.v 2) (.v 3)) ((fun (a b l m:PE)=>(a*m+b*l)) (.v 0) (.v 1) (.v 2) (.v 3)) (by kernel_rfl)
theorem Xq (x:aE) (a b c:F2):((x.1*((a,b,0):F6)+vv*(vv*(x.2*((c,0,0):F6))),(x.1+x.2)*((a,b+c,0):F6)-x.1*((a,b,0):F6)-vv*(x.2*((c,0,0):F6))):aE)=x*dN a b c:=by
 rw[aE.mul_def,adg x.2,acs,acu,adh]
 rfl
end Cr
namespace Cr
open Rg Fd Go.Eng
theorem gu {F:Type} [Rg F]:(-0:F)=0:=by have h:=Rg.neg_add (0:F);rwa [add_zero] at h
theorem ql {F:Type} [Rg F] (x:F):x-0=x:=by rw[Rg.sub_def,gu,add_zero]
theorem th {M:Int} [Md M] (x:Zm M):∀ n,zpow x n=az x n
 | 0=>rfl
 | n+1=>by show zpow x n*x=az x n*x;rw[th x n]
theorem ZZ:∀ n:Nat,(nc n:Fp).v=(n:Int)%Mp
 | 0=>by rw[Int.natCast_zero,Int.zero_emod];rfl
 | n+1=>by
  show ((nc n:Fp)+1).v=_
  rw[ze,ZZ n,tH,Int.emod_add_emod]
  rfl
theorem ZY:∀ n:Nat,(nc n:F2)=((nc n:Fp),(0:Fp))
 | 0=>rfl
 | n+1=>by
  show (nc n:F2)+1=((nc n:Fp)+1,(0:Fp))
  rw[ZY n,F2.add_def]
  exact F2.ext rfl (zero_add _)
theorem afu {p:Nat} (hp:p=bM):(nc p:Fp)=0:=by
 refine Zm.ext ?_
 rw[ZZ,hp]
 exact Odt (by kernel_rfl)
theorem TZ {p:Nat} (hp:p=bM):(nc p:F2)=0:=by rw[ZY,afu hp];rfl
theorem FA {p:Nat} (hp:p=bM):dr p:=by rw[hp];exact Fz
theorem Uc {p:Nat} (hp:p=bM) (x:Fp):az x p=x:=by
 obtain⟨q,hq⟩:∃ q,p=q+1:=⟨bM-1,hp.trans (Odt (by kernel_rfl))⟩
 by_cases hx:x=0
 ·rw[hq,hx];show _*(0:Fp)=0;rw[mul_zero]
 ·have h1:=tA hx
  have h2:bM-1=q:=by rw[<- hp,hq];rfl
  rw[h2,th] at h1
  rw[hq];show az x q*x=x;rw[h1,one_mul]
theorem HE (a:Fp):∀ n,az ((a,0):F2) n=(az a n,0)
 | 0=>rfl
 | n+1=>by
  show az ((a,0):F2) n*(a,0)=(az a n*a,0)
  rw[HE a n,F2.mul_def]
  refine F2.ext ?_ ?_
  ·show az a n*a-0*0=_
   rw[zero_mul,ql]
  ·show az a n*0+0*a=0
   rw[mul_zero,zero_mul,zero_add]
def ii:F2:=((0:Fp),(1:Fp))
theorem TJ:ii*ii=(-1:F2):=by
 rw[F2.mul_def,F2.neg_def]
 refine F2.ext ?_ ?_
 ·show (0:Fp)*0-1*1=-1
  rw[zero_mul,one_mul,Rg.sub_def,zero_add]
 ·show (0:Fp)*1+1*0=-0
  rw[zero_mul,mul_zero,zero_add]
  exact Zm.ext (Odt (by kernel_rfl))
theorem acM {p:Nat} (hp:p=bM):az ii p=-ii:=by
 obtain⟨q,hq⟩:∃ q,p=2*(2*q)+2+1:=⟨bM/4,hp.trans (Odt (by kernel_rfl))⟩
 have h2:az ii 2=(-1:F2):=by show 1*ii*ii=_;rw[one_mul,TJ]
 have h3:az (-1:F2) 2=1:=by show 1*(-1:F2) * -1=1;rw[one_mul,neg_mul,one_mul,neg_neg]
 have h4:az ii (2*(2*q))=1:=by rw[bz,h2,bz,h3,fY]
 rw[hq]
 show az ii (2*(2*q)+2)*ii=_
 rw[dZ,h4,h2,one_mul,neg_mul,one_mul]
theorem wH {p:Nat} (hp:p=bM) (x:F2):az x p=(x.1,-x.2):=by
 have h1:x=(x.1,0)+(x.2,0)*ii:=by
  rw[F2.mul_def,F2.add_def]
  refine F2.ext ?_ ?_
  ·show x.1=x.1+(x.2*0-0*1)
   rw[mul_zero,zero_mul,ql,add_zero]
  ·show x.2=0+(x.2*1+0*0)
   rw[mul_one,mul_zero,add_zero,zero_add]
 have h2:az x p=az ((x.1,0)+(x.2,0)*ii) p:=congrArg (fun t=>az t p) h1
 rw[h2,zS (FA hp) (TZ hp),jQ,HE,HE,Uc hp,Uc hp,acM hp,F2.neg_def,F2.mul_def,F2.add_def]
 refine F2.ext ?_ ?_
 ·show x.1+(x.2 * -0-0 * -1)=x.1
  rw[gu,mul_zero,zero_mul,ql,add_zero]
 ·show 0+(x.2 * -1+0 * -0)=-x.2
  rw[gu,mul_zero,add_zero,zero_add,mul_comm,neg_mul,one_mul]
end Cr
namespace Cr
open Rg Fd Go.Eng
theorem aeG {F:Type} [Rg F] (r c:F):r*(r*c)=c*(r*r) :=
 aL [r,c] ((fun (r c:PE)=>(r*(r*c))) (.v 0) (.v 1)) ((fun (r c:PE)=>(c*(r*r))) (.v 0) (.v 1)) (by kernel_rfl)
theorem aeH {F:Type} [Rg F] (r c:F):r*(r*(r*c))=c*(r*r*r) :=
 aL [r,c] ((fun (r c:PE)=>(r*(r*(r*c)))) (.v 0) (.v 1)) ((fun (r c:PE)=>(c*(r*r*r))) (.v 0) (.v 1)) (by kernel_rfl)
theorem aeI {F:Type} [Rg F] (r c:F):r*(r*(r*(r*c)))=c*(r*r*(r*r)) :=
 aL [r,c] ((fun (r c:PE)=>(r*(r*(r*(r*c))))) (.v 0) (.v 1)) ((fun (r c:PE)=>(c*(r*r*(r*r)))) (.v 0) (.v 1)) (by kernel_rfl)
theorem aeJ {F:Type} [Rg F] (r c:F):r*(r*(r*(r*(r*c))))=c*(r*r*(r*r)*r) :=
 aL [r,c] ((fun (r c:PE)=>(r*(r*(r*(r*(r*c)))))) (.v 0) (.v 1)) ((fun (r c:PE)=>(c*(r*r*(r*r)*r))) (.v 0) (.v 1)) (by kernel_rfl)
def e2 (c:F2):aE:=((c,(0:F2),(0:F2)),(0:F2),(0:F2),(0:F2))
def e6 (c:F2):F6:=(c,(0:F2),(0:F2))
def ww:aE:=(((0:F2),(0:F2),(0:F2)),(1:F2),(0:F2),(0:F2))
theorem N2 (c:F2) (x:F6):e6 c*x=(c*x.1,c*x.2.1,c*x.2.2):=by
 rw[F6.mul_def]
 refine F6.ext ?_ ?_ ?_
 ·show c*x.1+xi*(0*x.2.2+0*x.2.1)=c*x.1
  rw[zero_mul,zero_mul,add_zero,mul_zero,add_zero]
 ·show c*x.2.1+0*x.1+xi*(0*x.2.2)=c*x.2.1
  rw[zero_mul,zero_mul,mul_zero,add_zero,add_zero]
 ·show c*x.2.2+0*x.2.1+0*x.1=c*x.2.2
  rw[zero_mul,zero_mul,add_zero,add_zero]
theorem xH (c:F2) (x:aE):e2 c*x=((c*x.1.1,c*x.1.2.1,c*x.1.2.2),c*x.2.1,c*x.2.2.1,c*x.2.2.2):=by
 rw[aE.mul_def]
 refine aE.ext ?_ ?_
 ·show e6 c*x.1+vv*((0:F6)*x.2)=_
  rw[zero_mul,mul_zero,add_zero,N2]
 ·show e6 c*x.2+(0:F6)*x.1=_
  rw[zero_mul,add_zero,N2]
theorem tf (x:aE):ww*x=((xi*x.2.2.2,x.2.1,x.2.2.1),x.1):=by
 rw[aE.mul_def]
 refine aE.ext ?_ ?_
 ·show (0:F6)*x.1+vv*((1:F6)*x.2)=_
  rw[zero_mul,zero_add,one_mul,CY]
 ·show (0:F6)*x.2+(1:F6)*x.1=x.1
  rw[zero_mul,zero_add,one_mul]
theorem Yc:e2 1=(1:aE):=rfl
theorem mP (c:F2):∀ n,az (e2 c) n=e2 (az c n)
 | 0=>rfl
 | n+1=>by
  show az (e2 c) n*e2 c=e2 (az c n*c)
  rw[mP c n,xH]
  show ((az c n*c,az c n*0,az c n*0),az c n*0,az c n*0,az c n*0)=_
  rw[mul_zero];rfl
theorem QE:ww*(ww*(ww*(ww*(ww*ww))))=e2 xi:=by
 simp only[tf]
 show ((xi*(1:F2),xi*(0:F2),xi*(0:F2)),xi*(0:F2),xi*(0:F2),(0:F2))=_
 rw[mul_one,mul_zero];rfl
theorem Ep:az ww 6=e2 xi:=by
 show (1:aE)*ww*ww*ww*ww*ww*ww=_
 rw[one_mul,mul_assoc,mul_assoc,mul_assoc,mul_assoc]
 exact QE
theorem Ud {p q:Nat} (hq:p=6*q+1):az ww p=e2 (az xi q)*ww:=by
 rw[hq]
 show az ww (6*q)*ww=_
 rw[bz,Ep,mP]
theorem BZ (c:F2) (x:aE):e2 c+x=((c+x.1.1,x.1.2.1,x.1.2.2),x.2):=by
 rw[aE.add_def]
 refine aE.ext ?_ ?_
 ·rw[F6.add_def]
  refine F6.ext rfl ?_ ?_
  ·exact zero_add _
  ·exact zero_add _
 ·exact zero_add x.2
theorem horner (a b c d e f:F2):(((a,c,e),b,d,f):aE)=e2 a+ww*(e2 b+ww*(e2 c+ww*(e2 d+ww*(e2 e+ww*e2 f)))):=by
 simp only[tf,BZ]
 show _=((a+xi*(0:F2),c+xi*(0:F2),e+xi*(0:F2)),b+xi*(0:F2),d+xi*(0:F2),f)
 simp only[mul_zero,add_zero]
theorem TY:∀ n:Nat,(nc n:aE)=e2 (nc n)
 | 0=>rfl
 | n+1=>by
  show (nc n:aE)+1=e2 ((nc n:F2)+1)
  rw[TY n,BZ];rfl
theorem G8 {p:Nat} (hp:p=bM):(nc p:aE)=0:=by rw[TY,TZ hp];rfl
def dw (x:F2):F2:=(x.1,-x.2)
noncomputable def frg (r:F2) (x:aE):aE:=((dw x.1.1,dw x.1.2.1*(r*r),dw x.1.2.2*(r*r*(r*r))),(dw x.2.1*r,dw x.2.2.1*(r*r*r),dw x.2.2.2*(r*r*(r*r)*r)))
theorem CG {p q:Nat} (hp:p=bM) (hq:p=6*q+1) (a:F2) (Y:aE):az (e2 a+ww*Y) p=e2 (dw a)+e2 (az xi q)*(ww*az Y p):=by
 rw[zS (FA hp) (G8 hp),jQ,mP,wH hp,Ud hq,mul_assoc];rfl
theorem aao {p q:Nat} (hp:p=bM) (hq:p=6*q+1) (x:aE):az x p=frg (az xi q) x:=by
 obtain⟨⟨a,c,e⟩,b,d,f⟩:=x
 obtain⟨r,hr⟩:∃ r,r=az xi q:=⟨_,rfl⟩
 have h1:=horner a b c d e f
 have h2:=congrArg (fun t:aE=>az t p) h1
 refine h2.trans ?_
 show az (e2 a+ww*(e2 b+ww*(e2 c+ww*(e2 d+ww*(e2 e+ww*e2 f))))) p=_
 rw[CG hp hq,CG hp hq,CG hp hq,CG hp hq,CG hp hq,mP,wH hp,<- hr]
 show e2 (dw a)+e2 r*(ww*(e2 (dw b)+e2 r*(ww*(e2 (dw c)+e2 r*(ww*(e2 (dw d)+e2 r*(ww*(e2 (dw e)+e2 r*(ww*e2 (dw f))))))))))=_
 simp only[tf,BZ,xH]
 refine aE.ext (F6.ext ?_ ?_ ?_) (F6.ext ?_ ?_ ?_)
 ·show dw a+r*(xi*(r*(r*(r*(r*(0:F2))))))=dw a
  simp only[mul_zero,add_zero]
 ·show r*(r*(dw c+r*(xi*(r*(r*(0:F2))))))=dw c*(r*r)
  simp only[mul_zero,add_zero];exact aeG r _
 ·show r*(r*(r*(r*(dw e+r*(xi*(0:F2))))))=dw e*(r*r*(r*r))
  simp only[mul_zero,add_zero];exact aeI r _
 ·show r*(dw b+r*(xi*(r*(r*(r*(0:F2))))))=dw b*r
  simp only[mul_zero,add_zero];exact mul_comm _ _
 ·show r*(r*(r*(dw d+r*(xi*(r*(0:F2))))))=dw d*(r*r*r)
  simp only[mul_zero,add_zero];exact aeH r _
 ·exact aeJ r (dw f)
theorem abu:xi*xi=(((1:Fp)+1,(0:Fp)):F2)*ii:=by
 rw[F2.mul_def,F2.mul_def]
 refine F2.ext ?_ ?_
 ·show (1:Fp)*1-1*1=(1+1)*0-0*1
  rw[mul_zero,one_mul,zero_mul,ql,Rg.sub_def,add_comm,Rg.neg_add]
 ·show (1:Fp)*1+1*1=(1+1)*1+0*0
  rw[mul_one,mul_one,mul_zero,add_zero]
theorem UT {q m t:Nat} (hq:q=2*m+1) (hm:m=2*(2*t)+2+1):az xi q=(az ((1:Fp)+1) m,-az ((1:Fp)+1) m):=by
 have h2:az ii 2=(-1:F2):=by show 1*ii*ii=_;rw[one_mul,TJ]
 have h3:az (-1:F2) 2=1:=by show 1*(-1:F2) * -1=1;rw[one_mul,neg_mul,one_mul,neg_neg]
 have h4:az ii (2*(2*t))=1:=by rw[bz,h2,bz,h3,fY]
 have h5:az ii m=-ii:=by
  rw[hm];show az ii (2*(2*t)+2)*ii=_
  rw[dZ,h4,h2,one_mul,neg_mul,one_mul]
 have h6:az xi 2=(((1:Fp)+1,(0:Fp)):F2)*ii:=by show 1*xi*xi=_;rw[one_mul,abu]
 rw[hq]
 show az xi (2*m)*xi=_
 rw[bz,h6,jQ,HE,h5,F2.neg_def,F2.mul_def,F2.mul_def]
 obtain⟨u,hu⟩:∃ u,u=az ((1:Fp)+1) m:=⟨_,rfl⟩
 rw[<- hu]
 refine F2.ext ?_ ?_
 ·show (u * -0-0 * -1)*1-(u * -1+0 * -0)*1=u
  rw[gu,mul_zero,zero_mul,mul_zero,ql,add_zero,mul_one,mul_one,mul_comm,neg_mul,one_mul,Rg.sub_def,zero_add,neg_neg]
 ·show (u * -0-0 * -1)*1+(u * -1+0 * -0)*1=-u
  rw[gu,mul_zero,zero_mul,mul_zero,ql,add_zero,mul_one,mul_one,mul_comm,neg_mul,one_mul,zero_add]
end Cr
namespace Cr
open Rg Fd Go.Eng
theorem CE {F:Type} [Rg F] (x:F) (p k:Nat):az x (p^(k+1))=az (az x (p^k)) p:=by rw[Nat.pow_succ,bz]
theorem yw {F:Type} [Rg F] (x:F):az x 1=x:=one_mul x
theorem D8 {p:Nat} (hp:p=bM) (x y:aE):∀ k,az (x+y) (p^k)=az x (p^k)+az y (p^k)
 | 0=>by rw[Nat.pow_zero,yw,yw,yw]
 | k+1=>by rw[CE,CE,CE,D8 hp x y k,zS (FA hp) (G8 hp)]
theorem Ua {p:Nat} (hp:p=bM) (c:F2):az c (p^2)=c:=by
 rw[CE c p 1,Nat.pow_one,wH hp,wH hp]
 exact F2.ext rfl (neg_neg c.2)
theorem MW {p:Nat} (hp:p=bM) (c:F2):∀ n,az c ((p^2)^n)=c
 | 0=>by rw[Nat.pow_zero,yw]
 | n+1=>by rw[CE,MW hp c n,Ua hp]
theorem PK {p:Nat} (hp:p=bM) (c:F2):az c (p^12)=c:=by
 rw[show p^12=(p^2)^6 by rw[<- Nat.pow_mul]];exact MW hp c 6
theorem NA:xi≠0:=fun h=>NB (s:=0) (by rw[h,mul_zero])
theorem acN {p n:Nat} (hp:p=bM) (hn:p^2=n+1):az xi n=1:=by
 have h1:=Ua hp xi
 rw[hn] at h1
 have h2:az xi n*xi=xi:=h1
 have h3:az xi n*(xi*inv xi)=xi*inv xi:=by rw[<- mul_assoc,h2]
 rwa [mul_inv _ NA,mul_one] at h3
theorem WV {p:Nat} (hp:p=bM):az ww (p^12)=ww:=by
 obtain⟨n,hn⟩:∃ n,n=bM^2-1:=⟨_,rfl⟩
 obtain⟨s,hs⟩:∃ s,s=(bM^12-1)/6/(bM^2-1):=⟨_,rfl⟩
 have h1:p^2=n+1:=by rw[hp,hn];exact Odt (by kernel_rfl)
 have h2:p^12=6*(n*s)+1:=by rw[hp,hn,hs];exact Odt (by kernel_rfl)
 rw[h2]
 show az ww (6*(n*s))*ww=ww
 rw[bz,Ep,bz,mP,acN hp h1,Yc,fY,one_mul]
theorem yx {p:Nat} (hp:p=bM) (a:F2) (Y:aE):az (e2 a+ww*Y) (p^12)=e2 a+ww*az Y (p^12):=by
 rw[D8 hp,jQ,mP,PK hp,WV hp]
theorem acK {p:Nat} (hp:p=bM) (x:aE):az x (p^12)=x:=by
 obtain⟨⟨a,c,e⟩,b,d,f⟩:=x
 have h1:=horner a b c d e f
 have h2:=congrArg (fun t:aE=>az t (p^12)) h1
 refine h2.trans (Eq.trans ?_ h1.symm)
 show az (e2 a+ww*(e2 b+ww*(e2 c+ww*(e2 d+ww*(e2 e+ww*e2 f))))) (p^12)=_
 rw[yx hp,yx hp,yx hp,yx hp,yx hp,mP,PK hp]
theorem aap {n:Nat} (hn:bM^12=n+1) {x:aE} (hx:x≠0):az x n=1:=by
 have h1:=acK rfl x
 rw[hn] at h1
 have h2:az x n*x=x:=h1
 have h3:az x n*(x*inv x)=x*inv x:=by rw[<- mul_assoc,h2]
 rwa [mul_inv _ hx,mul_one] at h3
theorem WH {n:Nat} (hn:n<2^384) (h:He bM 2 384 n=bM-1):az (1+1:Fp) n=-1:=by
 rw[<- th]
 refine Zm.ext ?_
 rw[w9,<- vi bM 2 (Odt (by kernel_rfl)) 384 n hn,h]
 exact Odt (by kernel_rfl)
theorem acL {p n:Nat} (hp:p=bM) (hn:n=(bM-1)/2):az xi ((p+1)*n)=-1:=by
 rw[bz]
 have h1:az xi (p+1)=(((1+1:Fp),(0:Fp)):F2):=by
  show az xi p*xi=_
  rw[wH hp,F2.mul_def]
  refine F2.ext ?_ ?_
  ·show (1:Fp)*1 - -1*1=1+1
   rw[mul_one,mul_one,Rg.sub_def,neg_neg]
  ·show (1:Fp)*1 + -1*1=0
   rw[mul_one,mul_one,add_comm,Rg.neg_add]
 have h2:n<2^384:=by rw[hn];exact Odt (by kernel_rfl)
 have h3:He bM 2 384 n=bM-1:=by rw[hn];exact QA
 rw[h1,HE,WH h2 h3,F2.neg_def]
 exact F2.ext rfl gu.symm
theorem aar {p:Nat} (hp:p=bM):az ww (p^6)=-ww:=by
 obtain⟨n,hn⟩:∃ n,n=(bM-1)/2:=⟨_,rfl⟩
 obtain⟨s,hs⟩:∃ s,s=(bM^6-1)/6/((bM+1)*((bM-1)/2))/2:=⟨_,rfl⟩
 have h2:p^6=6*((p+1)*n*(2*s+1))+1:=by rw[hp,hn,hs];exact Odt (by kernel_rfl)
 have h3:az (-1:F2) 2=1:=by show 1*(-1:F2) * -1=1;rw[one_mul,neg_mul,one_mul,neg_neg]
 have h4:az (-1:F2) (2*s+1)=-1:=by
  show az (-1:F2) (2*s) * -1=-1
  rw[bz,h3,fY,one_mul]
 rw[h2]
 show az ww (6*((p+1)*n*(2*s+1)))*ww=-ww
 rw[bz,Ep,mP,bz,acL hp hn,h4]
 have h5:e2 (-1)=-(1:aE):=by
  rw[aE.neg_def]
  refine aE.ext ?_ ?_
  ·show e6 (-1)=-(1:F6)
   rw[F6.neg_def]
   exact F6.ext rfl gu.symm gu.symm
  ·exact gu.symm
 rw[h5,neg_mul,one_mul]
theorem T9 {p:Nat} (hp:p=bM) (c:F2):az c (p^6)=c:=by
 rw[show p^6=(p^2)^3 by rw[<- Nat.pow_mul]];exact MW hp c 3
theorem CF {p:Nat} (hp:p=bM) (a:F2) (Y:aE):az (e2 a+ww*Y) (p^6)=e2 a+ww * -az Y (p^6):=by
 rw[D8 hp,jQ,mP,T9 hp,aar hp,neg_mul,mul_comm ww (-_),neg_mul,mul_comm ww]
theorem Gd (c:F2) : -e2 c=e2 (-c):=by
 rw[aE.neg_def]
 refine aE.ext ?_ ?_
 ·show -(e6 c)=e6 (-c)
  rw[F6.neg_def]
  exact F6.ext rfl gu gu
 ·exact gu
theorem Zj (b:F2) (Z:aE) : -(e2 b+ww * -Z)=e2 (-b)+ww*Z:=by
 have h1:(e2 b+ww * -Z)+(e2 (-b)+ww*Z)=0:=by
  rw[<- Gd,mul_comm ww (-Z),neg_mul,mul_comm Z,add_assoc,<- add_assoc (-(ww*Z)),add_comm (-(ww*Z)),add_assoc,Rg.neg_add,add_zero,add_comm,Rg.neg_add]
 have h2 : -(e2 b+ww * -Z)+((e2 b+ww * -Z)+(e2 (-b)+ww*Z))=-(e2 b+ww * -Z):=by rw[h1,add_zero]
 rw[<- add_assoc,Rg.neg_add,zero_add] at h2
 exact h2.symm
theorem D6 {p:Nat} (hp:p=bM) (x:aE):az x (p^6)=(x.1,-x.2):=by
 obtain⟨⟨a,c,e⟩,b,d,f⟩:=x
 have h1:=horner a b c d e f
 have h2:=congrArg (fun t:aE=>az t (p^6)) h1
 refine h2.trans ?_
 show az (e2 a+ww*(e2 b+ww*(e2 c+ww*(e2 d+ww*(e2 e+ww*e2 f))))) (p^6)=_
 rw[CF hp,CF hp,CF hp,CF hp,CF hp,mP,T9 hp,Zj,Zj,Gd,<- horner]
 refine aE.ext rfl ?_
 show ((-b,-d,-f):F6)=-((b,d,f):F6)
 rw[F6.neg_def]
end Cr
namespace Cr
open Rg Fd Go.Eng
abbrev V2:=Nat × Nat
abbrev V6:=V2 × V2 × V2
abbrev gS:=V6 × V6
noncomputable def q2 (a:V2):F2:=cJ.φ a
noncomputable def q6 (a:V6):F6:=(q2 a.1,q2 a.2.1,q2 a.2.2)
noncomputable def fZ (a:gS):aE:=(q6 a.1,q6 a.2)
def cT {α:Type} (a:V2) (k:V2->α):α:=fc a.1 fun x=>fc a.2 fun y=>k (x,y)
theorem lM {α:Type} (a:V2) (k:V2->α):cT a k=k a:=by rw[cT,zp,zp]
def gI {α:Type} (a:V6) (k:V6->α):α:=cT a.1 fun x=>cT a.2.1 fun y=>cT a.2.2 fun z=>k (x,y,z)
theorem lN {α:Type} (a:V6) (k:V6->α):gI a k=k a:=by rw[gI,lM,lM,lM]
def gp {α:Type} (a:gS) (k:gS->α):α:=gI a.1 fun x=>gI a.2 fun y=>k (x,y)
theorem pD {α:Type} (a:gS) (k:gS->α):gp a k=k a:=by rw[gp,lN,lN]
def fk (a b:V2):V2:=(q9 a.1 b.1,q9 a.2 b.2)
def fF (a b:V2):V2:=(oH a.1 b.1,oH a.2 b.2)
def aS (a b:V2):V2:=(oH (a.1*b.1) (a.2*b.2),q9 (a.1*b.2) (a.2*b.1))
def UL (a:V2):V2:=(oH a.1 a.2,q9 a.1 a.2)
def Iy (a:V2):V2:=fF (0,0) a
def qO (a:V2):V2:=(a.1,oH 0 a.2)
theorem qG (a b:V2):q2 (fk a b)=q2 a+q2 b:=cJ.add_φ a b
theorem mJ (a b:V2):q2 (fF a b)=q2 a-q2 b:=cJ.sub_φ a b
theorem km (a b:V2):q2 (aS a b)=q2 a*q2 b:=cJ.mul_φ a b
theorem Uf (a:V2):q2 (UL a)=xi*q2 a:=by
 rw[QF]
 show (zm ((oH a.1 a.2:Nat):Int),zm ((q9 a.1 a.2:Nat):Int))=_
 rw[zd,vB];rfl
theorem D9:q2 (0,0)=0:=rfl
theorem HI (a:V2):q2 (Iy a)=-q2 a:=by rw[Iy,mJ,D9,jF]
theorem CI (a:V2):q2 (qO a)=((q2 a).1,-(q2 a).2):=by
 refine F2.ext rfl ?_
 show (zm ((oH 0 a.2:Nat):Int):Fp)=-zm (a.2:Int)
 rw[vB]
 show (0:Fp)-_=_
 rw[jF]
def tX (x y:V6):V6:=(fk x.1 y.1,fk x.2.1 y.2.1,fk x.2.2 y.2.2)
def w5 (x y:V6):V6:=(fF x.1 y.1,fF x.2.1 y.2.1,fF x.2.2 y.2.2)
def Iw (x:V6):V6:=(UL x.2.2,x.1,x.2.1)
def w4 (x y:V6):V6 :=
 cT (aS x.1 y.1) fun a=>cT (aS x.2.1 y.2.1) fun b=>cT (aS x.2.2 y.2.2) fun c =>
 cT (fk x.2.1 x.2.2) fun s1=>cT (fk y.2.1 y.2.2) fun t1=>cT (fk x.1 x.2.1) fun s2=>cT (fk y.1 y.2.1) fun t2=>cT (fk x.1 x.2.2) fun s3=>cT (fk y.1 y.2.2) fun t3 =>
 cT (fF (fF (aS s1 t1) b) c) fun d=>cT (fF (fF (aS s2 t2) a) b) fun e=>cT (fF (fF (aS s3 t3) a) c) fun f =>
 (fk a (UL d),fk e (UL c),fk f b)
theorem PM (x y:V6):q6 (tX x y)=q6 x+q6 y:=by
 rw[F6.add_def];simp only[q6,tX,qG]
theorem HJ (x y:V6):q6 (w5 x y)=q6 x-q6 y:=by
 rw[F6.sub_def];simp only[q6,w5,mJ]
theorem Ug (x:V6):q6 (Iw x)=vv*q6 x:=by
 rw[CY];simp only[q6,Iw,Uf]
theorem PN (x y:V6):q6 (w4 x y)=q6 x*q6 y:=by
 rw[<- Qz]
 simp only[w4,lM,q6,qG,mJ,km,Uf]
def lb (x y:gS):gS :=
 gI (w4 x.1 y.1) fun a=>gI (w4 x.2 y.2) fun b=>gI (tX x.1 x.2) fun s=>gI (tX y.1 y.2) fun t =>
 gI (w4 s t) fun m=>gI (tX a (Iw b)) fun c=>gI (w5 (w5 m a) b) fun d=>(c,d)
def z7 (x:gS):gS :=
 gI (w4 x.1 x.2) fun a=>gI (Iw a) fun b=>gI (tX x.1 x.2) fun s=>gI (tX x.1 (Iw x.2)) fun t =>
 gI (w4 s t) fun m=>gI (w5 (w5 m a) b) fun c=>gI (tX a a) fun d=>(c,d)
theorem zT (x y:gS):fZ (lb x y)=fZ x*fZ y:=by
 rw[<- Lr]
 simp only[lb,lN,fZ,PM,HJ,PN,Ug]
theorem yB (x:gS):fZ (z7 x)=fZ x*fZ x:=by
 rw[<- Qy]
 simp only[z7,lN,fZ,PM,HJ,PN,Ug]
def Nn (x:V6):V6:=w5 ((0,0),(0,0),(0,0)) x
theorem aav (x:V6):q6 (Nn x)=-q6 x:=by
 rw[Nn,HJ]
 show (0:F6)-_=_
 rw[jF]
def FK (x:gS):gS:=gI (Nn x.2) fun y=>(x.1,y)
theorem aas (x:gS):fZ (FK x)=r6 (fZ x):=by
 simp only[FK,lN,fZ,aav];rfl
def Iz:gS:=(((1,0),(0,0),(0,0)),(0,0),(0,0),(0,0))
theorem KU:fZ Iz=1:=rfl
def tW (x:gS):Nat->Nat->gS
 | 0,_=>Iz
 | f+1,n=>match Nat.beq n 0 with
  | true=>Iz
  | false=>gp (tW x f (n/2)) fun y=>gp (z7 y) fun z=>match Nat.beq (n%2) 1 with
   | true=>lb z x
   | false=>z
theorem HG (x:gS):∀ f n,n<2^f->fZ (tW x f n)=az (fZ x) n
 | 0,n,h=>by
  have:n=0:=by simp at h;exact h
  subst this;exact KU
 | f+1,n,h=>by
  unfold tW
  split
  ·rename_i hn;have:=Nat.eq_of_beq_eq_true hn;subst this;exact KU
  ·have ih:=HG x f (n/2) (by rw[Nat.pow_succ] at h;omega)
   rw[pD,pD]
   split
   ·rename_i hn
    have h1:=Nat.eq_of_beq_eq_true hn
    have h2:n=n/2+n/2+1:=by omega
    rw[zT,yB,ih]
    conv=>rhs;rw[h2]
    show _=az (fZ x) (n/2+n/2)*fZ x
    rw[dZ]
   ·rename_i hn
    have h1:n%2≠1:=fun e=>by rw[e] at hn;cases hn
    have h2:n=n/2+n/2:=by omega
    rw[yB,ih]
    conv=>rhs;rw[h2]
    rw[dZ]
def w3 (r:V2) (x:gS):gS :=
 cT (aS r r) fun r2=>cT (aS r2 r2) fun r4=>cT (aS r2 r) fun r3=>cT (aS r4 r) fun r5 =>
 ((qO x.1.1,aS (qO x.1.2.1) r2,aS (qO x.1.2.2) r4),(aS (qO x.2.1) r,aS (qO x.2.2.1) r3,aS (qO x.2.2.2) r5))
end Cr
namespace Cr
open Rg Fd
theorem ace {F:Type} [Rg F] (x x1 y1 u l:F):y1+l*(x-x1)=- -(y1+l*(u-x1))+l*(x-u) :=
 aL [x,x1,y1,u,l] ((fun (x x1 y1 u l:PE)=>(y1+l*(x-x1))) (.v 0) (.v 1) (.v 2) (.v 3) (.v 4)) ((fun (x x1 y1 u l:PE)=>(- -(y1+l*(u-x1))+l*(x-u))) (.v 0) (.v 1) (.v 2) (.v 3) (.v 4)) (by kernel_rfl)
theorem acm {F:Type} [Rg F] (x y u v l m b:F):(y-(-v+l*(x-u)))*(y-(v+m*(x-u)))-(x-u)*(x*x+(u+l*m)*x+(u*u-l*m*u+(l-m)*v)-(l+m)*y)=1*(y*y-(x*x*x+b))+(-1)*(v*v-(u*u*u+b)) :=
 aL [x,y,u,v,l,m,b] ((fun (x y u v l m b:PE)=>((y-(-v+l*(x-u)))*(y-(v+m*(x-u)))-(x-u)*(x*x+(u+l*m)*x+(u*u-l*m*u+(l-m)*v)-(l+m)*y))) (.v 0) (.v 1) (.v 2) (.v 3) (.v 4) (.v 5) (.v 6)) ((fun (x y u v l m b:PE)=>(1*(y*y-(x*x*x+b))+(-1)*(v*v-(u*u*u+b)))) (.v 0) (.v 1) (.v 2) (.v 3) (.v 4) (.v 5) (.v 6)) (by kernel_rfl)
theorem Zp {F:Type} [Rg F] (y a:F):(y-a)*(y - -a)=y*y-a*a :=
 aL [y,a] ((fun (y a:PE)=>((y-a)*(y - -a))) (.v 0) (.v 1)) ((fun (y a:PE)=>(y*y-a*a)) (.v 0) (.v 1)) (by kernel_rfl)
theorem acf {F:Type} [Rg F] (y1 l x x1:F) : -y1 + -l*(x-x1)=-(y1+l*(x-x1)) :=
 aL [y1,l,x,x1] ((fun (y1 l x x1:PE)=>(-y1 + -l*(x-x1))) (.v 0) (.v 1) (.v 2) (.v 3)) ((fun (y1 l x x1:PE)=>(-(y1+l*(x-x1)))) (.v 0) (.v 1) (.v 2) (.v 3)) (by kernel_rfl)
theorem aeX {F:Type} [Rg F] (x1 y1 x2 y2 m:F):(x1*x2+(x1+x2)*(m*m-x1-x2)) - -((y1-m*x1)+(y1-m*x1))*m=1*(m*(y1+y2)-(x1*x1+x1*x2+x2*x2))+m*(m*(x2-x1)-(y2-y1)) :=
 aL [x1,y1,x2,y2,m] ((fun (x1 y1 x2 y2 m:PE)=>((x1*x2+(x1+x2)*(m*m-x1-x2)) - -((y1-m*x1)+(y1-m*x1))*m)) (.v 0) (.v 1) (.v 2) (.v 3) (.v 4)) ((fun (x1 y1 x2 y2 m:PE)=>(1*(m*(y1+y2)-(x1*x1+x1*x2+x2*x2))+m*(m*(x2-x1)-(y2-y1)))) (.v 0) (.v 1) (.v 2) (.v 3) (.v 4)) (by kernel_rfl)
theorem aeY {F:Type} [Rg F] (x1 y1 x2 y2 m b:F):(x1*x2*(m*m-x1-x2))-((y1-m*x1)*(y1-m*x1)-b)=(-1)*(y1*y1-(x1*x1*x1+b))+x1*(m*(y1+y2)-(x1*x1+x1*x2+x2*x2))+(m*x1)*(m*(x2-x1)-(y2-y1)) :=
 aL [x1,y1,x2,y2,m,b] ((fun (x1 y1 x2 y2 m b:PE)=>((x1*x2*(m*m-x1-x2))-((y1-m*x1)*(y1-m*x1)-b))) (.v 0) (.v 1) (.v 2) (.v 3) (.v 4) (.v 5)) ((fun (x1 y1 x2 y2 m b:PE)=>((-1)*(y1*y1-(x1*x1*x1+b))+x1*(m*(y1+y2)-(x1*x1+x1*x2+x2*x2))+(m*x1)*(m*(x2-x1)-(y2-y1)))) (.v 0) (.v 1) (.v 2) (.v 3) (.v 4) (.v 5)) (by kernel_rfl)
theorem ae8 {F:Type} [Rg F] (x1 x2 x3 d e:F):(d*x1+e)*(d*x2+e)*(d*x3+e)=d*d*d*(x1*x2*x3)+d*d*e*(x1*x2+(x1+x2)*x3)+d*e*e*(x1+x2+x3)+e*e*e :=
 aL [x1,x2,x3,d,e] ((fun (x1 x2 x3 d e:PE)=>((d*x1+e)*(d*x2+e)*(d*x3+e))) (.v 0) (.v 1) (.v 2) (.v 3) (.v 4)) ((fun (x1 x2 x3 d e:PE)=>(d*d*d*(x1*x2*x3)+d*d*e*(x1*x2+(x1+x2)*x3)+d*e*e*(x1+x2+x3)+e*e*e)) (.v 0) (.v 1) (.v 2) (.v 3) (.v 4)) (by kernel_rfl)
theorem aeW {F:Type} [Rg F] (x1 x2 m:F):x1+x2+(m*m-x1-x2)=m*m :=
 aL [x1,x2,m] ((fun (x1 x2 m:PE)=>(x1+x2+(m*m-x1-x2))) (.v 0) (.v 1) (.v 2)) ((fun (x1 x2 m:PE)=>(m*m)) (.v 0) (.v 1) (.v 2)) (by kernel_rfl)
theorem ae9 {F:Type} [Rg F] (m l n k b:F):(m-l)*(m-l)*(m-l)*(k*k-b)+(m-l)*(m-l)*(k-n)*(-(k+k)*m)+(m-l)*(k-n)*(k-n)*(m*m)+(k-n)*(k-n)*(k-n)=-((l-m)*(l-m)*(l-m)*(n*n-b)+(l-m)*(l-m)*(n-k)*(-(n+n)*l)+(l-m)*(n-k)*(n-k)*(l*l)+(n-k)*(n-k)*(n-k)) :=
 aL [m,l,n,k,b] ((fun (m l n k b:PE)=>((m-l)*(m-l)*(m-l)*(k*k-b)+(m-l)*(m-l)*(k-n)*(-(k+k)*m)+(m-l)*(k-n)*(k-n)*(m*m)+(k-n)*(k-n)*(k-n))) (.v 0) (.v 1) (.v 2) (.v 3) (.v 4)) ((fun (m l n k b:PE)=>(-((l-m)*(l-m)*(l-m)*(n*n-b)+(l-m)*(l-m)*(n-k)*(-(n+n)*l)+(l-m)*(n-k)*(n-k)*(l*l)+(n-k)*(n-k)*(n-k)))) (.v 0) (.v 1) (.v 2) (.v 3) (.v 4)) (by kernel_rfl)
theorem acd {F:Type} [Rg F] (x y a c xA yA xC yC l m:F):(y-(yA+l*(x-xA)))-((m-l)*x+((yC-m*xC)-(yA-l*xA)))=(-1)*(m*(x-xC)-(y-yC)) :=
 aL [x,y,a,c,xA,yA,xC,yC,l,m] ((fun (x y a c xA yA xC yC l m:PE)=>((y-(yA+l*(x-xA)))-((m-l)*x+((yC-m*xC)-(yA-l*xA))))) (.v 0) (.v 1) (.v 2) (.v 3) (.v 4) (.v 5) (.v 6) (.v 7) (.v 8) (.v 9)) ((fun (x y a c xA yA xC yC l m:PE)=>((-1)*(m*(x-xC)-(y-yC)))) (.v 0) (.v 1) (.v 2) (.v 3) (.v 4) (.v 5) (.v 6) (.v 7) (.v 8) (.v 9)) (by kernel_rfl)
theorem afa {F:Type} [Rg F] (x1 y1 x2 y2 l x:F):(y1+l*(x-x1))-(y2+l*(x-x2))=1*(l*(x2-x1)-(y2-y1)) :=
 aL [x1,y1,x2,y2,l,x] ((fun (x1 y1 x2 y2 l x:PE)=>((y1+l*(x-x1))-(y2+l*(x-x2)))) (.v 0) (.v 1) (.v 2) (.v 3) (.v 4) (.v 5)) ((fun (x1 y1 x2 y2 l x:PE)=>(1*(l*(x2-x1)-(y2-y1)))) (.v 0) (.v 1) (.v 2) (.v 3) (.v 4) (.v 5)) (by kernel_rfl)
theorem TG {F:Type} [Rg F] (x y x1 y1 x2 y2 l b:F):(y*y-(y1+l*(x-x1))*(y1+l*(x-x1)))-(x-x1)*(x-x2)*(x-(l*l-x1-x2))=1*(y*y-(x*x*x+b))+(-1)*(y1*y1-(x1*x1*x1+b))+(-1)*(x-x1)*(l*(y1+y2)-(x1*x1+x1*x2+x2*x2))+(-1)*(x-x1)*l*(l*(x2-x1)-(y2-y1)) :=
 aL [x,y,x1,y1,x2,y2,l,b] ((fun (x y x1 y1 x2 y2 l b:PE)=>((y*y-(y1+l*(x-x1))*(y1+l*(x-x1)))-(x-x1)*(x-x2)*(x-(l*l-x1-x2)))) (.v 0) (.v 1) (.v 2) (.v 3) (.v 4) (.v 5) (.v 6) (.v 7)) ((fun (x y x1 y1 x2 y2 l b:PE)=>(1*(y*y-(x*x*x+b))+(-1)*(y1*y1-(x1*x1*x1+b))+(-1)*(x-x1)*(l*(y1+y2)-(x1*x1+x1*x2+x2*x2))+(-1)*(x-x1)*l*(l*(x2-x1)-(y2-y1)))) (.v 0) (.v 1) (.v 2) (.v 3) (.v 4) (.v 5) (.v 6) (.v 7)) (by kernel_rfl)
theorem TH {F:Type} [Rg F] (a b c:F):a*c*b=b*c*a :=
 aL [a,b,c] ((fun (a b c:PE)=>(a*c*b)) (.v 0) (.v 1) (.v 2)) ((fun (a b c:PE)=>(b*c*a)) (.v 0) (.v 1) (.v 2)) (by kernel_rfl)
theorem acg {F:Type} [Rg F] (a b c d:F):a*b*c*d=a*b*d*c :=
 aL [a,b,c,d] ((fun (a b c d:PE)=>(a*b*c*d)) (.v 0) (.v 1) (.v 2) (.v 3)) ((fun (a b c d:PE)=>(a*b*d*c)) (.v 0) (.v 1) (.v 2) (.v 3)) (by kernel_rfl)
theorem ach {F:Type} [Rg F] (a b c:F):a*b*c=a*c*b :=
 aL [a,b,c] ((fun (a b c:PE)=>(a*b*c)) (.v 0) (.v 1) (.v 2)) ((fun (a b c:PE)=>(a*c*b)) (.v 0) (.v 1) (.v 2)) (by kernel_rfl)
theorem aci {F:Type} [Rg F] (a b c:F):a*b*c=b*c*a :=
 aL [a,b,c] ((fun (a b c:PE)=>(a*b*c)) (.v 0) (.v 1) (.v 2)) ((fun (a b c:PE)=>(b*c*a)) (.v 0) (.v 1) (.v 2)) (by kernel_rfl)
theorem ae6 {F:Type} [Rg F] (y a:F) : -y-a=-(y - -a) :=
 aL [y,a] ((fun (y a:PE)=>(-y-a)) (.v 0) (.v 1)) ((fun (y a:PE)=>(-(y - -a))) (.v 0) (.v 1)) (by kernel_rfl)
theorem ae7 {F:Type} [Rg F] (a c:F):a-c=-(c-a) :=
 aL [a,c] ((fun (a c:PE)=>(a-c)) (.v 0) (.v 1)) ((fun (a c:PE)=>(-(c-a))) (.v 0) (.v 1)) (by kernel_rfl)
theorem acj {F:Type} [Rg F] (a b c:F):a*b*c=c*b*a :=
 aL [a,b,c] ((fun (a b c:PE)=>(a*b*c)) (.v 0) (.v 1) (.v 2)) ((fun (a b c:PE)=>(c*b*a)) (.v 0) (.v 1) (.v 2)) (by kernel_rfl)
theorem ack {F:Type} [Rg F] (a b c:F):a*b*c=c*a*b :=
 aL [a,b,c] ((fun (a b c:PE)=>(a*b*c)) (.v 0) (.v 1) (.v 2)) ((fun (a b c:PE)=>(c*a*b)) (.v 0) (.v 1) (.v 2)) (by kernel_rfl)
theorem afb {F:Type} [Rg F] (m x y:F):m*(x-x)=y-y :=
 aL [m,x,y] ((fun (m x y:PE)=>(m*(x-x))) (.v 0) (.v 1) (.v 2)) ((fun (m x y:PE)=>(y-y)) (.v 0) (.v 1) (.v 2)) (by kernel_rfl)
section
variable {F:Type} [Fd F] {b:F}
def lv (A:F × F) (l:F) (R:F × F):F:=R.2-(A.2+l*(R.1-A.1))
theorem R6 (P:F × F) (l u:F) (R:F × F):lv P l R=R.2-(- -(P.2+l*(u-P.1))+l*(R.1-u)):=by
 unfold lv;rw[ace R.1 P.1 P.2 u l]
theorem Ci {P Q D R:F × F} {l m:F} (hl:gX P Q l) (hD:D=(sx P.1 Q.1 l,sy P.1 P.2 Q.1 l)) (oP:cY b P) (oR:cY b R):lv P l R*lv D m R=(R.1-D.1)*fn D.1 D.2 l m R.1 R.2:=by
 have oD:cY b D:=by rw[hD];exact hl.fA oP
 have e1:lv P l R=R.2-(-D.2+l*(R.1-D.1)):=by rw[R6 P l D.1 R,hD];rfl
 rw[e1]
 exact Ap _ _ (acm R.1 R.2 D.1 D.2 l m b) oR oD
theorem R5 {A C:F × F} {l m x y:F} (h:m*(x-C.1)=y-C.2):lv A l (x,y)=(m-l)*x+((C.2-m*C.1)-(A.2-l*A.1)):=mG _ (acd x y 0 0 A.1 A.2 C.1 C.2 l m) h
theorem Kz {A C D:F × F} {l m:F} (h:gX C D m) (oC:cY b C):lv A l C*lv A l D*lv A l (sx C.1 D.1 m,-sy C.1 C.2 D.1 m) =
  (m-l)*(m-l)*(m-l)*((C.2-m*C.1)*(C.2-m*C.1)-b)+(m-l)*(m-l)*((C.2-m*C.1)-(A.2-l*A.1))*(-((C.2-m*C.1)+(C.2-m*C.1))*m)+(m-l)*((C.2-m*C.1)-(A.2-l*A.1))*((C.2-m*C.1)-(A.2-l*A.1))*(m*m)+((C.2-m*C.1)-(A.2-l*A.1))*((C.2-m*C.1)-(A.2-l*A.1))*((C.2-m*C.1)-(A.2-l*A.1)):=by
 have h1:lv A l C=_:=R5 (A:=A) (C:=C) (l:=l) (m:=m) (x:=C.1) (y:=C.2) (afb m C.1 C.2)
 have h2:lv A l D=_:=R5 (A:=A) (C:=C) (l:=l) (m:=m) (x:=D.1) (y:=D.2) h.1
 have h3:=R5 (A:=A) (C:=C) (l:=l) (m:=m) (x:=sx C.1 D.1 m) (y:=-sy C.1 C.2 D.1 m) h.kV.1
 rw[h1,h2,h3,ae8]
 have g3:C.1*D.1*sx C.1 D.1 m=(C.2-m*C.1)*(C.2-m*C.1)-b:=TQ _ _ _ (aeY C.1 C.2 D.1 D.2 m b) oC h.2 h.1
 have g2:C.1*D.1+(C.1+D.1)*sx C.1 D.1 m=-((C.2-m*C.1)+(C.2-m*C.1))*m:=Ap _ _ (aeX C.1 C.2 D.1 D.2 m) h.2 h.1
 have g1:C.1+D.1+sx C.1 D.1 m=m*m:=aeW C.1 D.1 m
 rw[g1,g2,g3]
theorem ZQ {A B C D:F × F} {l m:F} (h:gX A B l) (k:gX C D m) (oA:cY b A) (oC:cY b C) :
  lv A l C*lv A l D*lv A l (sx C.1 D.1 m,-sy C.1 C.2 D.1 m)=-(lv C m A*lv C m B*lv C m (sx A.1 B.1 l,-sy A.1 A.2 B.1 l)):=by
 rw[Kz k oC,Kz h oA]
 exact ae9 m l (A.2-l*A.1) (C.2-m*C.1) b
variable (hb:b≠0)
include hb
theorem zt {xP yP xQ yQ xR yR l m u v l' m':F} (oP:On b xP yP) (oR:On b xR yR) (hl:Ln xP yP xQ yQ l) (hm:Ln (sx xP xQ l) (sy xP yP xQ l) xR yR m)
  (T2:xP+xQ+(u+l'*m')=(l'+m')*l) (f2P:fn u v l' m' xP yP=0) (f2R:fn u v l' m' xR yR=0) (h1:xR≠xP) (h2:xR≠xQ) (x y:F) :
  fn (sx xP xQ l) (sy xP yP xQ l) l m x y=fn u v l' m' x y:=by
 have f1P:fn (sx xP xQ l) (sy xP yP xQ l) l m xP yP=0:=Ak hl.kV
 have f1R:fn (sx xP xQ l) (sy xP yP xQ l) l m xR yR=0:=Gn hm
 have T1:xP+xQ+(sx xP xQ l+l*m)=(l+m)*l:=Zl xP xQ l m
 have hne:yR≠yP+l*(xR-xP):=by
  intro hy
  rcases hl.UN oP oR hy with e|e|e
  ·exact h1 e
  ·exact h2 e
  ·refine hm.not_neg hb (hl.fA oP) ⟨e.symm,?_⟩
   unfold sy
   rw[neg_neg,<- e]
   exact hy
 obtain⟨e1,e2,e3⟩:=same f1P f1R f2P f2R T1 T2 hne
 unfold fn
 rw[e1,e2,e3]
end
section
variable {F:Type} [Fd F] {b:F}
noncomputable def Vt (A R:F × F):F:=if A=O2 then 1 else R.1-A.1
noncomputable def Lt (A B R:F × F):F:=if A=O2 then Vt B R else if B=O2 then Vt A R else if A.1=B.1/\B.2=-A.2 then R.1-A.1 else lv A (ox A.1 A.2 B.1 B.2) R
theorem ue (R:F × F):Vt (O2:F × F) R=1:=by unfold Vt;rw[if_pos rfl]
theorem qc {A:F × F} (o:cY b A) (hb:b≠0) (R:F × F):Vt A R=R.1-A.1:=by unfold Vt;rw[if_neg (tG hb o)]
theorem qn (A R:F × F):Vt (aX A) R=Vt A R:=by
 unfold Vt
 by_cases h:A=O2
 ·subst h;rw[iC]
 ·rw[if_neg h,if_neg (fun e=>h (by have:=congrArg aX e;rwa [cR,iC] at this))];rfl
theorem nD (B R:F × F):Lt O2 B R=Vt B R:=by unfold Lt;rw[if_pos rfl]
theorem mO (A R:F × F):Lt A O2 R=Vt A R:=by
 unfold Lt
 split
 ·rename_i h;rw[h]
 ·rw[if_pos rfl]
variable (hb:b≠0)
include hb
theorem gM {A B:F × F} {l:F} (oA:cY b A) (oB:cY b B) (h:gX A B l) (R:F × F):Lt A B R=lv A l R:=by
 have hn:=h.not_neg hb oA
 unfold Lt
 rw[if_neg (tG hb oA),if_neg (tG hb oB),if_neg hn]
 rw[Ln.unique hb (Bp oA oB hn) h oA]
omit hb in
theorem kY (A R:F × F):Lt A (aX A) R=Vt A R:=by
 by_cases h:A=O2
 ·subst h;rw[iC,nD]
 ·unfold Lt Vt
  rw[if_neg h,if_neg (fun e=>h (by have:=congrArg aX e;rwa [cR,iC] at this)),if_pos ⟨rfl,rfl⟩,if_neg h]
omit hb in
theorem vg {A B:F × F} {l:F} (h:gX A B l) (R:F × F):lv A l R=lv B l R:=by
 have e:A.2+l*(R.1-A.1)=B.2+l*(R.1-B.1):=mG 1 (afa A.1 A.2 B.1 B.2 l R.1) h.1
 unfold lv;rw[e]
theorem jY {A B:F × F} (oA:aV b A) (oB:aV b B) (R:F × F):Lt A B R=Lt B A R:=by
 rcases oA with rfl|oA
 ·rw[nD,mO]
 rcases oB with rfl|oB
 ·rw[nD,mO]
 rcases fQ oA oB with rfl|⟨l,h⟩
 ·rw[kY]
  have:=kY (aX A) R
  rw[cR] at this
  rw[this,qn]
 ·rw[gM hb oA oB h,gM hb oB oA h.symm,vg h]
theorem uz {A B R:F × F} (oA:aV b A) (oB:aV b B) (oR:cY b R):Lt A B R*Lt (aX A) (ae A B) R=Vt A R*Vt B R*Vt (ae A B) R:=by
 rcases oA with rfl|oA
 ·rw[iC,ct,nD,ue,one_mul]
 rcases oB with rfl|oB
 ·rw[dD,mO,ue,mul_one]
  have:=kY (aX A) R
  rw[cR] at this
  rw[this,qn]
 rcases fQ oA oB with rfl|⟨l,h⟩
 ·rw[bE,kY,mO,ue,qn,mul_one]
 ·have ht:=h.kV
  have hn:gX (aX A) (sx A.1 B.1 l,sy A.1 A.2 B.1 l) (-l):=⟨mG _ (Zn A.1 A.2 _ _ l) ht.1,mG _ (Zo A.1 A.2 _ _ l) ht.2⟩
  have oS:cY b (sx A.1 B.1 l,sy A.1 A.2 B.1 l):=h.fA oA
  rw[bV hb oA oB h,gM hb oA oB h,gM hb (pP oA) oS hn,qc oA hb,qc oB hb,qc oS hb]
  have e1:lv (aX A) (-l) R=R.2 - -(A.2+l*(R.1-A.1)):=by
   show R.2-(-A.2 + -l*(R.1-A.1))=_
   rw[acf]
  rw[e1]
  show (R.2-(A.2+l*(R.1-A.1)))*_=_
  rw[Zp]
  have:=RQ A.1 A.2 B.1 B.2 l R.1 b
  exact O7 _ _ _ _ (TG R.1 R.2 A.1 A.2 B.1 B.2 l b) oR oA h.2 h.1
theorem Ji {A B R:F × F} (oA:aV b A) (oB:aV b B):Lt A B R=Lt B (aX (ae A B)) R:=by
 rcases oA with rfl|oA
 ·rw[ct,nD,kY]
 rcases oB with rfl|oB
 ·rw[dD,nD,mO,qn]
 rcases fQ oA oB with rfl|⟨l,h⟩
 ·rw[bE,iC,mO,kY,qn]
 ·have oS:cY b (sx A.1 B.1 l,sy A.1 A.2 B.1 l):=h.fA oA
  rw[bV hb oA oB h,gM hb oA oB h,vg h]
  exact (gM hb oB (pP oS) h.s8 R).symm
theorem JM {P R T:F × F} (oP:cY b P) (oR:cY b R) (oT:cY b T) (h1:R.1≠P.1) {l m l' m':F} (hl:gX P P l) (hm:gX (sx P.1 P.1 l,sy P.1 P.2 P.1 l) R m) (hl':gX P R l') (hm':gX P (sx P.1 R.1 l',sy P.1 P.2 R.1 l') m') :
  Lt P P T*Lt (ae P P) R T*Vt (ae P R) T=Lt P R T*Lt P (ae P R) T*Vt (ae P P) T:=by
 have oU:cY b (sx P.1 P.1 l,sy P.1 P.2 P.1 l):=hl.fA oP
 have oV:cY b (sx P.1 R.1 l',sy P.1 P.2 R.1 l'):=hl'.fA oP
 rw[bV hb oP oP hl,bV hb oP oR hl',gM hb oP oP hl,gM hb oU oR hm,gM hb oP oR hl',gM hb oP oV hm',vg hm',Ci hl rfl oP oT,Ci hl' rfl oP oT,qc oV hb,qc oU hb]
 have hV:sx P.1 R.1 l'≠P.1:=by
  intro e
  have hn:=hm'.not_neg hb oP
  have e2:sy P.1 P.2 R.1 l'=P.2:=by
   have:(sy P.1 P.2 R.1 l'-P.2)*(sy P.1 P.2 R.1 l'+P.2)=0:=by
    have oV:sy P.1 P.2 R.1 l'*sy P.1 P.2 R.1 l'=_:=oV
    have oP:P.2*P.2=P.1*P.1*P.1+b:=oP
    rw[Fq,oV,oP]
    show sx P.1 R.1 l'*sx P.1 R.1 l'*sx P.1 R.1 l'+b-_=0
    rw[e,sub_self]
   rcases mul_eq_zero this with h|h
   ·exact bq h
   ·exact absurd ⟨e.symm,(neg_eq (by rw[add_comm];exact h)).symm⟩ hn
  have hc:=cancel hb (.inr oP) (.inr oR)
  rw[bV hb oP oR hl',e,e2] at hc
  have:ae (aX P) P=R:=hc
  rw[eZ] at this
  exact tG hb oR this.symm
 have T2:P.1+P.1+(sx P.1 R.1 l'+l'*m')=(l'+m')*l:=by
  have e:=O7 _ _ _ _ (Zw P.1 P.2 (sx P.1 R.1 l') (sy P.1 P.2 R.1 l') l' m' l) hl'.kV.1 hm'.1 hl'.kV.2 hl.2
  exact bq ((mul_eq_zero e).resolve_left (mL hV))
 have e:=zt (u:=sx P.1 R.1 l') (v:=sy P.1 P.2 R.1 l') (l':=l') (m':=m') hb oP oR hl hm T2 (Ak hl'.kV) (Ak hl'.s8) h1 h1 T.1 T.2
 show _*fn (sx P.1 P.1 l) (sy P.1 P.2 P.1 l) l m T.1 T.2*_=_*fn (sx P.1 R.1 l') (sy P.1 P.2 R.1 l') l' m' T.1 T.2*_
 rw[e]
 exact TH _ _ _
theorem N1 {P Q R T:F × F} (oP:cY b P) (oQ:cY b Q) (oR:cY b R) (oT:cY b T) (h0:Q.1≠P.1) (h1:R.1≠P.1) (h2:R.1≠Q.1) {l m l' m':F} (hl:gX P Q l) (hm:gX (sx P.1 Q.1 l,sy P.1 P.2 Q.1 l) R m) (hl':gX Q R l') (hm':gX P (sx Q.1 R.1 l',sy Q.1 Q.2 R.1 l') m') :
  Lt P Q T*Lt (ae P Q) R T*Vt (ae Q R) T=Lt Q R T*Lt P (ae Q R) T*Vt (ae P Q) T:=by
 have oU:cY b (sx P.1 Q.1 l,sy P.1 P.2 Q.1 l):=hl.fA oP
 have oV:cY b (sx Q.1 R.1 l',sy Q.1 Q.2 R.1 l'):=hl'.fA oQ
 rw[bV hb oP oQ hl,bV hb oQ oR hl',gM hb oP oQ hl,gM hb oU oR hm,gM hb oQ oR hl',gM hb oP oV hm',vg hm',Ci hl rfl oP oT,Ci hl' rfl oQ oT,qc oV hb,qc oU hb]
 have f2P:fn (sx Q.1 R.1 l') (sy Q.1 Q.2 R.1 l') l' m' P.1 P.2=0:=Gn hm'.symm
 have f2Q:fn (sx Q.1 R.1 l') (sy Q.1 Q.2 R.1 l') l' m' Q.1 Q.2=0:=Ak hl'.kV
 have T2:P.1+Q.1+(sx Q.1 R.1 l'+l'*m')=(l'+m')*l:=by
  have e:=TQ _ _ _ (Zv P.1 Q.1 (sx Q.1 R.1 l'+l'*m') (l'+m') l P.2 Q.2 _) f2Q f2P hl.1
  exact bq ((mul_eq_zero e).resolve_left (mL h0))
 have e:=zt (u:=sx Q.1 R.1 l') (v:=sy Q.1 Q.2 R.1 l') (l':=l') (m':=m') hb oP oR hl hm T2 f2P (Ak hl'.s8) h1 h2 T.1 T.2
 show _*fn (sx P.1 Q.1 l) (sy P.1 P.2 Q.1 l) l m T.1 T.2*_=_*fn (sx Q.1 R.1 l') (sy Q.1 Q.2 R.1 l') l' m' T.1 T.2*_
 rw[e]
 exact TH _ _ _
theorem cyc {P Q R T:F × F} (oP:aV b P) (oQ:aV b Q) (oR:aV b R) (oT:cY b T):Lt P Q T*Lt (ae P Q) R T*Vt (ae Q R) T=Lt Q R T*Lt P (ae Q R) T*Vt (ae P Q) T:=by
 have oPQ:=dP hb oP oQ
 have oQR:=dP hb oQ oR
 by_cases c1:Q=aX P
 ·subst c1
  rw[kY,bE,nD,ue,mul_one]
  have n:=uz hb (cP oP) oR oT
  rw[cR,qn] at n
  exact n.symm
 by_cases c2:R=aX Q
 ·subst c2
  rw[kY,bE,mO,ue,mul_one]
  have n:=uz hb oQ oP oT
  rw[jY hb oPQ (cP oQ),jY hb oP oQ,dK hb oP oQ]
  exact n
 by_cases c3:R=P
 ·subst c3
  rw[jY hb oPQ oR,dK hb oR oQ,jY hb oR oQ]
 by_cases c4:R=aX P
 ·subst c4
  have n1:=uz hb oP oQ oT
  have n2:=uz hb (cP oP) oQ oT
  rw[cR,qn] at n2
  rw[jY hb oPQ (cP oP),n1,dK hb oQ (cP oP),jY hb oQ (cP oP),n2]
  exact acg _ _ _ _
 by_cases c5:R=aX (ae P Q)
 ·have k:=Ei hb oP oQ c5
  rw[k,qn,kY,c5,kY,<- Ji hb oP oQ]
  exact ach _ _ _
 by_cases c6:ae Q R=aX P
 ·exfalso
  refine c5 ?_
  have h1:P=aX (ae Q R):=by rw[c6,cR]
  have h2:ae R P=aX Q:=Ei hb oQ oR h1
  have h4:Q=aX (ae R P):=by rw[h2,cR]
  have h5:ae P Q=aX R:=Ei hb oR oP h4
  rw[h5,cR]
 rcases oP with rfl|oP
 ·rw[ct,nD,nD]
  exact aci _ _ _
 rcases oQ with rfl|oQ
 ·rw[ct,dD,mO,nD]
  exact acj _ _ _
 rcases oR with rfl|oR
 ·rw[dD,mO,mO]
  exact ack _ _ _
 obtain⟨l,hl⟩:=(fQ oP oQ).resolve_left c1
 obtain⟨l',hl'⟩:=(fQ oQ oR).resolve_left c2
 have eU:=bV hb oP oQ hl
 have eV:=bV hb oQ oR hl'
 have oU:cY b (ae P Q):=by rw[eU];exact hl.fA oP
 have oV:cY b (ae Q R):=by rw[eV];exact hl'.fA oQ
 obtain⟨m,hm⟩:=(fQ oU oR).resolve_left c5
 obtain⟨m',hm'⟩:=(fQ oP oV).resolve_left c6
 rw[eU] at hm
 rw[eV] at hm'
 have n1:R.1≠P.1:=BE oP oR c3 c4
 by_cases c7:Q=P
 ·subst c7
  exact JM hb oP oR oT n1 hl hm hl' hm'
 by_cases c8:R=Q
 ·subst c8
  have k:=hl.symm
  rw[jY hb oPQ (.inr oR),dK hb (.inr oP) (.inr oR),jY hb (.inr oP) (.inr oR),jY hb (.inr oP) oQR]
  have n2:P.1≠R.1:=fun e=>n1 e.symm
  refine (JM hb oR oP oT n2 (m:=m') (m':=m) hl' hm'.symm k ?_).symm
  have hm:=hm.symm
  rw[rL P.1,z6 hl] at hm
  exact hm
 exact N1 hb oP oQ oR oT (BE oP oQ c7 c1) n1 (BE oQ oR c8 c2) hl hm hl' hm'
end
end Cr
