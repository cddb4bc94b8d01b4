import Derived.Test.YtofofalgjibokaaGreatDoorMLrkPD
set_option maxRecDepth 100000
noncomputable section
open List(drop length mem_cons mem_map range replicate take)
open Nat(beq ble blt)
open Int(toNat)
namespace Go.Proofs.YtofofalgjibokaaGreatDoor
namespace rite
set_option maxHeartbeats 4000000
open Go.Eng Go.RowKit Cr hub deal
def nb (d:List Int) (n:Int) (o:List (Fp × Fp)) (a:Int) (b:List Int):List (Fp × Fp) × Int:=eR (pg d n o a b)
theorem afM:aO Tryz.prog 82 [dR,.int .i64,.sl (.int .u8)] [.val (.sl aQ),.val (.int .i64)] bB Kc (fun ((d,_,n,o),a,b,_)=>((nb d n o a b).1,(nb d n o a b).2,())):=aO.out vd.ahY fun ((d,_,n,o),a,b,_)=>by show ((nb d n o a b).1,(nb d n o a b).2,())=((pg d n o a b).1,(pg d n o a b).2,());rw[nb,bm]
def ajn:Nat × Eng.Spec:=(82,aK [dR,.int .i64,.sl (.int .u8)] [.val (.sl aQ),.val (.int .i64)] Kc (fun ((d,_,n,o),a,b,_)=>((nb d n o a b).1,(nb d n o a b).2,())))
def Xc:Nat × Eng.Spec:=(84,aK [fu] [.val (.sl cG)] (fun (t,_)=>length t.2.2<1048576/\Bs t.2.2) (fun (t,_)=>(eV t,())))
def eQ (R:Rt) (t:Hbm.Told):Rt :=
 if t.1=1 then (if (nb R.dealers R.need R.old t.2.1 t.2.2).2=0 then { R with deals:=R.deals++[(t.2.1,(nb R.dealers R.need R.old t.2.1 t.2.2).1)] } else R)
 else if t.1=2 then (if R.phase<3 then { R with faults:=R.faults++[uf t] } else R)
 else if t.1=3 then { R with proofs:=R.proofs++eV t } else R
def iO (R:Rt) (a:List Hbm.Told):Rt:=a.foldl eQ R
def oC (t:Hbm.Told):Prop:=t.2.2.length<1000000/\Bs t.2.2/\fy t.2.1
structure RtOk (R:Rt):Prop where
 dealers:R.dealers.length<1000
 old:R.old.length<1000
 deals:R.deals.length<1000000
 faults:R.faults.length<1000000
 proofs:R.proofs.length<1000000000000
theorem Mk:∀ (bU:Int) (k:Nat) (b:List Int),(p8 bU k b).length<=k
 | _,0,_=>aI _
 | bU,k+1,b=>by
  rw[p8,a7];have a:=Mk bU k (b.drop 33);have c:(CD bU b).length<=1:=by unfold CD;split<;>simp
  omega
theorem GJ (t:Hbm.Told):(eV t).length<=t.2.2.length:=by have h:=Mk t.2.1 (t.2.2.length/33) t.2.2;unfold eV;omega
structure A5 (R S:Rt):Prop where
 p:S.p=R.p
 me:S.me=R.me
 dealers:S.dealers=R.dealers
 takers:S.takers=R.takers
 need:S.need=R.need
 old:S.old=R.old
 a6:S.a6=R.a6
 start:S.start=R.start
 span:S.span=R.span
 phase:S.phase=R.phase
 hub:S.hub=R.hub
 a5:S.a5=R.a5
 shares:S.shares=R.shares
 fault:S.fault=R.fault
theorem A5.rfl {R:Rt}:A5 R R:=⟨_root_.rfl,_root_.rfl,_root_.rfl,_root_.rfl,_root_.rfl,_root_.rfl,_root_.rfl,_root_.rfl,_root_.rfl,_root_.rfl,_root_.rfl,_root_.rfl,_root_.rfl,_root_.rfl⟩
theorem A5.trans {R S T:Rt} (h:A5 R S) (k:A5 S T):A5 R T:=⟨k.p.trans h.p,k.me.trans h.me,k.dealers.trans h.dealers,k.takers.trans h.takers,k.need.trans h.need,k.old.trans h.old,k.a6.trans h.a6,k.start.trans h.start,k.span.trans h.span,k.phase.trans h.phase,k.hub.trans h.hub,k.a5.trans h.a5,k.shares.trans h.shares,k.fault.trans h.fault⟩
theorem QK (R:Rt) (t:Hbm.Told):A5 R (eQ R t):=by unfold eQ;split;split<;>constructor<;>exact _root_.rfl;split;split<;>constructor<;>exact _root_.rfl;split<;>constructor<;>exact _root_.rfl
theorem uS:∀ (a:List Hbm.Told) (R:Rt),A5 R (iO R a)
 | [],_=>.rfl
 | t::a,R=>(QK R t).trans (uS a (eQ R t))
theorem Td (R:Rt) (t:Hbm.Told):(eQ R t).deals.length<=R.deals.length+1/\(eQ R t).faults.length<=R.faults.length+1/\(eQ R t).proofs.length<=R.proofs.length+t.2.2.length:=by have:=GJ t;unfold eQ;split;split;simp;omega;split;split;simp;omega;split;simp;omega;omega
theorem Cd:∀ (a:List Hbm.Told) (R:Rt),(∀ t∈a,oC t)->(iO R a).deals.length<=R.deals.length+a.length/\(iO R a).faults.length<=R.faults.length+a.length/\(iO R a).proofs.length<=R.proofs.length+1000000*a.length
 | [],_,_=>⟨aI _,aI _,aI _⟩
 | t::a,R,h=>by have d:=Td R t;have e:=Cd a (eQ R t) (fun u b=>h u (by simp[b]));have f:=(h t aw).1;show (iO (eQ R t) a).deals.length<=_/\(iO (eQ R t) a).faults.length<=_/\(iO (eQ R t) a).proofs.length<=_;simp only[bN];omega
theorem QL (R:Rt) (a:List Hbm.Told) (t:Hbm.Told):iO R (a++[t])=eQ (iO R a) t:=by unfold iO;rw[Bw];rfl
theorem qv:enters Tryz.prog 47 Tryz.f47:=ek
abbrev q6:Func:=Tryz.f47
def so (p:Nat) (a:List Hbm.Told) (k:Int):St:=av q6.ntmps 8 [(0,aB p),(8,ag (.ro fu a)),(9,sI .i64 a.length),(10,sI .i64 k)] []
def Yr (p:Nat) (a:List Hbm.Told) (k:Int) (t:Hbm.Told):St:=av q6.ntmps 8 [(0,aB p),(8,ag (.ro fu a)),(9,sI .i64 a.length),(10,sI .i64 k),(5,ao 0 0),(15,sI .i64 t.1)] [(0,DJ t)]
def sq (p:Nat) (a:List Hbm.Told) (k:Int) (t:Hbm.Told) (s:Nat) (q:Bool):St:=av q6.ntmps 8 [(0,aB p),(8,ag (.ro fu a)),(9,sI .i64 a.length),(10,sI .i64 k),(5,ao 0 0),(15,sI .i64 t.1),(s,aA q)] [(0,DJ t)]
abbrev Wh:=aU [ajn,aby,Xc]
theorem fT:aJ Tryz.prog Wh:=aM (aR afM) (aM (aR VT) (aM (aR SR.AR) bD))
abbrev hsC:Code:=ar (al q6) 1
abbrev hsL:List Code:=aV hsC
abbrev hsB:List Code:=cV (ar hsL 2)
abbrev D5:List Code:=cV (ar hsB 2)
abbrev nS:List Code:=fX (ar D5 1)
abbrev Lp:List Code:=rD (ar D5 1)
abbrev OH:List Code:=fX (ar Lp 1)
abbrev adI:List Code:=rD (ar Lp 1)
def Lq (R:Rt) (a:List Hbm.Told) (k:Int) (t:Hbm.Told) (b:List (Nat × SV)):St:=av q6.ntmps 14 ([(0,ao 8 0),(8,ag (.ro fu a)),(9,sI .i64 a.length),(10,sI .i64 k),(5,ao 0 0)]++b) ((0,DJ t)::hU R (bn++[.v (.int .i64 R.fault)]))
section
variable (gl:Nat->Option (Sigma aH)) (w0:World) (M0:Mem) (F0:Nat->Prop)
abbrev uh:Ob.cf:=Ob.lj Tryz.prog Wh gl w0 M0 F0
def adJ (R:Rt) (a:List Hbm.Told) (k:Int) (q:List (Int × List Pt)):St:=av q6.ntmps 95 [(0,ao 8 0),(8,ag (.ro fu a)),(9,sI .i64 a.length),(10,sI .i64 k)] [(8,lL R 94 10 11 12 13 (R.deals.length+1) R.faults.length R.proofs.length R.a5.length R.shares.length (bn++[.v (.int .i64 R.fault)])),(94,[.row cy (R.deals.length+1) q]),(10,[.row cB R.faults.length R.faults]),(11,[.row cG R.proofs.length R.proofs]),(12,[.ints .i64 R.a5.length R.a5]),(13,[.row .fr R.shares.length R.shares])]
def adK (R:Rt) (a:List Hbm.Told) (k:Int) (q:List (Int × List Int)):St:=av q6.ntmps 79 [(0,ao 8 0),(8,ag (.ro fu a)),(9,sI .i64 a.length),(10,sI .i64 k)] [(8,lL R 9 78 11 12 13 R.deals.length (R.faults.length+1) R.proofs.length R.a5.length R.shares.length (bn++[.v (.int .i64 R.fault)])),(9,[.row cy R.deals.length R.deals]),(78,[.row cB (R.faults.length+1) q]),(11,[.row cG R.proofs.length R.proofs]),(12,[.ints .i64 R.a5.length R.a5]),(13,[.row .fr R.shares.length R.shares])]
def adL (R:Rt) (a:List Hbm.Told) (k:Int) (m:Nat) (q:List (Int × Int × Fr)):St:=av q6.ntmps 71 [(0,ao 8 0),(8,ag (.ro fu a)),(9,sI .i64 a.length),(10,sI .i64 k)] [(8,lL R 9 10 70 12 13 R.deals.length R.faults.length (R.proofs.length+m) R.a5.length R.shares.length (bn++[.v (.int .i64 R.fault)])),(9,[.row cy R.deals.length R.deals]),(10,[.row cB R.faults.length R.faults]),(70,[.row cG (R.proofs.length+m) q]),(12,[.ints .i64 R.a5.length R.a5]),(13,[.row .fr R.shares.length R.shares])]
theorem aie (R:Rt) (e:RtOk R) (a:List Hbm.Told) (k:Int) (t:Hbm.Told) (f:oC t) (g:t.1=1) {n i:ax} {x:Nat->ax}
  (h:Ob.aN Tryz.prog [] (Ob.GH (uh gl w0 M0 F0) q6.ntmps (so R.p a k) (bA (eQ R t))) n i x) :
  Ob.aN Tryz.prog D5 (Ob.GH (uh gl w0 M0 F0) q6.ntmps (Yr R.p a k t) (bA R)) n i x:=by
 unfold eQ at h;rw[ak g] at h;refine Ob.gcd fT 1 (fun d=>bo .bool 16 d) (fun q=>sq R.p a k t 16 q) (fun q=>q=true) ?_ (fun q b=>?_);intros;refine @aq ((sq R.p a k t 16 (t.fst==1)).ah ((t.fst==1)=true)) _ ?_ ?_;kernel_rfl;exact au (by simp[g]);subst b;refine Ob.je (ar D5 1) ?_;unfold bA at *;refine Ob.gR [0] (Lq R a k t []) ?_;refine Ob.gcd fT 2 (fun d=>bo .bool 31 d) (fun q=>Lq R a k t [(6,ag (.ro aQ (nb R.dealers R.need R.old t.2.1 t.2.2).1)),(31,aA q)]) (fun q=>q=decide ((nb R.dealers R.need R.old t.2.1 t.2.2).2=0)) ?_ (fun q b=>?_);intros;refine @aq (Kc ((R.dealers,R.takers,R.need,R.old),t.snd.fst,t.snd.snd,())/\(Lq R a k t [(6,SV.is (TV.one (Cell.ro aQ (nb R.dealers R.need R.old t.snd.fst t.snd.snd).fst))),(31,aA ((nb R.dealers R.need R.old t.snd.fst t.snd.snd).snd==0))]).ah (((nb R.dealers R.need R.old t.snd.fst t.snd.snd).snd==0)=decide ((nb R.dealers R.need R.old t.snd.fst t.snd.snd).snd=0))) _ ?_ ?_;kernel_rfl;exact⟨⟨by show R.dealers.length<_;have:=e.dealers;omega,⟨by show R.old.length<_;have:=e.old;omega,f.2.2⟩,f.2.1,by have:=f.1;show t.2.2.length<=_;omega⟩,au rfl⟩;cases q;rw[ai (Odf b.symm)] at h;refine Ob.e5 (ar nS 2) ?_;refine Ob.fj (E:=uh gl w0 M0 F0) (bl:=dE R (bn++[.v (.int .i64 R.fault)])) [] [8,9,10,11,12,13] 9 (so R.p a k) ?_;exact h;rw[ak (Odt b.symm)] at h;refine Ob.je (ar nS 2) ?_;refine Ob.gcd fT 1 (fun d=>cT cy 94 d) (fun q=>adJ R a k q) (fun q=>q=R.deals++[(t.2.1,(nb R.dealers R.need R.old t.2.1 t.2.2).1)]) ?_ (fun q b=>?_);have j:=e.deals;intros;refine @aq (0+1<=1/\R.deals.length<=R.deals.length/\(R.deals.length+1)*32<=140737488355328/\R.deals.length+1<=4611686018427387904/\(adJ R a k (take R.deals.length R.deals++take 1 [(t.snd.fst,(nb R.dealers R.need R.old t.snd.fst t.snd.snd).fst)])).ah (take R.deals.length R.deals++take 1 [(t.snd.fst,(nb R.dealers R.need R.old t.snd.fst t.snd.snd).fst)]=R.deals++[(t.snd.fst,(nb R.dealers R.need R.old t.snd.fst t.snd.snd).fst)])) _ ?_ ?_;kernel_rfl;refine⟨ae,aI _,aa,aa,au ?_⟩;rw[aT];rfl;subst b;refine Ob.fj (E:=uh gl w0 M0 F0) (bl:=[lL R 1 2 3 4 5 (R.deals.length+1) R.faults.length R.proofs.length R.a5.length R.shares.length (bn++[.v (.int .i64 R.fault)]),[.row cy (R.deals.length+1) (R.deals++[(t.2.1,(nb R.dealers R.need R.old t.2.1 t.2.2).1)])],[.row cB R.faults.length R.faults],[.row cG R.proofs.length R.proofs],[.ints .i64 R.a5.length R.a5],[.row .fr R.shares.length R.shares]]) [] [8,94,10,11,12,13] 9 (so R.p a k) ?_;refine Ob.aP ?_ h;unfold dE lL;simp only[a7,bN,eH,bO]
theorem aif (R:Rt) (i:RtOk R) (a:List Hbm.Told) (k:Int) (t:Hbm.Told) (f:oC t) (e:t.1=2) {n g:ax} {x:Nat->ax}
  (h:Ob.aN Tryz.prog [] (Ob.GH (uh gl w0 M0 F0) q6.ntmps (so R.p a k) (bA (eQ R t))) n g x) :
  Ob.aN Tryz.prog D5 (Ob.GH (uh gl w0 M0 F0) q6.ntmps (Yr R.p a k t) (bA R)) n g x:=by
 unfold eQ at h;rw[ai (by rw[e];decide),ak e] at h;refine Ob.gcd fT 1 (fun d=>bo .bool 16 d) (fun q=>sq R.p a k t 16 q) (fun q=>q=false) ?_ (fun q b=>?_);intros;refine @aq ((sq R.p a k t 16 (t.fst==1)).ah ((t.fst==1)=false)) _ ?_ ?_;kernel_rfl;exact au (by simp[e]);subst b;refine Ob.e5 (ar D5 1) ?_;refine Ob.gcd fT 1 (fun d=>bo .bool 45 d) (fun q=>sq R.p a k t 45 q) (fun q=>q=true) ?_ (fun q b=>?_);intros;refine @aq ((sq R.p a k t 45 (t.fst==2)).ah ((t.fst==2)=true)) _ ?_ ?_;kernel_rfl;exact au (by simp[e]);subst b;refine Ob.je (ar Lp 1) ?_;unfold bA at *;refine Ob.gR [0] (Lq R a k t []) ?_;refine Ob.gcd fT 1 (fun d=>bo .bool 51 d) (fun q=>Lq R a k t [(51,aA q)]) (fun q=>q=decide (R.phase<3)) ?_ (fun q b=>?_);intros;refine @aq ((Lq R a k t [(51,aA (decide (R.phase<3)))]).ah (decide (R.phase<3)=decide (R.phase<3))) _ ?_ ?_;kernel_rfl;exact au rfl;cases q;rw[ai (Odf b.symm)] at h;refine Ob.e5 (ar OH 1) ?_;refine Ob.fj (E:=uh gl w0 M0 F0) (bl:=dE R (bn++[.v (.int .i64 R.fault)])) [] [8,9,10,11,12,13] 9 (so R.p a k) ?_;exact h;rw[ak (Odt b.symm)] at h;refine Ob.je (ar OH 1) ?_;refine Ob.gcd fT 1 (fun d=>cT cB 78 d) (fun q=>adK R a k q) (fun q=>q=R.faults++[uf t]) ?_ (fun q b=>?_);have j:=i.faults;intros;refine @aq ((t.snd.snd.length<1048576/\Bs t.snd.snd)/\0+1<=1/\R.faults.length<=R.faults.length/\(R.faults.length+1)*32<=140737488355328/\R.faults.length+1<=4611686018427387904/\(adK R a k (take R.faults.length R.faults++take 1 [t.snd])).ah (take R.faults.length R.faults++take 1 [t.snd]=R.faults++[uf t])) _ ?_ ?_;kernel_rfl;refine⟨⟨by have:=f.1;omega,f.2.1⟩,ae,aI _,aa,aa,au ?_⟩;rw[aT];rfl;subst b;refine Ob.fj (E:=uh gl w0 M0 F0) (bl:=[lL R 1 2 3 4 5 R.deals.length (R.faults.length+1) R.proofs.length R.a5.length R.shares.length (bn++[.v (.int .i64 R.fault)]),[.row cy R.deals.length R.deals],[.row cB (R.faults.length+1) (R.faults++[uf t])],[.row cG R.proofs.length R.proofs],[.ints .i64 R.a5.length R.a5],[.row .fr R.shares.length R.shares]]) [] [8,9,78,11,12,13] 9 (so R.p a k) ?_;refine Ob.aP ?_ h;unfold dE lL;simp only[a7,bN,eH,bO]
theorem aih (R:Rt) (i:RtOk R) (a:List Hbm.Told) (k:Int) (t:Hbm.Told) (f:oC t) (e:t.1=3) {n g:ax} {x:Nat->ax}
  (h:Ob.aN Tryz.prog [] (Ob.GH (uh gl w0 M0 F0) q6.ntmps (so R.p a k) (bA (eQ R t))) n g x) :
  Ob.aN Tryz.prog D5 (Ob.GH (uh gl w0 M0 F0) q6.ntmps (Yr R.p a k t) (bA R)) n g x:=by
 unfold eQ at h;rw[ai (by rw[e];decide),ai (by rw[e];decide),ak e] at h;refine Ob.gcd fT 1 (fun d=>bo .bool 16 d) (fun q=>sq R.p a k t 16 q) (fun q=>q=false) ?_ (fun q b=>?_);intros;refine @aq ((sq R.p a k t 16 (t.fst==1)).ah ((t.fst==1)=false)) _ ?_ ?_;kernel_rfl;exact au (by simp[e]);subst b;refine Ob.e5 (ar D5 1) ?_;refine Ob.gcd fT 1 (fun d=>bo .bool 45 d) (fun q=>sq R.p a k t 45 q) (fun q=>q=false) ?_ (fun q b=>?_);intros;refine @aq ((sq R.p a k t 45 (t.fst==2)).ah ((t.fst==2)=false)) _ ?_ ?_;kernel_rfl;exact au (by simp[e]);subst b;refine Ob.e5 (ar Lp 1) ?_;refine Ob.gcd fT 1 (fun d=>bo .bool 63 d) (fun q=>sq R.p a k t 63 q) (fun q=>q=true) ?_ (fun q b=>?_);intros;refine @aq ((sq R.p a k t 63 (t.fst==3)).ah ((t.fst==3)=true)) _ ?_ ?_;kernel_rfl;exact au (by simp[e]);subst b;refine Ob.je (ar adI 1) ?_;unfold bA at *;refine Ob.gR [0] (Lq R a k t []) ?_;refine Ob.gcd fT 1 (fun d=>cT cG 70 d) (fun q=>adL R a k (eV t).length q) (fun q=>q=R.proofs++eV t) ?_ (fun q b=>?_);have m:=i.proofs;intros;refine @aq ((t.snd.snd.length<1048576/\Bs t.snd.snd)/\R.proofs.length<=R.proofs.length/\(R.proofs.length+(eV t).length)*48<=140737488355328/\R.proofs.length+(eV t).length<=4611686018427387904/\(adL R a k (eV t).length (take R.proofs.length R.proofs++(eV t,()).fst)).ah (take R.proofs.length R.proofs++eV t=R.proofs++eV t)) _ ?_ ?_;kernel_rfl;have l:=GJ t;have j:=f.1;refine⟨⟨aa,f.2.1⟩,aI _,aa,aa,au ?_⟩;rw[aT];subst b;refine Ob.fj (E:=uh gl w0 M0 F0) (bl:=[lL R 1 2 3 4 5 R.deals.length R.faults.length (R.proofs.length+(eV t).length) R.a5.length R.shares.length (bn++[.v (.int .i64 R.fault)]),[.row cy R.deals.length R.deals],[.row cB R.faults.length R.faults],[.row cG (R.proofs.length+(eV t).length) (R.proofs++eV t)],[.ints .i64 R.a5.length R.a5],[.row .fr R.shares.length R.shares]]) [] [8,9,10,70,12,13] 9 (so R.p a k) ?_;refine Ob.aP ?_ h;unfold dE lL;simp only[a7]
theorem aii (R:Rt) (j:RtOk R) (a:List Hbm.Told) (k:Int) (t:Hbm.Told) (e:t.1≠1) (f:t.1≠2) (g:t.1≠3) {n i:ax} {x:Nat->ax}
  (h:Ob.aN Tryz.prog [] (Ob.GH (uh gl w0 M0 F0) q6.ntmps (so R.p a k) (bA (eQ R t))) n i x) :
  Ob.aN Tryz.prog D5 (Ob.GH (uh gl w0 M0 F0) q6.ntmps (Yr R.p a k t) (bA R)) n i x:=by
 unfold eQ at h;rw[ai e,ai f,ai g] at h;refine Ob.gcd fT 1 (fun d=>bo .bool 16 d) (fun q=>sq R.p a k t 16 q) (fun q=>q=false) ?_ (fun q b=>?_);intros;refine @aq ((sq R.p a k t 16 (t.fst==1)).ah ((t.fst==1)=false)) _ ?_ ?_;kernel_rfl;exact au (by simp[e]);subst b;refine Ob.e5 (ar D5 1) ?_;refine Ob.gcd fT 1 (fun d=>bo .bool 45 d) (fun q=>sq R.p a k t 45 q) (fun q=>q=false) ?_ (fun q b=>?_);intros;refine @aq ((sq R.p a k t 45 (t.fst==2)).ah ((t.fst==2)=false)) _ ?_ ?_;kernel_rfl;exact au (by simp[f]);subst b;refine Ob.e5 (ar Lp 1) ?_;refine Ob.gcd fT 1 (fun d=>bo .bool 63 d) (fun q=>sq R.p a k t 63 q) (fun q=>q=false) ?_ (fun q b=>?_);intros;refine @aq ((sq R.p a k t 63 (t.fst==3)).ah ((t.fst==3)=false)) _ ?_ ?_;kernel_rfl;exact au (by simp[g]);subst b;refine Ob.e5 (ar adI 1) ?_;refine Ob.fR (so R.p a k) ?_;exact h
end
def hsY (p:Nat) (a:List Hbm.Told) (k:Int) (t:Hbm.Told):St:=av q6.ntmps 8 [(0,aB p),(8,ag (.ro fu a)),(9,sI .i64 a.length),(10,sI .i64 k),(5,ao 0 0),(15,sI .i64 t.1)] [(0,DJ t)]
theorem H6 (gl:Nat->Option (Sigma aH)):Ob.ez Tryz.prog gl 47 (fun z:Rt × List Hbm.Told=>[aB z.1.p,ag (.ro fu z.2)]) (fun z=>z.1.dealers.length<1000/\z.1.old.length<1000/\z.1.deals.length<500000/\z.1.faults.length<500000/\z.1.proofs.length<500000000000/\z.2.length<100/\∀ t∈z.2,oC t)
  (fun z=>bA z.1) (fun _ (_:Unit)=>.tup []) (fun z _=>bA (iO z.1 z.2)) (fun _ _=>True):=by
 refine Ob.c9 (sp:=Wh) qv ab (fun z=>by show 2<=q6.ntmps;exact Odt ab) (fun z _=>rfl) ?_;rintro⟨R,a⟩ ⟨u,x,y,A,C,n,e⟩ w0 M0 F0;have n:a.length<100:=n;have e:∀ t∈a,oC t:=e;refine Ob.eK fT 1 (so R.p a 0) ?_;refine Ob.vf fT mixed (c:=hsC) (fun k=>so R.p a (k:Int)) (fun k=>bA (iO R (a.take k))) a.length ab ab (fun k g w ids M num=>?_) (fun k g=>?_) ?_;refine aq (X:=((decide ((k:Int)<(a.length:Int))=true->(so R.p a (k:Int)).ah (k<a.length))/\(decide ((k:Int)<(a.length:Int))=false->(so R.p a (k:Int)).ah (k=a.length)))) ab ?_;exact⟨fun h=>au (by have:=dec_lt h;omega),fun h=>au (by have:=bX h;omega)⟩
 ·have f:=uS (a.take k) R;have i:=Cd (a.take k) R (fun t H=>e t (nm H));rw[c5] at i;have b:RtOk (iO R (a.take k)):=by
   refine⟨by rw[f.dealers];exact u,by rw[f.old];exact x,?_,?_,?_⟩;have:R.deals.length<500000:=y;omega;have:R.faults.length<500000:=A;omega;have:R.proofs.length<500000000000:=C;omega
  have j:iO R (a.take (k+1))=eQ (iO R (a.take k)) (a.getD k (0,0,[])):=by rw[cw g,QL,a2,bu g];rfl
  have d:oC (a.getD k (0,0,[])):=by rw[a2,bu g];exact e _ (dr g)
  rw[j];refine Ob.dL (E:=uh gl w0 M0 F0) (c:=ar hsL 2) (Ob.GH (uh gl w0 M0 F0) q6.ntmps (so R.p a (k:Int)) (bA (eQ (iO R (a.take k)) (a.getD k (0,0,[]))))) ab ab ?_ ?_;refine Ob.kO fT mixed 2 [(0,24)] (fun l=>p3 fu 0 l) (fun t=>hsY R.p a (k:Int) t) (fun t=>t=a.getD k (0,0,[])) (fun _=>False) (fun _ _=>False) ?_ (fun t F=>?_) (fun _ _ _ h _=>h.elim) (fun _ _ _ _ h _=>h.elim);intros;refine @aq ((0<=(k:Int)/\(k:Int)<(a.length:Int))/\(k:Int).toNat<a.length/\(hsY R.p a (k:Int) (a.getD (k:Int).toNat (0,0,[]))).ah (a.getD (k:Int).toNat (0,0,[])=a.getD k (0,0,[]))) _ ?_ ?_;kernel_rfl;rw[aF];exact⟨⟨aa,aa⟩,g,au rfl⟩;rw[<- F] at d ⊢;refine Ob.dL (E:=uh gl w0 M0 F0) (c:=ar hsB 2) (Ob.GH (uh gl w0 M0 F0) q6.ntmps (so R.p a (k:Int)) (bA (eQ (iO R (a.take k)) t))) ab ab ?_ (Ob.cr fun _ _ h=>h);have D:=f.p;rw[<- D];by_cases o:t.1=1;exact aie gl w0 M0 F0 _ b a k t d o (Ob.cr fun _ _ h=>h);by_cases r:t.1=2;exact aif gl w0 M0 F0 _ b a k t d r (Ob.cr fun _ _ h=>h);by_cases s:t.1=3;exact aih gl w0 M0 F0 _ b a k t d s (Ob.cr fun _ _ h=>h);exact aii gl w0 M0 F0 _ b a k t o r s (Ob.cr fun _ _ h=>h);refine Ob.gcd fT 1 (fun l=>bo iK 10 l) (fun q=>so R.p a q) (fun q=>q=((k+1:Nat):Int)) ?_ (fun q G=>?_);intros;refine @aq ((so R.p a (IntKind.i64.wrap ((k:Int)+1))).ah (IntKind.i64.wrap ((k:Int)+1)=(↑(k+1):Int))) _ ?_ ?_;kernel_rfl;exact au (aS aa);subst G;exact Ob.cr fun _ _ h=>h
 rw[aT];exact Ob.sn fT (.tup []) ⟨(),trivial,Ob.br _,rfl⟩
set_option maxHeartbeats 4000000
open Go.Hbn(Talk bb eG)
theorem Ei (H:bb) (i:Nat) (m:Hbm.aG):∀ x∈(Hbn.kh H i m).2.2,x=(m.bI,m.bU,m.body):=by unfold Hbn.kh;split;intro x a;simpa using a;intro x a;cases a
theorem tB {rec:bb->Hbm.aG->eG} (a:∀ H m,∀ x∈(rec H m).2.2,x=(m.bI,m.bU,m.body)) (H:bb) (i:Nat) (m:Hbm.aG):∀ x∈(Hbn.dJ rec H i m).2.2,x=(m.bI,m.bU,m.body):=by unfold Hbn.dJ;split;intro x hx;rcases List.mem_append.1 hx with hx|hx;exact a _ (Hbn.own (H.set i { H.get i with ready:=true }) 3 m) x hx;exact Ei _ i m x hx;exact Ei H i m
theorem AE {rec:bb->Hbm.aG->eG} (a:∀ H m,∀ x∈(rec H m).2.2,x=(m.bI,m.bU,m.body)) (H:bb) (m:Hbm.aG):∀ x∈(Hbn.ji rec H m).2.2,x=(m.bI,m.bU,m.body)/\Hbn.counts H.mem m=true:=by unfold Hbn.ji;split;rename_i b;intro x hx;refine⟨?_,b⟩;revert x hx;show ∀ x∈(Hbn.mK rec H (H.at m) m).2.2,x=(m.bI,m.bU,m.body);unfold Hbn.mK;split;split;intro x hx;rcases List.mem_append.1 hx with hx|hx;exact a _ (Hbn.own (H.set (H.at m) { H.get (H.at m) with begun:=true }) 2 m) x hx;exact tB a _ _ m x hx;exact tB a H _ m;split;split;intro x hx;cases hx;exact tB a _ _ m;split;intro x hx;cases hx;exact tB a _ _ m;intro x hx;cases hx
theorem xK (H:bb) (m:Hbm.aG) (q:Nat × Nat × Nat):(∀ x∈(Hbn.iX H m q).2.2,x=(m.bI,m.bU,m.body)/\Hbn.counts H.mem m=true)/\(Hbn.iX H m q).2.2.length<=14/\(Hbn.iX H m q).2.1.length<=14:=by
 have e:(if Hbn.counts H.mem m then H.of m q else H).mem=H.mem:=by split;unfold Hbn.bb.of;split<;>rfl;rfl
 have h:=AE (rec:=Hbn.kt 1) (fun H m x a=>(AE (rec:=Hbn.kt 0) (fun H m x a=>(AE (rec:=fun H _=>(H,[],[])) (fun _ _ x a=>by cases a) H m x a).1) H m x a).1) (if Hbn.counts H.mem m then H.of m q else H) m;rw[e] at h;have b:=afS (if Hbn.counts H.mem m then H.of m q else H) m;exact⟨h,b.2,b.1⟩
theorem Tf {H:bb} (h:du H) {m:Hbm.aG} (g:Bs m.body) (q:Nat × Nat × Nat):du (Hbn.iX H m q).1/\(Hbn.iX H m q).1.p=H.p/\(Hbn.iX H m q).1.mem=H.mem/\(Hbn.iX H m q).1.me=H.me:=by
 unfold Hbn.iX;by_cases b:Hbn.counts H.mem m=true
 ·rw[ak b];have c:e6 H.mem m:=⟨b,g⟩;obtain⟨d,f⟩:=YG h c q;have a:(H.of m q).mem=H.mem/\(H.of m q).p=H.p/\(H.of m q).me=H.me:=by unfold Hbn.bb.of;split<;>exact⟨rfl,rfl,rfl⟩
  obtain⟨g1,g2⟩:=rec_2 (H.of m q) m d (by rw[a.1];exact c) f;exact⟨g1,g2.p.trans a.2.1,g2.mem.trans a.1,g2.me.trans a.2.2⟩
 ·rw[ai b];have e:Hbn.kt 2 H m=(H,[],[]):=by
   show Hbn.ji (Hbn.kt 1) H m=_;unfold Hbn.ji;rw[ai b]
  rw[e];exact⟨h,rfl,rfl,rfl⟩
theorem PL {H:bb} (h:du H) {m:Hbm.aG} (b:Bs m.body) (q:Nat × Nat × Nat):∀ x∈(Hbn.iX H m q).2.2,oC x:=by intro x e;obtain⟨rfl,d⟩:=(xK H m q).1 x e;have c:e6 H.mem m:=⟨d,b⟩;have f:=c.bI;have a:=h.i64 _ c.bU;exact⟨by show m.body.length<_;omega,b,⟨a.1,by have:=a.2;show m.bU<_;omega⟩⟩
def eD (b:List Int):List Int:=if b=[] then [0] else b
theorem qT:enters Tryz.prog 64 Tryz.f64:=ek
abbrev mu:Func:=Tryz.f64
def rsA (p:Nat) (a:Int) (b:List Int) (q:Bool):St:=av mu.ntmps 8 [(0,aB p),(1,sI .i64 a),(2,lP b),(11,aA q)] []
def rsB (p:Nat) (a:Int) (b:List Int):St:=av mu.ntmps 8 [(0,aB p),(1,sI .i64 a),(2,lP b)] []
def rsZ (p:Nat) (a:Int):St:=av mu.ntmps 9 [(0,aB p),(1,sI .i64 a),(2,ag (.sl 8 0 0 1 1))] [(8,[.ints .u8 1 [0]])]
def rsC (R:Rt) (c:Int) (b:List Int) (a:Nat):St:=av mu.ntmps 14 [(0,ao 8 0),(17,aB a),(18,sI .i64 c),(19,lP b)] (hU R (bn++[.v (.int .i64 R.fault)]))
def rsO (R:Rt) (a:Int) (b:List Int):St:=av mu.ntmps 14 [(0,ao 8 0),(1,sI .i64 a),(2,lP b)] (hU R (bn++[.v (.int .i64 R.fault)]))
def rsD (R:Rt) (ms:List Hbm.aG) (a:List Hbm.Told):St:=av mu.ntmps 14 [(0,ao 8 0),(7,ag (.ro iJ ms)),(8,ag (.ro fu a))] (hU R (bn++[.v (.int .i64 R.fault)]))
def rsE (p:Nat) (ms:List Hbm.aG) (a:List Hbm.Told):St:=av mu.ntmps 8 [(0,aB p),(7,ag (.ro iJ ms)),(8,ag (.ro fu a))] []
def rsG (p:Nat) (ms:List Hbm.aG) (a:List Hbm.Told):St:=av mu.ntmps 8 [(7,ag (.ro iJ ms)),(23,aB p),(24,ag (.ro fu a))] []
def rsH (ms:List Hbm.aG):St:=av mu.ntmps 8 [(7,ag (.ro iJ ms))] []
abbrev W5:=aU [RJ]
theorem vm:aJ Tryz.prog W5:=aM aen bD
structure SayIn where
 R:Rt
 H:bb
 tp:Int
 b:List Int
def hI (z:SayIn) (q:Nat × Nat × Nat):List Hbm.aG:=(Hbn.iS z.H z.tp (eD z.b) q).2.1
def pS (z:SayIn) (q:Nat × Nat × Nat):Rt:=iO z.R (Hbn.iS z.H z.tp (eD z.b) q).2.2
def qC (z:SayIn) (q:Nat × Nat × Nat):bb:=(Hbn.iS z.H z.tp (eD z.b) q).1
structure Big (R:Rt):Prop where
 dealers:R.dealers.length<1000
 old:R.old.length<1000
 deals:R.deals.length<500000
 faults:R.faults.length<500000
 proofs:R.proofs.length<500000000000
section
variable (gl:Nat->Option (Sigma aH)) (w0:World) (M0:Mem) (F0:Nat->Prop)
abbrev CO:Ob.cf:=Ob.lj Tryz.prog W5 gl w0 M0 F0
theorem ajh (p:Nat) (a:Int) (b:List Int) (G:Ob.aj) {n r:ax} {x:Nat->ax}
  (h:Ob.aN Tryz.prog ((al mu).drop 3) (Ob.GH (CO gl w0 M0 F0) mu.ntmps (rsB p a (eD b)) G) n r x) :
  Ob.aN Tryz.prog (al mu) (Ob.GH (CO gl w0 M0 F0) mu.ntmps (lx mu [aB p,sI .i64 a,lP b] [] 0) G) n r x:=by
 refine Ob.gcd vm 2 (fun e=>bo .bool 11 e) (fun q=>rsA p a b q) (fun q=>q=decide (b=[])) ?_ (fun q d=>?_)
 ·intros;refine @aq ((rsA p a b ((b.length:Int)==0)).ah (((b.length:Int)==0)=decide (b=[]))) _ ?_ ?_;kernel_rfl;refine au ?_;cases b with
  | nil=>rfl
  | cons y b =>rw[cp aw];rw[beq_eq_false_iff_ne,bN];omega
 cases q;have c:¬ b=[]:=Odf d.symm;rw[eD,ai c] at h;refine Ob.e5 (ar (al mu) 2) ?_;refine Ob.fR (rsB p a b) ?_;exact h;have c:b=[]:=Odt d.symm;rw[eD,ak c] at h;refine Ob.je (ar (al mu) 2) ?_;refine Ob.eK vm 1 (rsZ p a) ?_;refine Ob.sU 2 8 1 1 .u8 [0] ab ab rfl ?_;refine Ob.fR (rsB p a [0]) ?_;exact h
theorem aji (p:Nat) (ms:List Hbm.aG) (a:List Hbm.Told) (G:Ob.aj) {n r:ax} {x:Nat->ax}
  (h:Ob.kz Tryz.prog (bC (ar (al mu) 4)) 2 ((al mu).drop 5) (Ob.GH (CO gl w0 M0 F0) mu.ntmps (rsG p ms a) G) n r x) :
  Ob.aN Tryz.prog ((al mu).drop 4) (Ob.GH (CO gl w0 M0 F0) mu.ntmps (rsE p ms a) G) n r x:=by
 refine Ob.ep 4 (bC (ar (al mu) 4)) ?_;refine Ob.gA vm 2 (fun _=>()) (fun _=>rsG p ms a) (fun _=>True) ?_ (fun _ _=>h);intros;refine @aq ((rsG p ms a).ah True) _ ?_ ?_;kernel_rfl;exact au trivial
theorem ajj (ms:List Hbm.aG) (b:ms.length<1048576) (G:Ob.aj) {Q:SV->Ob.aj->Prop} (a:Q (ag (.ro bH (dv ms))) G) :
  Ob.aN Tryz.prog ((al mu).drop 5) (Ob.GH (CO gl w0 M0 F0) mu.ntmps (rsH ms) G) (Ob.c1 (CO gl w0 M0 F0) mu Q) (Ob.c1 (CO gl w0 M0 F0) mu Q) (fun _ _ _=>False):=by
 refine Ob.gT vm mixed _ ?_ a;intros;refine @aq (ms.length<1048576/\SV.is (TV.one (Cell.ro bH (dv ms)))=SV.is (TV.one (Cell.ro bH (dv ms)))) _ ?_ ?_;kernel_rfl;exact⟨b,rfl⟩
end
theorem LU (gl:Nat->Option (Sigma aH)):Ob.ez Tryz.prog gl 64 (fun z:SayIn=>[aB z.R.p,sI .i64 z.tp,lP z.b]) (fun z=>du z.H/\Bs z.b/\z.b.length<1048576/\z.R.hub=z.H.p/\Big z.R)
  (fun z=>Ob.aj.sep (bA z.R) (bz z.H)) (fun z q=>ag (.ro bH (dv (hI z q)))) (fun z q=>Ob.aj.sep (bA (pS z q)) (bz (qC z q))) (fun _ _=>True):=by
 refine Ob.c9 (sp:=W5) qT ab (fun z=>by show 3<=mu.ntmps;exact Odt ab) (fun z _=>rfl) ?_;rintro⟨R,H,tp,b⟩ ⟨j,l,h,i,e⟩ w0 M0 F0;have i:R.hub=H.p:=i;have h:b.length<1048576:=h;have d:Bs (eD b):=by unfold eD;split;intro x n;rw[gb] at n;omega;exact l
 have g:(eD b).length<1048576:=by unfold eD;split;decide;exact h
 refine ajh gl w0 M0 F0 R.p tp b _ ?_;generalize f:eD b=a at d g;refine Ob.aP (G':=Ob.aj.obj (dE R (bn++[.v (.int .i64 R.fault)])) R.p (bz H)) (by show Ob.aj.sep (bA R) (bz H)=_;unfold bA;exact (Ob.bF _ _ _).symm) ?_;refine Ob.ep 3 (bC (ar (al mu) 3)) ?_;refine Ob.sQ (E:=CO gl w0 M0 F0) [0] ab (rsO R tp a) (ay ab ab trivial) ?_;refine Ob.dT vm 6 (rsC R tp a R.hub) ?_;rw[i];refine Ob.kj (E:=(CO gl w0 M0 F0).pinned 8 R.p) (aei gl) (H,tp,a) ⟨j,d,g⟩ Oi (fun q _=>?_);refine Ob.dT vm 12 (rsD R (Hbn.iS H tp a q).2.1 (Hbn.iS H tp a q).2.2) (Ob.ei ?_);refine Ob.fj (E:=CO gl w0 M0 F0) (bl:=dE R (bn++[.v (.int .i64 R.fault)])) [] [8,9,10,11,12,13] 9 (rsE R.p (Hbn.iS H tp a q).2.1 (Hbn.iS H tp a q).2.2) ?_;refine Ob.aP (G':=Ob.aj.sep (bA R) (bz (Hbn.iS H tp a q).1)) (Ob.bF _ _ _) ?_;have o:=PL j (m:=(1,0,H.me,H.me,tp,0,a)) d q;have k:=xK H (1,0,H.me,H.me,tp,0,a) q;have r:(Hbn.iS H tp a q).2.1.length<1048576:=by show ([_]++(Hbn.iX H (1,0,H.me,H.me,tp,0,a) q).2.1).length<_;rw[a7];have:=k.2.2;simp only[bN,eH];omega
 refine aji gl w0 M0 F0 R.p _ _ _ ?_;refine Ob.kj (E:=CO gl w0 M0 F0) (Ob.b5 (fun _=>bz (Hbn.iS H tp a q).1) (H6 gl)) (R,(Hbn.iS H tp a q).2.2) ⟨e.dealers,e.old,e.deals,e.faults,e.proofs,by have:=k.2.1;show (Hbn.iX H (1,0,H.me,H.me,tp,0,a) q).2.2.length<_;omega,o⟩ qv (fun _ _=>?_);refine Ob.ei ?_;refine Ob.fR (rsH (Hbn.iS H tp a q).2.1) ?_;refine ajj gl w0 M0 F0 _ r _ ⟨q,trivial,?_,?_⟩;unfold hI;rw[f];exact Ob.br _;unfold pS qC;rw[f]
open Go.IntKind(i64)
set_option maxHeartbeats 4000000
theorem Vs:enters Tryz.prog 110 Tryz.f110:=ek
theorem Z6:aO Tryz.prog 110 [cy,.ptr iK] [.val .bool] bB (fun _=>True) (fun (d,x,_)=>(d.1==x,())):=by refine bg (sp:=aU []) bD mixed Vs ae ae ?_;rintro w M0 ⟨d,x,⟨⟩⟩;revert x;intro (x:Int) _ _;refine @aq (0<[x].length/\(d.fst==x,())=(d.fst==x,())) _ ?_ ?_;kernel_rfl;exact⟨jY,rfl⟩
def Ut:Nat × Eng.Spec:=(110,aK [cy,.ptr iK] [.val .bool] (fun _=>True) (fun (d,x,_)=>(d.1==x,())))
abbrev FJ:Kd:=.cap (.fn 110) iK
theorem ZO:enters Tryz.prog 109 Tryz.f109:=ek
def QT (a:List (Int × List (Fp × Fp))) (x:Int) (g:Int):St:=av Tryz.f109.ntmps 32 [(0,ag (.ro (cy) a)),(1,ag (.fv FJ ((),x))),(7,sI .i64 a.length),(8,sI .i64 g)] []
theorem acQ:aO Tryz.prog 109 [.sl (cy),FJ] [.val iK] bB (fun (a,_,_)=>length a<4611686018427387904) (fun (a,(_,x),_)=>(dx (fun d:Int × List (Fp × Fp)=>d.1==x) a,())):=by
 have e:aJ Tryz.prog (aU [Ut]):=aM (aR Z6) bD;refine bL (sp:=aU [Ut]) ZO ae ae ab ?_;rintro w M0 ⟨a,⟨⟨⟩,x⟩,⟨⟩⟩;revert a x;intro (a:List (Int × List (Fp × Fp))) (x:Int) _ m;have m:a.length<4611686018427387904:=m;show Tr _ _ _ _ _ _ _;refine bh e mixed 2 (QT a x 0) True ?_ (fun _=>?_);refine aq (X:=((QT a x 0).ah True)) ab ?_;exact au trivial;refine cl e mixed gO (fun o=>bo (.int .i64) 8 o) (QT a x) (fun g=>∃ k:Nat,k<=a.length/\g=(k:Int)/\k<=a.findIdx (fun d:Int × List (Fp × Fp)=>d.1==x)) (fun g=>a.length-g.toNat)
  (fun _=>()) (fun _=>av Tryz.f109.ntmps 32 [] []) (fun _=>a.length<=a.findIdx (fun d:Int × List (Fp × Fp)=>d.1==x)) 0 (c:=ar (al Tryz.f109) 2) ab ab (ay ab ab ?_) ?_ ?_
 exact⟨0,a8 _,rfl,a8 _⟩
 ·intro (i:Int) ⟨k,q,n,j⟩;subst n;refine @aq ((decide ((k:Int)<(a.length:Int))=true->(0<=(k:Int)/\(k:Int)<(a.length:Int))/\(k:Int).toNat<a.length/\True/\(((a.getD (k:Int).toNat (0,[])).fst==x)=true->((k:Int),())=(dx (fun d=>d.fst==x) a,()))/\(((a.getD (k:Int).toNat (0,[])).fst==x)=false->(QT a x (i64.wrap ((k:Int)+1))).ah ((∃ f,f<=a.length/\i64.wrap ((k:Int)+1)=(f:Int)/\f<=List.findIdx (fun d=>d.fst==x) a)/\a.length-(i64.wrap ((k:Int)+1)).toNat<a.length-(k:Int).toNat)))/\(decide ((k:Int)<(a.length:Int))=false->(av Tryz.f109.ntmps 32 [] []).ah (a.length<=List.findIdx (fun d=>d.fst==x) a))) _ ?_ ?_;kernel_rfl;rw[aF];refine⟨fun h=>?_,fun h=>au (by have:=bX h;omega)⟩;have b:k<a.length:=by have:=dec_lt h;omega
  rw[aS aa];refine⟨⟨aa,aa⟩,b,trivial,fun l=>?_,fun l=>au ⟨⟨k+1,b,rfl,q7 ((0:Int),([]:List (Fp × Fp))) b j (by exact l)⟩,by rw[aF];omega⟩⟩;show ((k:Int),())=(dx _ a,());rw[vg ((0:Int),([]:List (Fp × Fp))) b j (by exact l)]
 rintro⟨⟩ (j:_<=_);refine bJ e mixed _ _ ?_;refine @aq (((-1:Int),())=(dx (fun d=>d.fst==x) a,())) _ ?_ ?_;kernel_rfl;show _=(dx _ a,());rw[sW j]
theorem ac6:aO Tryz.prog 109 [.sl cy,FJ] [.val iK] bB (fun (a,_,_)=>length a<4611686018427387904) (fun (a,(_,x),_)=>(hO a x,())):=acQ.out fun (a,(_,x),_)=>by show (hO a x,())=(dx (fun d:Int × List (Fp × Fp)=>d.1==x) a,());rw[hO,bm]
def aga:Nat × Eng.Spec:=(109,aK [.sl cy,FJ] [.val iK] (fun (a,_,_)=>length a<4611686018427387904) (fun (a,(_,x),_)=>(hO a x,())))
def ib (a:List Int) (x:Int):Int:=eR (law22.vK a x)
theorem V2:aO Tryz.prog 58 [.sl (.int .i64),.int .i64] [.val (.int .i64)] bB law22.g8 (fun (a,x,_)=>(ib a x,())):=law22.K0.out fun (a,x,_)=>by show (ib a x,())=(law22.vK a x,());rw[ib,bm]
def abt:Nat × Eng.Spec:=(58,aK [.sl (.int .i64),.int .i64] [.val (.int .i64)] law22.g8 (fun (a,x,_)=>(ib a x,())))
def kX (b d:Int) (a:List Pt) (p:Int × Int × Fr):Bool:=p.1==d&&p.2.1==b&&law22.sm a b p.2.2
def cj (R:Rt) (d:Int):Fr × Bool :=
 if hO R.deals d<0 then (0,false)
 else if decide (ib R.a5 d>=0)&&law22.sm (cS R.deals d) R.me (R.shares.getD (ib R.a5 d).toNat 0) then (R.shares.getD (ib R.a5 d).toNat 0,true)
 else match R.proofs.find? (kX R.me d (cS R.deals d)) with
  | some p=>(p.2.2,true)
  | none=>(0,false)
theorem acf (a:List (Int × List Pt)) (x:Int):hO a x<a.length:=by rw[hO,bm,dx];split;omega;omega
theorem Zb:∀ {a:List Int} {x:Int},x∈a->(a.takeWhile fun y=>decide (y≠x)).length<a.length
 | y::a,x,h=>by rw[List.takeWhile_cons];split;rename_i b;have b:y≠x:=Odt b;rcases mem_cons.1 h with e|h;exact absurd e.symm b;have:=Zb h;simp only[bN];omega;simp
theorem adY (a:List Int) (x:Int):ib a x<a.length:=by rw[ib,bm,law22.vK];split;rename_i h;exact Int.ofNat_lt.2 (Zb h);omega
theorem ZZ {a:Type} {f:a->Bool} {l:List a} {k:Nat} (d:k<l.length) (h:∀ x∈l.take k,f x=false) (b:f l[k]=true):l.find? f=some l[k]:=by rw[List.find?_eq_some_iff_append];refine⟨b,l.take k,l.drop (k+1),?_,fun x e=>by rw[h x e];rfl⟩;rw[<- lW d,dO]
theorem BV:enters Tryz.prog 67 Tryz.f67:=ek
abbrev xD:Func:=Tryz.f67
abbrev W9:=aU [aga,abt,law22.Um]
theorem lu:aJ Tryz.prog W9:=aM (aR ac6) (aM (aR V2) (aM (aR law22.Ox) bD))
def shA (p:Nat) (d:Int):St:=av xD.ntmps 8 [(0,aB p),(3,ao 0 0),(4,ao 1 0)] [(0,[.v (.int .i64 d)]),(1,[.row .fr 1 [(0:Fr)]])]
def GS (R:Rt) (d:Int) (a:List (Nat × SV)):St:=av xD.ntmps 14 ([(0,ao 8 0),(3,ao 0 0),(4,ao 1 0)]++a) ((0,[.v (.int .i64 d)])::(1,[.row .fr 1 [(0:Fr)]])::hU R (bn++[.v (.int .i64 R.fault)]))
def GU (R:Rt) (x:Fr) (b:Cell):St:=av xD.ntmps 14 [(4,ao 1 0),(5,ag b)] ((1,[.row .fr 1 [x]])::hU R (bn++[.v (.int .i64 R.fault)]))
def YS (x:Fr) (b:Cell):St:=av xD.ntmps 8 [(4,ao 1 0),(5,ag b)] [(1,[.row .fr 1 [x]])]
def mv (R:Rt) (d:Int) (a:List Pt) (k:Int):St:=GS R d [(7,ag (.ro aQ a)),(61,ag (.sl 11 0 0 R.proofs.length 6)),(62,sI .i64 R.proofs.length),(63,sI .i64 k)]
def YR (R:Rt) (d:Int) (a:List Pt) (k:Int) (p:Int × Int × Fr) (q:SV):St:=av xD.ntmps 31 [(0,ao 8 0),(3,ao 0 0),(4,ao 1 0),(7,ag (.ro aQ a)),(61,ag (.sl 11 0 0 R.proofs.length 6)),(62,sI .i64 R.proofs.length),(63,sI .i64 k),(10,ao 30 0),(89,q)] ((0,[.v (.int .i64 d)])::(1,[.row .fr 1 [(0:Fr)]])::(30,[.v (.int .i64 p.1),.v (.int .i64 p.2.1),.row .fr 1 [p.2.2]])::hU R (bn++[.v (.int .i64 R.fault)]))
abbrev Uj:Code:=ar (al xD) 9
abbrev Pr (y:Fr × Bool):SV:=.tup [.agg [.row .fr 1 [y.1]],.one (.v (.bool y.2))]
theorem GV (x:Fr) (b:Bool):cL (.tup [.agg [.row .fr 1 [x]],.one (if b then .T else .F)]) (Pr (x,b)):=by
 rintro k v ⟨j,rfl,g,i,rfl,d,h,f,rfl,a,e⟩;refine⟨_,rfl,g,_,rfl,d,h,f,rfl,?_,e⟩;cases b with
 | true=>exact⟨a,rfl⟩
 | false=>exact⟨a,rfl⟩
section
variable (gl:Nat->Option (Sigma aH)) (w0:World) (M0:Mem) (F0:Nat->Prop)
abbrev zg:Ob.cf:=Ob.lj Tryz.prog W9 gl w0 M0 F0
theorem GW (R:Rt) (x:Fr) (b:Cell) {Q:SV->Ob.aj->Prop} (f:Q (.tup [.agg [.row .fr 1 [x]],.one b]) (bA R)) {d:St} {a:Act} {w:World} (h:d.le (Ob.cm ((zg gl w0 M0 F0).pinned 8 R.p)) (GU R x b) True) (i:(match b with | .T=>true | .F=>true|_=>false)=true) (g:Ob.GH ((zg gl w0 M0 F0).pinned 8 R.p) xD.ntmps d Ob.aj.none a w):Ob.c1 (zg gl w0 M0 F0) xD Q a w:=by
 cases b with
 | T =>have e:=(Ob.oZ (E:=zg gl w0 M0 F0) (bl:=dE R (bn++[.v (.int .i64 R.fault)])) [1] [8,9,10,11,12,13] rfl ab ab rfl ab 9 (g.le h).2).le (τ:=YS x .T) (K:=True) (ay ab ab trivial);exact⟨YS x .T,_,Ob.cm (zg gl w0 M0 F0),e.2,f⟩
 | F =>have e:=(Ob.oZ (E:=zg gl w0 M0 F0) (bl:=dE R (bn++[.v (.int .i64 R.fault)])) [1] [8,9,10,11,12,13] rfl ab ab rfl ab 9 (g.le h).2).le (τ:=YS x .F) (K:=True) (ay ab ab trivial);exact⟨YS x .F,_,Ob.cm (zg gl w0 M0 F0),e.2,f⟩
 | _=>cases i
end
theorem LV (gl:Nat->Option (Sigma aH)):Ob.ez Tryz.prog gl 67 (fun z:Rt × Int=>[aB z.1.p,sI .i64 z.2]) (fun z=>z.1.deals.length<1000000/\z.1.a5.length=z.1.shares.length/\z.1.shares.length<1000000/\z.1.proofs.length<1000000000000/\fy z.1.me/\∀ d∈z.1.deals,d.2.length<1000000)
  (fun z=>bA z.1) (fun z (_:Unit)=>Pr (cj z.1 z.2)) (fun z _=>bA z.1) (fun _ _=>True):=by
 refine Ob.c9 (sp:=W9) BV ab (fun z=>by show 2<=xD.ntmps;exact Odt ab) (fun z _=>rfl) ?_;rintro⟨R,d⟩ ⟨D,G,H,I,u,C⟩ w0 M0 F0;have D:R.deals.length<1000000:=D;have G:R.a5.length=R.shares.length:=G;have H:R.shares.length<1000000:=H;have I:R.proofs.length<1000000000000:=I;have U:(cS R.deals d).length<1000000:=by
  unfold cS;rw[a2];cases N:R.deals[(hO R.deals d).toNat]? with
  | none=>simp
  | some y=>exact C y (dP N)
 show Ob.aN _ _ (Ob.GH _ _ _ (bA R)) _ _ _;refine Ob.xh lu 1 [(1,8)] (shA R.p d) ?_;unfold bA;refine Ob.gR [0] (GS R d []) ?_;have A:=acf R.deals d;have Q:=adY R.a5 d;refine Ob.gcd lu 2 (fun j=>bo iK 6 j) (fun q=>GS R d [(6,sI .i64 q),(18,aA (decide (q<0)))]) (fun q=>q=hO R.deals d) ?_ (fun q m=>?_);intros;refine @aq (0+R.deals.length<=R.deals.length/\(take R.deals.length R.deals).length<4611686018427387904/\(GS R d [(6,sI i64 (hO (take R.deals.length R.deals) d,()).fst),(18,aA (decide ((hO (take R.deals.length R.deals) d,()).fst<(0:aH iK))))]).ah (hO (take R.deals.length R.deals) d=hO R.deals d)) _ ?_ ?_;kernel_rfl;exact⟨aa,by rw[c5];omega,au (by rw[aT])⟩;subst m;cases K:decide (hO R.deals d<0) with
 | true =>refine Ob.je (ar (al xD) 3) ?_;refine Ob.ju lu mixed (fun _=>False) (fun e=>e.le (Ob.cm ((zg gl w0 M0 F0).pinned 8 R.p)) (GU R 0 .F) True) (fun _ _=>False) ?_ (fun _ _ _ h _=>h.elim) (fun e a w o g=>GW gl w0 M0 F0 R 0 .F ⟨(),trivial,?_,rfl⟩ o rfl g) (fun _ _ _ _ h _=>h.elim);intros;refine @aq ((GU R (0:Fr) Cell.F).ah True) _ ?_ ?_;kernel_rfl;exact au trivial;show cL _ (Pr (cj R d));rw[cj,ak (Odt K)];exact GV 0 false
 | false =>
  have n:¬ hO R.deals d<0:=Odf K;refine Ob.e5 (ar (al xD) 3) ?_;refine Ob.gcd lu 2 (fun j=>bo iK 8 j) (fun q=>GS R d [(7,ag (.ro aQ (cS R.deals d))),(8,sI .i64 q)]) (fun q=>q=ib R.a5 d) ?_ (fun q m=>?_);intros;refine @aq ((0<=hO R.deals d/\hO R.deals d<(R.deals.length:Int))/\(hO R.deals d).toNat<R.deals.length/\0+R.a5.length<=R.a5.length/\law22.g8 (take R.a5.length R.a5,d,())/\(GS R d [(7,SV.is (TV.one (Cell.ro aQ (cS R.deals d)))),(8,sI i64 (ib (take R.a5.length R.a5) d,()).fst)]).ah (ib (take R.a5.length R.a5) d=ib R.a5 d)) _ ?_ ?_;kernel_rfl;exact⟨⟨aa,A⟩,aa,aa,by show (take R.a5.length R.a5).length<_;rw[c5];omega,au (by rw[aT])⟩;subst m;refine Ob.kN lu mixed 1 50 (fun j=>bo .bool 50 j) (fun q=>GS R d [(7,ag (.ro aQ (cS R.deals d))),(8,sI .i64 (ib R.a5 d)),(50,aA q)]) (fun q=>q=(decide (ib R.a5 d>=0)&&law22.sm (cS R.deals d) R.me (R.shares.getD (ib R.a5 d).toNat 0))) (fun _=>False) (fun _ _=>False) ?_ (fun q i=>?_) (fun _ _ _ h _=>h.elim) (fun _ _ _ _ h _=>h.elim);intros;refine @aq ((decide (ib R.a5 d>=0)=true->(0<=ib R.a5 d/\ib R.a5 d<(R.shares.length:Int))/\(ib R.a5 d).toNat<R.shares.length/\poly.vk (cS R.deals d,R.me,R.shares.getD (ib R.a5 d).toNat (0:Fr),())/\(GS R d [(7,SV.is (TV.one (Cell.ro aQ (cS R.deals d)))),(8,sI i64 (ib R.a5 d)),(50,aA (law22.sm (cS R.deals d) R.me (R.shares.getD (ib R.a5 d).toNat (0:Fr)),()).fst)]).ah (law22.sm (cS R.deals d) R.me (R.shares.getD (ib R.a5 d).toNat (0:Fr))=(decide (ib R.a5 d>=0)&&law22.sm (cS R.deals d) R.me (R.shares.getD (ib R.a5 d).toNat (0:Fr)))))/\(decide (ib R.a5 d>=0)=false->(GS R d [(7,SV.is (TV.one (Cell.ro aQ (cS R.deals d)))),(8,sI i64 (ib R.a5 d)),(50,aA false)]).ah (false=(decide (ib R.a5 d>=0)&&law22.sm (cS R.deals d) R.me (R.shares.getD (ib R.a5 d).toNat (0:Fr)))))) _ ?_ ?_;kernel_rfl;refine⟨fun h=>⟨⟨Odt h,aa⟩,by have:=Odt h;omega,⟨by show (cS R.deals d).length<_;omega,u⟩,au (by rw[h,h8])⟩,fun h=>au (by rw[h,l5])⟩;cases q
  ·refine Ob.e5 (ar (al xD) 7) ?_;refine Ob.eK lu 1 (mv R d (cS R.deals d) 0) ?_;refine Ob.Li lu mixed (c:=Uj) (fun k=>mv R d (cS R.deals d) (k:Int)) (fun _=>Ob.aj.none) (fun k=>∀ p∈R.proofs.take k,kX R.me d (cS R.deals d) p=false) R.proofs.length ab ab aw (fun k t w ids M num=>?_) (fun k t s=>?_) (fun s=>?_);refine aq (X:=((decide ((k:Int)<(R.proofs.length:Int))=true->(mv R d (cS R.deals d) (k:Int)).ah (k<R.proofs.length))/\(decide ((k:Int)<(R.proofs.length:Int))=false->(mv R d (cS R.deals d) (k:Int)).ah (k=R.proofs.length)))) ab ?_;exact⟨fun h=>au (by have:=dec_lt h;omega),fun h=>au (by have:=bX h;omega)⟩
   ·have f:R.proofs.getD k (0,0,0)=R.proofs[k]:=by rw[a2,bu t];rfl
    refine Ob.dL (E:=(zg gl w0 M0 F0).pinned 8 R.p) (c:=ar (aV Uj) 2) (fun a w=>kX R.me d (cS R.deals d) (R.proofs.getD k (0,0,0))=false/\Ob.GH ((zg gl w0 M0 F0).pinned 8 R.p) xD.ntmps (mv R d (cS R.deals d) (k:Int)) Ob.aj.none a w) ab ab ?_ ?_;refine Ob.kN lu mixed 2 89 (fun j=>bo .bool 89 j) (fun q=>YR R d (cS R.deals d) (k:Int) (R.proofs.getD k (0,0,0)) (aA q)) (fun q=>q=kX R.me d (cS R.deals d) (R.proofs.getD k (0,0,0))) (fun _=>False) (fun _ _=>False) ?_ (fun q m=>?_) (fun _ _ _ h _=>h.elim) (fun _ _ _ _ h _=>h.elim);intros;refine @aq ((0<=(k:Int)/\(k:Int)<(R.proofs.length:Int))/\(k:Int).toNat<R.proofs.length/\(((R.proofs.getD (k:Int).toNat (0,0,(0:Fr))).fst==d)=true->(((R.proofs.getD (k:Int).toNat (0,0,(0:Fr))).snd.fst==R.me)=true->poly.vk (cS R.deals d,R.me,(R.proofs.getD (k:Int).toNat (0,0,(0:Fr))).snd.snd,())/\(YR R d (cS R.deals d) (k:Int) (R.proofs.getD k (0,0,(0:Fr))) (aA (law22.sm (cS R.deals d) R.me (R.proofs.getD (k:Int).toNat (0,0,(0:Fr))).snd.snd,()).fst)).ah (law22.sm (cS R.deals d) R.me (R.proofs.getD (k:Int).toNat (0,0,(0:Fr))).snd.snd=kX R.me d (cS R.deals d) (R.proofs.getD k (0,0,(0:Fr)))))/\(((R.proofs.getD (k:Int).toNat (0,0,(0:Fr))).snd.fst==R.me)=false->(YR R d (cS R.deals d) (k:Int) (R.proofs.getD k (0,0,(0:Fr))) (aA false)).ah (false=kX R.me d (cS R.deals d) (R.proofs.getD k (0,0,(0:Fr))))))/\(((R.proofs.getD (k:Int).toNat (0,0,(0:Fr))).fst==d)=false->(YR R d (cS R.deals d) (k:Int) (R.proofs.getD k (0,0,(0:Fr))) (aA false)).ah (false=kX R.me d (cS R.deals d) (R.proofs.getD k (0,0,(0:Fr)))))) _ ?_ ?_;kernel_rfl;rw[aF];refine⟨⟨aa,aa⟩,t,fun a=>⟨fun b=>⟨⟨by show (cS R.deals d).length<_;omega,u⟩,au ?_⟩,fun b=>au ?_⟩,fun a=>au ?_⟩;rw[kX,a,b,h8,h8];rw[kX,a,b,h8,l5];rw[kX,a,l5,l5];cases q;refine Ob.e5 (ar (cV (ar (aV Uj) 2)) 2) ?_;refine Ob.fR (mv R d (cS R.deals d) (k:Int)) ?_;exact Ob.cr fun _ _ h=>⟨m.symm,h⟩;refine Ob.je (ar (cV (ar (aV Uj) 2)) 2) ?_;refine Ob.ju lu mixed (fun _=>False) (fun e=>e.le (Ob.cm ((zg gl w0 M0 F0).pinned 8 R.p)) (GU R (R.proofs.getD k (0,0,0)).2.2 .T) True) (fun _ _=>False) ?_ (fun _ _ _ h _=>h.elim) (fun e a w o g=>GW gl w0 M0 F0 R (R.proofs.getD k (0,0,0)).2.2 .T ⟨(),trivial,?_,rfl⟩ o rfl g) (fun _ _ _ _ h _=>h.elim);intros;refine @aq ((GU R (R.proofs.getD k (0,0,(0:Fr))).snd.snd Cell.T).ah True) _ ?_ ?_;kernel_rfl;exact au trivial;show cL _ (Pr (cj R d));rw[cj,ai n,ai (by rw[<- i];decide),ZZ t s (by rw[<- f];exact m.symm),<- f];exact GV _ true;intro a w L g V W Y;obtain⟨O,P⟩:=g;refine Ob.pF (l:=(aV Uj).drop 3) lu mixed 1 (fun j=>bo iK 63 j) (fun q=>mv R d (cS R.deals d) q) (fun q=>q=((k+1:Nat):Int)) (fun _=>False) (fun _ _=>False) ?_ (fun q m=>?_) (fun _ _ _ h _=>h.elim) (fun _ _ _ _ h _=>h.elim) a w L P V W Y;intros;refine @aq ((mv R d (cS R.deals d) (i64.wrap ((k:Int)+1))).ah (i64.wrap ((k:Int)+1)=(↑(k+1):Int))) _ ?_ ?_;kernel_rfl;exact au (aS aa);subst m;refine Ob.cr fun _ _ h=>⟨fun p r=>?_,h⟩;rw[cw t,lA,gb] at r;rcases r with r|rfl;exact s p r;rw[<- f];exact O
   refine Ob.ju lu mixed (fun _=>False) (fun e=>e.le (Ob.cm ((zg gl w0 M0 F0).pinned 8 R.p)) (GU R 0 .F) True) (fun _ _=>False) ?_ (fun _ _ _ h _=>h.elim) (fun e a w o g=>GW gl w0 M0 F0 R 0 .F ⟨(),trivial,?_,rfl⟩ o rfl g) (fun _ _ _ _ h _=>h.elim);intros;refine @aq ((GU R (0:Fr) Cell.F).ah True) _ ?_ ?_;kernel_rfl;exact au trivial;show cL _ (Pr (cj R d));rw[aT] at s;rw[cj,ai n,ai (by rw[<- i];decide),List.find?_eq_none.2 (fun p r=>by rw[s p r];decide)];exact GV 0 false
  ·have x:0<=ib R.a5 d:=by
    have:=i.symm;rw[aX] at this;exact Odt this.1
   refine Ob.je (ar (al xD) 7) ?_;refine Ob.ju lu mixed (fun _=>False) (fun e=>e.le (Ob.cm ((zg gl w0 M0 F0).pinned 8 R.p)) (GU R (R.shares.getD (ib R.a5 d).toNat 0) .T) True) (fun _ _=>False) ?_ (fun _ _ _ h _=>h.elim) (fun e a w o g=>GW gl w0 M0 F0 R (R.shares.getD (ib R.a5 d).toNat 0) .T ⟨(),trivial,?_,rfl⟩ o rfl g) (fun _ _ _ _ h _=>h.elim);intros;refine @aq ((0<=ib R.a5 d/\ib R.a5 d<(R.shares.length:Int))/\(ib R.a5 d).toNat<R.shares.length/\(GU R (R.shares.getD (ib R.a5 d).toNat (0:Fr)) Cell.T).ah True) _ ?_ ?_;kernel_rfl;exact⟨⟨x,aa⟩,aa,au trivial⟩;show cL _ (Pr (cj R d));rw[cj,ai n,ak i.symm];exact GV _ true
open Go.IntKind(i64 u8)
set_option maxHeartbeats 4000000
structure eF (c:Nat) (R:Rt) (H:bb):Prop where
 hub:du H
 hp:R.hub=H.p
 me:fy R.me
 dl:R.dealers.length<1000
 tk:R.takers.length<1000
 dI:∀ x∈R.dealers,fy x
 tI:∀ x∈R.takers,fy x
 old:R.old.length<1000
 a6:R.a6.length<1000
 need:R.need<1000
 deals:R.deals.length<=14*c
 pubs:∀ d∈R.deals,d.2.length<1000000
 faults:R.faults.length<=14*c
 whom:∀ f∈R.faults,f.2.length<1000000
 proofs:R.proofs.length<=14000000*c
 a5:R.a5.length=R.shares.length
 frl:R.a5.length<=c
theorem eF.I2 {c:Nat} {R:Rt} {H:bb} (h:eF c R H) (a:c<=30000):Big R :=
 ⟨h.dl,h.old,by have:=h.deals;omega,by have:=h.faults;omega,by have:=h.proofs;omega⟩
theorem aa9 (d:List Int) (n:Int) (o:List (Fp × Fp)) (a:Int) (b:List Int):(nb d n o a b).1.length<=b.length:=by rw[nb,bm,pg];split;split;split;split;rw[yZ];omega;exact a8 _;exact a8 _;exact a8 _;exact a8 _
theorem Tc {c:Int × List Pt->Prop} {e:Int × List Int->Prop} {R:Rt} {t:Hbm.Told} (k:oC t) (i:∀ (w:Int) (l:List Pt),l.length<1000000->c (w,l)) (j:∀ (w:Int) (l:List Int),l.length<1000000->e (w,l)) (a:∀ d∈R.deals,c d) (b:∀ f∈R.faults,e f):(∀ d∈(eQ R t).deals,c d)/\∀ f∈(eQ R t).faults,e f:=by have m:=k.1;unfold eQ;split;split;refine⟨fun d g=>?_,b⟩;rcases List.mem_append.1 g with q|q;exact a d q;rw[gb] at q;subst q;exact i _ _ (Nat.lt_of_le_of_lt (aa9 _ _ _ _ _) aa);exact⟨a,b⟩;split;split;refine⟨a,fun f h=>?_⟩;rcases List.mem_append.1 h with q|q;exact b f q;rw[gb] at q;subst q;exact j _ _ aa;exact⟨a,b⟩;split<;>exact⟨a,b⟩
theorem Jk {P1:Int × List Pt->Prop} {P2:Int × List Int->Prop} (e:∀ (w:Int) (l:List Pt),l.length<1000000->P1 (w,l)) (g:∀ (w:Int) (l:List Int),l.length<1000000->P2 (w,l)):∀ (a:List Hbm.Told) (R:Rt),(∀ t∈a,oC t)->(∀ d∈R.deals,P1 d)->(∀ f∈R.faults,P2 f)->(∀ d∈(iO R a).deals,P1 d)/\∀ f∈(iO R a).faults,P2 f
 | [],_,_,b,c=>⟨b,c⟩
 | t::a,R,h,b,c=>by obtain⟨j,k⟩:=Tc (h t aw) e g b c;exact Jk e g a (eQ R t) (fun u i=>h u (by simp[i])) j k
theorem eF.heard {c:Nat} {R:Rt} {H:bb} (h:eF c R H) {K:bb} (e:du K) (g:K.p=H.p) {a:List Hbm.Told} (b:∀ t∈a,oC t) (u:a.length<=14):eF (c+1) (iO R a) K:=by have k:=uS a R;have n:=Cd a R b;obtain⟨i,j⟩:=Jk (P1:=fun d=>d.2.length<1000000) (P2:=fun f=>f.2.length<1000000) (fun _ _ q=>q) (fun _ _ q=>q) a R b h.pubs h.whom;have l:=h.deals;have o:=h.faults;have r:=h.proofs;have s:=h.frl;exact⟨e,by rw[k.hub,g];exact h.hp,by rw[k.me];exact h.me,by rw[k.dealers];exact h.dl,by rw[k.takers];exact h.tk,by rw[k.dealers];exact h.dI,by rw[k.takers];exact h.tI,by rw[k.old];exact h.old,by rw[k.a6];exact h.a6,by rw[k.need];exact h.need,aa,i,aa,j,aa,by rw[k.a5,k.shares];exact h.a5,by rw[k.a5];omega⟩
theorem KC {b:List Int} (a:Bs b):Bs (eD b):=by unfold eD;split;intro x c;rw[gb] at c;omega;exact a
theorem eF.said {c:Nat} {z:SayIn} (h:eF c z.R z.H) (d:Bs z.b) (q:Nat × Nat × Nat):eF (c+1) (pS z q) (qC z q):=by have a:=KC d;have g:=Tf h.hub (m:=(1,0,z.H.me,z.H.me,z.tp,0,eD z.b)) a q;have t:=xK z.H (1,0,z.H.me,z.H.me,z.tp,0,eD z.b) q;exact h.heard g.1 g.2.1 (PL h.hub a q) t.2.1
theorem eF.mono {c a:Nat} {R:Rt} {H:bb} (h:eF c R H) (g:c<=a):eF a R H:=by have b:=h.deals;have d:=h.faults;have e:=h.proofs;have f:=h.frl;exact { h with deals:=by omega,faults:=by omega,proofs:=by omega,frl:=by omega }
theorem eF.kept {c:Nat} {R:Rt} {H:bb} (h:eF c R H) (d:Int) (x:Fr):eF (c+1) (eX R d x) H:=by unfold eX;split;exact h.mono aa;have a:=h.deals;have b:=h.faults;have e:=h.proofs;have f:=h.frl;have g:=h.a5;exact { h with deals:=by show R.deals.length<=_;omega,faults:=by show R.faults.length<=_;omega,proofs:=by show R.proofs.length<=_;omega,a5:=by simp only[a7,bN,eH];omega,frl:=by simp only[a7,bN,eH];omega }
def gz (R:Rt) (a:List Int):List Int:=(a.filter fun d => !(cj R d).2).map (u8.wrap)
theorem Kv (R:Rt) (a:List Int):(gz R a).length<=a.length:=by rw[gz,bZ];exact oU _ _
theorem Hl (a:Int):0<=u8.wrap a/\u8.wrap a<256:=by constructor;exact qJ a ae;exact tK a ae
theorem Hu (R:Rt) (a:List Int):Bs (gz R a):=by intro x d;obtain⟨y,_,rfl⟩:=mem_map.1 d;exact Hl y
theorem FT:enters Tryz.prog 37 Tryz.f37:=ek
abbrev pW:Func:=Tryz.f37
def acA (p:Nat):St:=av pW.ntmps 8 [(0,aB p)] []
def ahU (p:Nat):St:=av pW.ntmps 8 [(0,aB p),(8,aB p)] []
def acB (p:Nat) (q:Bool):St:=av pW.ntmps 8 [(0,aB p),(10,aA q)] []
def acC (R:Rt):St:=av pW.ntmps 14 [(0,ao 8 0),(3,fM)] (hU R (bn++[.v (.int .i64 R.fault)]))
def acD (R:Rt):St:=av pW.ntmps 14 [(0,ao 8 0),(3,fM),(15,ag (.ro iK R.dealers)),(16,sI .i64 R.dealers.length),(17,sI .i64 0)] (hU R (bn++[.v (.int .i64 R.fault)]))
def acE (p:Nat) (a:List Int):St:=av pW.ntmps 8 [(0,aB p),(3,fM),(15,ag (.ro iK a)),(16,sI .i64 a.length),(17,sI .i64 0)] []
def mD (p:Nat) (a:List Int) (k:Int) (l:List Int):St:=av pW.ntmps 9 [(0,aB p),(3,ag (.sl 8 0 0 l.length 1)),(15,ag (.ro iK a)),(16,sI .i64 a.length),(17,sI .i64 k)] [(8,[.ints .u8 l.length l])]
def Ht (p:Nat) (a:List Int) (k:Int) (l:List Int) (b:List (Nat × SV)):St:=av pW.ntmps 9 ([(0,aB p),(3,ag (.sl 8 0 0 l.length 1)),(15,ag (.ro iK a)),(16,sI .i64 a.length),(17,sI .i64 k)]++b) [(8,[.ints .u8 l.length l])]
def Qc (p:Nat) (a:List Int) (k:Int) (n:Nat) (l:List Int):St:=av pW.ntmps 9 [(0,aB p),(3,ag (.sl 8 0 0 n 1)),(15,ag (.ro iK a)),(16,sI .i64 a.length),(17,sI .i64 k)] [(8,[.ints .u8 n l])]
def acS (p:Nat) (l:List Int):St:=av pW.ntmps 8 [(0,aB p),(3,lP l)] []
def ahV (p:Nat) (l:List Int):St:=av pW.ntmps 8 [(35,aB p),(36,lP l)] []
abbrev Qb:Code:=ar (al pW) 5
abbrev UW:List Code:=cV (ar (aV Qb) 2)
section
variable (gl:Nat->Option (Sigma aH)) (w0:World) (M0:Mem) (F0:Nat->Prop)
theorem UX (R:Rt) (o:R.deals.length<1000000/\R.a5.length=R.shares.length/\R.shares.length<1000000/\R.proofs.length<1000000000000/\fy R.me/\∀ d∈R.deals,d.2.length<1000000) (f:List Int) (s:f.length<1000) (k:Nat) (u:k<f.length) (l:List Int) (y:l.length<1000) (G:Ob.aj) {r:ax} {x:Nat->ax} {n:ax}
  (h:Ob.aN Tryz.prog [] (Ob.GH (p5 gl w0 M0 F0) pW.ntmps (mD R.p f ((k+1:Nat):Int) (l++gz R [f.getD k 0])) (Ob.aj.sep (bA R) G)) n r x) :
  Ob.aN Tryz.prog ((aV Qb).drop 2) (Ob.GH (p5 gl w0 M0 F0) pW.ntmps (mD R.p f (k:Int) l) (Ob.aj.sep (bA R) G)) n r x:=by
 refine Ob.dL (E:=p5 gl w0 M0 F0) (c:=ar (aV Qb) 2) (Ob.GH (p5 gl w0 M0 F0) pW.ntmps (mD R.p f (k:Int) (l++gz R [f.getD k 0])) (Ob.aj.sep (bA R) G)) ab ab ?_ ?_
 ·refine Ob.gcd cd 1 (fun g=>bo iK 5 g) (fun q=>Ht R.p f (k:Int) l [(5,sI .i64 q)]) (fun q=>q=f.getD k 0) ?_ (fun q j=>?_);intros;refine @aq ((0<=(k:Int)/\(k:Int)<(f.length:Int))/\(k:Int).toNat<f.length/\(Ht R.p f (k:Int) l [(5,sI i64 (f.getD (k:Int).toNat 0))]).ah (f.getD (k:Int).toNat 0=f.getD k 0)) _ ?_ ?_;kernel_rfl;rw[aF];exact⟨⟨aa,aa⟩,u,au rfl⟩;rw[<- j];refine Ob.ep 7 (bC (ar UW 1)) ?_;refine Ob.dT cd 2 (Ht R.p f (k:Int) l [(5,sI .i64 q),(22,aB R.p),(23,sI .i64 q)]) ?_;refine Ob.kj (E:=p5 gl w0 M0 F0) (Ob.b5 (fun _=>G) (LV gl)) (R,q) o BV (fun _ _=>?_);refine Ob.dT cd 9 (Ht R.p f (k:Int) l [(5,sI .i64 q),(7,aA (cj R q).2)]) (Ob.ei ?_);refine Ob.gcd cd 1 (fun g=>bo .bool 28 g) (fun b=>Ht R.p f (k:Int) l [(5,sI .i64 q),(28,aA b)]) (fun b=>b=!(cj R q).2) ?_ (fun b i=>?_);intros;refine @aq ((Ht R.p f (k:Int) l [(5,sI i64 q),(28,aA !(cj R q).snd)]).ah ((!(cj R q).snd)=!(cj R q).snd)) _ ?_ ?_;kernel_rfl;exact au rfl;cases b
  ·have e:gz R [q]=[]:=by rw[gz,tP,<- i];rfl
   refine Ob.e5 (ar UW 3) ?_;refine Ob.fR (mD R.p f (k:Int) l) ?_;rw[e,bw];exact Ob.cr fun _ _ h=>h
  ·have e:gz R [q]=[u8.wrap q]:=by rw[gz,tP,<- i];rfl
   refine Ob.je (ar UW 3) ?_;refine Ob.kO cd mixed 1 [(8,41)] (fun g=>cT (.int .u8) 8 g) (fun b=>Qc R.p f (k:Int) (l.length+1) b) (fun b=>b=l++[u8.wrap q]) (fun _=>False) (fun _ _=>False) ?_ (fun b i=>?_) (fun _ _ _ h _=>h.elim) (fun _ _ _ _ h _=>h.elim);intros;refine @aq (0+1<=1/\l.length<=l.length/\(l.length+1)*1<=140737488355328/\l.length+1<=4611686018427387904/\(Qc R.p f (k:Int) (l.length+1) (take l.length l++take 1 [u8.wrap q])).ah (take l.length l++take 1 [u8.wrap q]=l++[u8.wrap q])) _ ?_ ?_;kernel_rfl;refine⟨ae,aI _,aa,aa,au ?_⟩;rw[aT];rfl;rw[e];subst i;refine Ob.cr fun a w t=>?_;have m:Qc R.p f (k:Int) (l.length+1) (l++[u8.wrap q])=mD R.p f (k:Int) (l++[u8.wrap q]):=by unfold Qc mD;simp only[a7,bN,eH,bO]
   rw[<- m];exact t
 refine Ob.gcd cd 1 (fun g=>bo iK 17 g) (fun q=>mD R.p f q (l++gz R [f.getD k 0])) (fun q=>q=((k+1:Nat):Int)) ?_ (fun q j=>?_);intros;refine @aq ((mD R.p f (i64.wrap ((k:Int)+1)) (l++gz R [f.getD k 0])).ah (i64.wrap ((k:Int)+1)=(↑(k+1):Int))) _ ?_ ?_;kernel_rfl;exact au (aS aa);subst j;exact h
end
theorem UY (R:Rt) (a b:List Int):gz R (a++b)=gz R a++gz R b:=by rw[gz,qH,di];rfl
structure c7 where
 R:Rt
 H:bb
def c7.ok (z:c7):Prop:=∃ c,c<=29000/\eF c z.R z.H
abbrev c7.cv (z:c7):Ob.aj:=Ob.aj.sep (bA z.R) (bz z.H)
def ry (z:c7):SayIn:=⟨z.R,z.H,2,gz z.R z.R.dealers⟩
def eS (z:c7) (q:Nat × Nat × Nat):List (Int × Hbm.aG):=if z.R.me∈z.R.takers then dv (hI (ry z) q) else []
def nt (z:c7) (q:Nat × Nat × Nat):c7:=if z.R.me∈z.R.takers then ⟨pS (ry z) q,qC (ry z) q⟩ else z
theorem TA (gl:Nat->Option (Sigma aH)):Ob.ez Tryz.prog gl 37 (fun z:c7=>[aB z.R.p]) c7.ok c7.cv (fun z (q:Nat × Nat × Nat)=>ag (.ro bH (eS z q))) (fun z q=>(nt z q).cv) (fun _ _=>True):=by
 refine Ob.c9 (sp:=yi) FT ab (fun z=>by show 1<=pW.ntmps;exact Odt ab) (fun z _=>rfl) ?_;rintro⟨R,H⟩ ⟨c,s,a⟩ w0 M0 F0;have a:eF c R H:=a;have j:=a.dl;have o:=a.a5;have n:=a.frl;have l:R.deals.length<1000000/\R.a5.length=R.shares.length/\R.shares.length<1000000/\R.proofs.length<1000000000000/\fy R.me/\∀ d∈R.deals,d.2.length<1000000:=⟨by have:=a.deals;omega,a.a5,aa,by have:=a.proofs;omega,a.me,a.pubs⟩;show Ob.aN _ _ (Ob.GH _ _ _ (Ob.aj.sep (bA R) (bz H))) _ _ _;refine Ob.eK cd 1 (acA R.p) ?_;refine Ob.ep 1 (bC (ar (al pW) 1)) ?_;refine Ob.dT cd 1 (ahU R.p) ?_;refine Ob.kj (E:=p5 gl w0 M0 F0) (Ob.b5 (fun _=>bz H) (LW gl)) R a.tk BX (fun _ _=>?_);refine Ob.gA cd 3 (fun r=>bo .bool 10 r) (fun q=>acB R.p q) (fun q=>q=!decide (R.me∈R.takers)) ?_ (fun q i=>Ob.ei ?_);intros;refine @aq ((acB R.p !decide (R.me∈R.takers)).ah ((!decide (R.me∈R.takers))=!decide (R.me∈R.takers))) _ ?_ ?_;kernel_rfl;exact au rfl;cases q
 ·have f:R.me∈R.takers:=by
   have:decide (R.me∈R.takers)=true:=by cases h:decide (R.me∈R.takers) with|true=>rfl|false=>rw[h] at i;cases i
   exact Odt this
  refine Ob.e5 (ar (al pW) 2) ?_;refine Ob.aP (G':=Ob.aj.obj (dE R (bn++[.v (.int .i64 R.fault)])) R.p (bz H)) (by unfold bA;exact (Ob.bF _ _ _).symm) ?_;refine Ob.eK cd 1 (av pW.ntmps 8 [(0,aB R.p),(3,fM)] []) ?_;refine Ob.gR [0] (acC R) ?_;refine Ob.eK cd 1 (acD R) ?_;refine Ob.fj (E:=p5 gl w0 M0 F0) (bl:=dE R (bn++[.v (.int .i64 R.fault)])) [] [8,9,10,11,12,13] 9 (acE R.p R.dealers) ?_;refine Ob.aP (G':=Ob.aj.sep (bA R) (bz H)) (by unfold bA;exact Ob.bF _ _ _) ?_;refine Ob.qY 3 1 (.ints .u8 0 []) ab ?_;refine Ob.fR (mD R.p R.dealers 0 []) ?_;refine Ob.vf cd mixed (c:=Qb) (fun k=>mD R.p R.dealers (k:Int) (gz R (R.dealers.take k))) (fun _=>Ob.aj.sep (bA R) (bz H)) R.dealers.length ab ab (fun k g w ids M num=>?_) (fun k g=>?_) ?_;refine aq (X:=((decide ((k:Int)<(R.dealers.length:Int))=true->(mD R.p R.dealers (k:Int) (gz R (take k R.dealers))).ah (k<R.dealers.length))/\(decide ((k:Int)<(R.dealers.length:Int))=false->(mD R.p R.dealers (k:Int) (gz R (take k R.dealers))).ah (k=R.dealers.length)))) ab ?_;exact⟨fun h=>au (by have:=dec_lt h;omega),fun h=>au (by have:=bX h;omega)⟩
  ·have e:gz R (R.dealers.take (k+1))=gz R (R.dealers.take k)++gz R [R.dealers.getD k 0]:=by
    rw[cw g,UY,a2,bu g];rfl
   rw[e];refine UX gl w0 M0 F0 R l R.dealers j k g _ (by have:=Kv R (R.dealers.take k);rw[c5] at this;omega) _ (Ob.cr fun _ _ h=>h)
  rw[aT];have m:=Kv R R.dealers;refine Ob.sU 3 8 (gz R R.dealers).length 1 .u8 (gz R R.dealers) ab ab rfl ?_;refine Ob.fR (acS R.p (gz R R.dealers)) ?_;refine Ob.ep 11 (bC (ar (al pW) 6)) ?_;refine Ob.dT cd 2 (ahV R.p (gz R R.dealers)) ?_;refine Ob.kj (E:=p5 gl w0 M0 F0) (LU gl) ⟨R,H,2,gz R R.dealers⟩ ⟨a.hub,Hu R _,(by omega:(gz R R.dealers).length<1048576),a.hp,a.I2 aa⟩ qT (fun q _=>?_);refine Ob.dT cd 4 (av pW.ntmps 8 [(2,ag (.ro bH (dv (hI ⟨R,H,2,gz R R.dealers⟩ q))))] []) (Ob.ei ?_);refine Ob.gT cd mixed _ ?_ ⟨q,trivial,Ob.br _,?_⟩;intros;refine @aq (SV.is (TV.one (Cell.ro bH (dv (hI { R:=R,H:=H,tp:=2,b:=gz R R.dealers } q))))=SV.is (TV.one (Cell.ro bH (eS { R:=R,H:=H } q)))) _ ?_ ?_;kernel_rfl;show _=SV.is (.one (.ro bH (eS ⟨R,H⟩ q)));unfold eS;rw[ak f];rfl;show _=(nt ⟨R,H⟩ q).cv;unfold nt;rw[ak f];rfl
 ·have f:¬ R.me∈R.takers:=by
   have:decide (R.me∈R.takers)=false:=by cases h:decide (R.me∈R.takers) with|false=>rfl|true=>rw[h] at i;cases i
   exact Odf this
  refine Ob.je (ar (al pW) 2) ?_;refine Ob.iu cd mixed fM ?_ ⟨(0,0,0),trivial,?_,?_⟩;intros;refine @aq (SV.is (TV.one (Cell.v (Value.slice none 0 0)))=fM) _ ?_ ?_;kernel_rfl;rfl;show cL _ (ag (.ro bH (eS ⟨R,H⟩ (0,0,0))));unfold eS;rw[ai f];exact Iq bH;show _=(nt ⟨R,H⟩ (0,0,0)).cv;unfold nt;rw[ai f]
end rite
namespace codec
open Go.Eng Go.RowKit Cr
open Go.IntKind(i64)
open Go.IntKind(i64 u8)
section
variable {F:Type} [Cr.Fd F] [DecidableEq F] {S:ky F}
theorem adq {l:List Int} (h:Bs l) (a:BD l) {k:Nat} (d:k<8):Bs (uM l k):=Ui h (by obtain⟨_,b,c⟩:=a;omega)
theorem ky.Ok.Xb (h:S.Ok) (p:F × F):Bs (S.short p):=by rw[h.Fc];exact adq (h.bs _) (h.BD1 _) (by split;decide;split<;>decide)
theorem ky.Ok.Uk (h:S.Ok) (p:F × F):(S.short p).length=S.n:=by rw[h.Fc,OE,h.len]
end
theorem Df (p:Fp × Fp):(D9 p).length=48:=by rw[Gv];exact HT.Uk p
theorem WJ (p:Fp × Fp):take 48 (D9 p)=D9 p:=bW (by rw[Df];exact aI _)
theorem aa0 (p:Fp × Fp):GD (D9 p,()):=⟨by rw[Gv];exact HT.Xb p,by show length (D9 p)<=_;rw[Df];decide⟩
theorem Xo {p:Fp × Fp} (h:g1.Sub p):g1.o0 p=true:=(g1.ve p).2 h.1
theorem aep {p:Fp × Fp} (h:g1.Sub p):pZ (D9 p)=(p,0):=by rw[Gv,TH];exact HT.RI (Xo h) (g1.G6 h)
end codec
namespace deal
open Go.Eng Go.RowKit Cr law22 poly codec
open Go.IntKind(i64)
open Go.IntKind(i64 u8)
theorem Fm (p:Fp × Fp) (a:List (Fp × Fp)):km (p::a)=D9 p++km a:=by rw[Gv,<- ada];rfl
theorem TO:∀ (a:List (Fp × Fp)) (i:Nat),i<a.length->wa (km a) i=D9 (a.getD i (0,0))
 | [],i,h=>absurd h (wW _)
 | p::a,0,_=>by rw[Fm,wa,Nat.mul_zero,gL,lV (by rw[Df];exact aI _),WJ];rfl
 | p::a,i+1,h=>by have b:=TO a i (by simpa using h);rw[Fm,wa,show 48*(i+1)=(D9 p).length+48*i by rw[Df];omega,<- fF,List.drop_left];exact b
theorem I8 {b:List Int}:∀ {k:Nat},(∀ i,i<k->(pZ (wa b i)).2=0)->mI b k=0
 | 0,_=>rfl
 | k+1,h=>by rw[mI,ak (I8 fun i a=>h i aa)];exact h k aa
theorem YH {a:List (Fp × Fp)} (b:∀ p∈a,g1.Sub p) {i:Nat} (h:i<a.length):pZ (wa (km a) i)=(a.getD i (0,0),0):=by rw[TO a i h];refine aep (b _ ?_);rw[a2,bu h,cx];exact dr h
theorem acq {a:List (Fp × Fp)} (c:∀ p∈a,g1.Sub p):mI (km a) a.length=0:=I8 fun i b=>by rw[YH c b]
theorem VO {l m:List (Fp × Fp)} (c:l.length=m.length) (h:∀ i,i<l.length->l.getD i (0,0)=m.getD i (0,0)):l=m:=by
 refine mW c fun i a b=>?_;have:=h i a
 rwa [a2,bu a,cx,a2,bu b,cx] at this
theorem WT (b:List Int) {k i:Nat} (h:i<k):(rb b k).getD i (0,0)=(pZ (wa b i)).1:=by rw[rb,a2,dy,List.getElem?_range h];rfl
theorem af0 {a:List (Fp × Fp)} (c:∀ p∈a,g1.Sub p):rb (km a) a.length=a:=by refine VO (yZ _ _) fun i b=>?_;rw[yZ] at b;rw[WT _ b,YH c b]
theorem afk (b:List (Fp × Fp)):Bs (km b):=by
 induction b with
 | nil=>intro x a;exact absurd a (by simp[km])
 | cons p b d =>intro x a;rw[Fm] at a;rcases List.mem_append.1 a with c|c;exact (aa0 p).1 x c;exact d x c
end deal
namespace fr
open Go.IntKind(i64)
open Go.IntKind(i64 u8)
def lh (x:Cr.Fr):List Int:=Go.Eng.eR (Cr.dw 32 (Cr.Zm.v x))
end fr
namespace rite
open Go.IntKind(i64)
open Go.IntKind(i64 u8)
set_option maxHeartbeats 4000000
open Go.Eng Go.RowKit Cr Go.Proofs.YtofofalgjibokaaGreatDoor.hub Go.Proofs.YtofofalgjibokaaGreatDoor.deal
open Go.Hbn(Talk bb eG)
theorem Je:aO Tryz.prog 51 [.fr] [.val (.arr 32 (.int .u8))] bB (fun _=>True) (fun (x,_)=>(fr.lh x,())):=fr.sM.out fun (x,_)=>by show (fr.lh x,())=(dw 32 (Zm.v (x:Fr)),());rw[fr.lh,bm]
def MC:Nat × Eng.Spec:=(51,aK [.fr] [.val (.arr 32 (.int .u8))] (fun _=>True) (fun (x,_)=>(fr.lh x,())))
theorem yI (x:Fr):(fr.lh x).length=32:=by rw[fr.lh,bm];exact gE _ _
def Xd:Nat × Eng.Spec:=(65,aK [.sl aQ] [.val (.sl (.int .u8))] wc (fun (a,_)=>(law22.cP a,())))
def ajm:Nat × Eng.Spec:=(14,aK [.sl .fr] [.val (.sl aQ)] poly.CB poly.Cu)
def qj (a:Int) (s:Fr):Hbm.aG:=(4,0,a,0,0,0,fr.lh s)
def cn (R:Rt) (a:List Int):List (Int × Hbm.aG):=(a.filter fun t => !decide (t=R.me)).map fun t=>(t,qj R.me (poly.pat R.a6 t))
def dm (R:Rt) (a:List Int):Rt:=if R.me∈a then eX R R.me (poly.pat R.a6 R.me) else R
theorem S8 (R:Rt) (a b:List Int):cn R (a++b)=cn R a++cn R b:=by rw[cn,qH,di];rfl
theorem xi (R:Rt) (a:List Int):(cn R a).length<=a.length:=by rw[cn,bZ];exact oU _ _
theorem Gc (R:Rt) (d:Int) (x:Fr):(eX R d x).p=R.p/\(eX R d x).me=R.me/\(eX R d x).a6=R.a6/\(eX R d x).takers=R.takers/\(eX R d x).hub=R.hub:=by unfold eX;split<;>exact⟨rfl,rfl,rfl,rfl,rfl⟩
theorem Ts (R:Rt) (d:Int) (x:Fr):d∈(eX R d x).a5:=by unfold eX;split;assumption;simp
theorem Nw (R:Rt) (d:Int) (x y:Fr):eX (eX R d x) d y=eX R d x:=by show (if d∈(eX R d x).a5 then eX R d x else _)=_;rw[ak (Ts R d x)]
theorem D4 (R:Rt) (a:List Int):(dm R a).p=R.p/\(dm R a).me=R.me/\(dm R a).a6=R.a6/\(dm R a).takers=R.takers/\(dm R a).hub=R.hub:=by unfold dm;split;exact Gc _ _ _;exact⟨rfl,rfl,rfl,rfl,rfl⟩
theorem Ns (R:Rt) (d:List Int) (t:Int):dm R (d++[t])=if t=R.me then eX (dm R d) R.me (poly.pat R.a6 t) else dm R d:=by unfold dm;by_cases a:R.me∈d;rw[ak (gK _ a),ak a];split;rename_i e;rw[Nw];rfl;by_cases b:t=R.me;rw[ak (by rw[b];simp),ai a,ak b,b];rw[ai,ai a,ai b];intro h;rcases List.mem_append.1 h with h|h;exact a h;rw[gb] at h;exact b h.symm
theorem eF.handed {c:Nat} {R:Rt} {H:bb} (h:eF c R H) (a:List Int):eF (c+1) (dm R a) H:=by unfold dm;split;exact h.kept _ _;exact h.mono aa
theorem KS:enters Tryz.prog 36 Tryz.f36:=ek
abbrev kE:Func:=Tryz.f36
abbrev Wb:=aU [poly.ae0,MC,ajm,Xd]
theorem e7:aJ Tryz.prog Wb:=aM (aR poly.Ye) (aM (aR Je) (aM (aR poly.SN.AR) (aM (aR law22.La.AR) bD)))
abbrev CP (R:Rt) (t:List Cell):List (Nat × List Cell):=[(9,lL R 10 11 12 13 14 R.deals.length R.faults.length R.proofs.length R.a5.length R.shares.length t),(10,[.row cy R.deals.length R.deals]),(11,[.row cB R.faults.length R.faults]),(12,[.row cG R.proofs.length R.proofs]),(13,[.ints .i64 R.a5.length R.a5]),(14,[.row .fr R.shares.length R.shares])]
abbrev S9:Code:=ar (al kE) 5
abbrev Lm:List Code:=cV (ar (aV S9) 2)
abbrev hd9:List Code:=fX (ar Lm 3)
def qZ (p:Nat) (a:List Int) (k:Int) (n:Nat) (l:List (Int × Hbm.aG)):St:=av kE.ntmps 9 [(0,aB p),(3,ag (.sl 8 0 0 n 8)),(16,ag (.ro iK a)),(17,sI .i64 a.length),(18,sI .i64 k)] [(8,[.row bH n l])]
def Cc (p:Nat) (a:List Int) (k:Int) (n:Nat) (l:List (Int × Hbm.aG)) (c:List (Nat × SV)) (b:List (Nat × List Cell)):St:=av kE.ntmps 9 ([(0,aB p),(3,ag (.sl 8 0 0 n 8)),(16,ag (.ro iK a)),(17,sI .i64 a.length),(18,sI .i64 k)]++c) ((8,[.row bH n l])::b)
def Ta (R:Rt) (a:List Int) (k:Int) (n:Nat) (l:List (Int × Hbm.aG)) (c:List (Nat × SV)) (b:List (Nat × List Cell)):St:=av kE.ntmps 15 ([(0,ao 9 0),(3,ag (.sl 8 0 0 n 8)),(16,ag (.ro iK a)),(17,sI .i64 a.length),(18,sI .i64 k)]++c) ((8,[.row bH n l])::b++CP R (bn++[.v (.int .i64 R.fault)]))
def hdK (p:Nat) (a:List Int) (k:Int) (n:Nat) (l:List (Int × Hbm.aG)) (c:List (Nat × SV)) (b:List (Nat × List Cell)):St:=av kE.ntmps 64 ([(0,aB p),(3,ag (.sl 8 0 0 n 8)),(16,ag (.ro iK a)),(17,sI .i64 a.length),(18,sI .i64 k)]++c) ((8,[.row bH n l])::b)
def hdP (R:Rt) (a:List Int) (k:Int) (n:Nat) (l:List (Int × Hbm.aG)) (c:List (Nat × SV)) (b:List (Nat × List Cell)):St:=av kE.ntmps 64 ([(0,ao 9 0),(3,ag (.sl 8 0 0 n 8)),(16,ag (.ro iK a)),(17,sI .i64 a.length),(18,sI .i64 k)]++c) ((8,[.row bH n l])::b++CP R (bn++[.v (.int .i64 R.fault)]))
section
variable (gl:Nat->Option (Sigma aH)) (w0:World) (M0:Mem) (F0:Nat->Prop)
abbrev ot:Ob.cf:=Ob.lj Tryz.prog Wb gl w0 M0 F0
theorem ah7 (R:Rt) (o:R.a6.length<1000) (a:List Int) (f:∀ x∈a,fy x) (k:Nat) (d:k<a.length) (l:List (Int × Hbm.aG)) (t:Int) (i:t=a.getD k 0) (G:Ob.aj) {n r:ax} {x:Nat->ax}
  (h:Ob.aN Tryz.prog (Lm.drop 3) (Ob.GH (ot gl w0 M0 F0) kE.ntmps (Cc R.p a (k:Int) l.length l [(5,sI .i64 t),(6,ao 0 0),(33,aA (decide (t=R.me)))] [(0,[.row .fr 1 [poly.pat R.a6 t]])]) (Ob.aj.sep (bA R) G)) n r x) :
  Ob.aN Tryz.prog Lm (Ob.GH (ot gl w0 M0 F0) kE.ntmps (qZ R.p a (k:Int) l.length l) (Ob.aj.sep (bA R) G)) n r x:=by
 refine Ob.gcd e7 1 (fun g=>bo iK 5 g) (fun q=>Cc R.p a (k:Int) l.length l [(5,sI .i64 q)] []) (fun q=>q=a.getD k 0) ?_ (fun q j=>?_);intros;refine @aq ((0<=(k:Int)/\(k:Int)<(a.length:Int))/\(k:Int).toNat<a.length/\(Cc R.p a (k:Int) l.length l [(5,sI IntKind.i64 (a.getD (k:Int).toNat 0))] []).ah (a.getD (k:Int).toNat 0=a.getD k 0)) _ ?_ ?_;kernel_rfl;rw[aF];exact⟨⟨aa,aa⟩,d,au rfl⟩;rw[<- i] at j;subst j;have e:fy q:=by rw[i,a2,bu d];exact f _ (dr d)
 refine Ob.aP (G':=Ob.aj.obj (dE R (bn++[.v (.int .i64 R.fault)])) R.p G) (by unfold bA;exact (Ob.bF _ _ _).symm) ?_;refine Ob.gR [0] (Ta R a (k:Int) l.length l [(5,sI .i64 q)] []) ?_;refine Ob.gcd e7 2 (fun g=>bo .bool 33 g) (fun b=>hdP R a (k:Int) l.length l [(5,sI .i64 q),(6,ao 63 0),(33,aA b)] [(63,[.row .fr 1 [poly.pat R.a6 q]])]) (fun b=>b=decide (q=R.me)) ?_ (fun b m=>?_);intros;refine @aq (poly.Kb (R.a6,q,())/\(hdP R a (k:Int) l.length l [(5,sI IntKind.i64 q),(6,SV.is (TV.one (Cell.ptr 63 0))),(33,aA (q==R.me))] [(63,[Cell.row Kd.fr 1 [poly.pat R.a6 q]])]).ah ((q==R.me)=decide (q=R.me))) _ ?_ ?_;kernel_rfl;exact⟨⟨by show R.a6.length<_;omega,e⟩,au rfl⟩;subst m;refine Ob.fj (E:=ot gl w0 M0 F0) (bl:=dE R (bn++[.v (.int .i64 R.fault)])) [8,63] [9,10,11,12,13,14] 10 (hdK R.p a (k:Int) l.length l [(5,sI .i64 q),(6,ao 63 0),(33,aA (decide (q=R.me)))] [(63,[.row .fr 1 [poly.pat R.a6 q]])]) ?_;refine Ob.aP (G':=Ob.aj.sep (bA R) G) (by unfold bA;exact Ob.bF _ _ _) ?_;refine Ob.xh e7 0 [(0,63)] (Cc R.p a (k:Int) l.length l [(5,sI .i64 q),(6,ao 0 0),(33,aA (decide (q=R.me)))] [(0,[.row .fr 1 [poly.pat R.a6 q]])]) ?_;exact h
theorem ah8 (R:Rt) (g:R.a5.length<1000000/\R.shares.length<1000000) (b:List Int) (k:Nat) (l:List (Int × Hbm.aG)) (t:Int) (s:Fr) (G:Ob.aj) {d n r:ax} {x:Nat->ax}
  (h:∀ a w,Ob.GH (ot gl w0 M0 F0) kE.ntmps (qZ R.p b (k:Int) l.length l) (Ob.aj.sep (bA (eX R R.me s)) G) a w->d a w) :
  Ob.aN Tryz.prog (Lm.drop 3) (Ob.GH (ot gl w0 M0 F0) kE.ntmps (Cc R.p b (k:Int) l.length l [(5,sI .i64 t),(6,.is (.one (.ptr 0 0))),(33,aA true)] [(0,[.row .fr 1 [s]])]) (Ob.aj.sep (bA R) G)) n r (fun i a w=>match beq i (b7 (ar (aV S9) 2)) with|true=>d a w|false=>x i a w):=by
 refine Ob.je (ar Lm 3) ?_;refine Ob.iD mixed (rid:=9) (ops:=bC (ar hd9 0)) ab ?_;refine Ob.sP (E:=ot gl w0 M0 F0) (G':=Ob.aj.obj (dE R (bn++[.v (.int .i64 R.fault)])) R.p G) (by unfold bA;exact (Ob.bF _ _ _).symm) ?_;refine Ob.qw (E:=ot gl w0 M0 F0) [0] ab (Ta R b (k:Int) l.length l [(6,ao 0 0)] [(0,[.row .fr 1 [s]])]) (ay ab ab trivial) ?_;refine Ob.eL e7 6 (fun _=>()) (fun _=>Ta R b (k:Int) l.length l [(34,ao 9 0),(38,sI .i64 R.me),(39,Yg s)] []) (fun _=>True) ae ab ?_ (fun _ _=>?_);intros;refine @aq ((Ta R b (k:Int) l.length l [(34,SV.is (TV.one (Cell.ptr 9 0))),(38,sI IntKind.i64 R.me),(39,Yg s)] []).ah True) _ ?_ ?_;kernel_rfl;exact au trivial;refine Ob.QH (E:=ot gl w0 M0 F0) (bl:=dE R (bn++[.v (.int .i64 R.fault)])) [8] [9,10,11,12,13,14] rfl ab ab rfl ab 10 (Cc R.p b (k:Int) l.length l [(34,aB R.p),(38,sI .i64 R.me),(39,Yg s)] []) (ay ab ab trivial) ?_;refine Ob.sP (E:=ot gl w0 M0 F0) (G':=Ob.aj.sep (bA R) G) (by unfold bA;exact Ob.bF _ _ _) ?_;refine Ob.o1 (Ob.eO (E:=ot gl w0 M0 F0) (Ob.b5 (fun _=>G) (aaW gl)) (R,R.me,s) g ab KV ab ab (fun _=>rfl)) ab ab (fun _ _=>?_);refine Ob.gS e7 (fun _=>()) (fun _=>qZ R.p b (k:Int) l.length l) (fun _=>True) (Odt ab) ?_ (fun _ _=>?_);intros;refine @aq ((qZ R.p b (k:Int) l.length l).ah True) _ ?_ ?_;kernel_rfl;exact au trivial;refine Ob.ju e7 mixed (fun _=>False) (fun _=>False) (fun i e=>i=1/\e.le (Ob.cm (ot gl w0 M0 F0)) (qZ R.p b (k:Int) l.length l) True) ?_ (fun _ _ _ h _=>h.elim) (fun _ _ _ h _=>h.elim) (fun i e a w f j=>?_);intros;refine @aq (1=1/\(qZ R.p b (k:Int) l.length l).ah True) _ ?_ ?_;kernel_rfl;exact⟨rfl,au trivial⟩;obtain⟨rfl,f⟩:=f;exact h a w (j.le f).2
theorem ah9 (R:Rt) (a:List Int) (k:Nat) (l:List (Int × Hbm.aG)) (f:l.length<1000) (t:Int) (s:Fr) (G:Ob.aj) {n r:ax} {x:Nat->ax}
  (h:Ob.aN Tryz.prog [] (Ob.GH (ot gl w0 M0 F0) kE.ntmps (qZ R.p a (k:Int) (l++[(t,qj R.me s)]).length (l++[(t,qj R.me s)])) (Ob.aj.sep (bA R) G)) n r x) :
  Ob.aN Tryz.prog (Lm.drop 3) (Ob.GH (ot gl w0 M0 F0) kE.ntmps (Cc R.p a (k:Int) l.length l [(5,sI .i64 t),(6,ao 0 0),(33,aA false)] [(0,[.row .fr 1 [s]])]) (Ob.aj.sep (bA R) G)) n r x:=by
 refine Ob.e5 (ar Lm 3) ?_;refine Ob.kO e7 mixed 1 [(1,25)] (fun _=>()) (fun _=>Cc R.p a (k:Int) l.length l [(5,sI .i64 t),(7,ao 1 0)] [(1,[.ints .u8 32 (fr.lh s)])]) (fun _=>True) (fun _=>False) (fun _ _=>False) ?_ (fun _ _=>?_) (fun _ _ _ h _=>h.elim) (fun _ _ _ _ h _=>h.elim);intros;refine @aq (True/\(Cc R.p a (k:Int) l.length l [(5,sI IntKind.i64 t),(7,SV.is (TV.one (Cell.ptr 1 0)))] [(1,[Cell.ints IntKind.u8 32 (fr.lh s)])]).ah True) _ ?_ ?_;kernel_rfl;exact⟨trivial,au trivial⟩;refine Ob.aP (G':=Ob.aj.obj (dE R (bn++[.v (.int .i64 R.fault)])) R.p G) (by unfold bA;exact (Ob.bF _ _ _).symm) ?_;refine Ob.gR [0] (Ta R a (k:Int) l.length l [(5,sI .i64 t),(7,ao 1 0)] [(1,[.ints .u8 32 (fr.lh s)])]) ?_;refine Ob.eK e7 1 (hdP R a (k:Int) l.length l [(5,sI .i64 t),(8,ao 63 0)] [(1,[.ints .u8 32 (fr.lh s)]),(63,[.v (.int .i64 4),.v (.int .i64 0),.v (.int .i64 R.me),.v (.int .i64 0),.v (.int .i64 0),.v (.int .i64 0),.sl 1 0 0 32 1])]) ?_;refine Ob.fj (E:=ot gl w0 M0 F0) (bl:=dE R (bn++[.v (.int .i64 R.fault)])) [8,1,63] [9,10,11,12,13,14] 10 (hdK R.p a (k:Int) l.length l [(5,sI .i64 t),(8,ao 63 0)] [(1,[.ints .u8 32 (fr.lh s)]),(63,[.v (.int .i64 4),.v (.int .i64 0),.v (.int .i64 R.me),.v (.int .i64 0),.v (.int .i64 0),.v (.int .i64 0),.sl 1 0 0 32 1])]) ?_;refine Ob.aP (G':=Ob.aj.sep (bA R) G) (by unfold bA;exact Ob.bF _ _ _) ?_;refine Ob.xh e7 0 [(0,63)] (Cc R.p a (k:Int) l.length l [(5,sI .i64 t),(8,ao 0 0)] [(1,[.ints .u8 32 (fr.lh s)]),(0,[.v (.int .i64 4),.v (.int .i64 0),.v (.int .i64 R.me),.v (.int .i64 0),.v (.int .i64 0),.v (.int .i64 0),.sl 1 0 0 32 1])]) ?_;refine Ob.sS [.v (.int .i64 4),.v (.int .i64 0),.v (.int .i64 R.me),.v (.int .i64 0),.v (.int .i64 0),.v (.int .i64 0)] 0 1 32 1 (.int .u8) (fr.lh s) (.ints .u8 32 (fr.lh s)) [] ae Ob.xm rfl rfl (yI s) ?_;refine Ob.fR (Cc R.p a (k:Int) l.length l [(5,sI .i64 t),(8,ao 0 0)] [(0,df (qj R.me s))]) ?_;refine Ob.kO e7 mixed 1 [(8,49)] (fun d=>cT bH 8 d) (fun q=>qZ R.p a (k:Int) (l.length+1) q) (fun q=>q=l++[(t,qj R.me s)]) (fun _=>False) (fun _ _=>False) ?_ (fun q b=>?_) (fun _ _ _ h _=>h.elim) (fun _ _ _ _ h _=>h.elim);intros;refine @aq (0+1<=1/\l.length<=l.length/\(l.length+1)*80<=140737488355328/\l.length+1<=4611686018427387904/\(qZ R.p a (k:Int) (l.length+1) (take l.length l++take 1 [(t,(qj R.me s).fst,0,R.me,0,0,0,fr.lh s)])).ah (take l.length l++take 1 [(t,(qj R.me s).fst,0,R.me,0,0,0,fr.lh s)]=l++[(t,qj R.me s)])) _ ?_ ?_;kernel_rfl;refine⟨ae,aI _,aa,aa,au ?_⟩;rw[aT];rfl;subst b;have e:qZ R.p a (k:Int) (l.length+1) (l++[(t,qj R.me s)])=qZ R.p a (k:Int) (l++[(t,qj R.me s)]).length (l++[(t,qj R.me s)]):=by simp only[a7,bN,eH,bO]
 rw[e];exact h
theorem Wc (R:Rt) (y:R.a6.length<1000) (K:R.a5.length+1<1000000/\R.shares.length+1<1000000) (d:List Int) (s:∀ x∈d,fy x) (A:d.length<1000) (k:Nat) (o:k<d.length) (G:Ob.aj) {r:ax} {x:Nat->ax} :
  Ob.aN Tryz.prog ((aV S9).drop 2) (Ob.GH (ot gl w0 M0 F0) kE.ntmps (qZ R.p d (k:Int) (cn R (d.take k)).length (cn R (d.take k))) (Ob.aj.sep (bA (dm R (d.take k))) G)) (Ob.GH (ot gl w0 M0 F0) kE.ntmps (qZ R.p d ((k+1:Nat):Int) (cn R (d.take (k+1))).length (cn R (d.take (k+1)))) (Ob.aj.sep (bA (dm R (d.take (k+1)))) G)) r x:=by
 obtain⟨u,g,m,C,D⟩:=D4 R (d.take k);have e:d.take (k+1)=d.take k++[d.getD k 0]:=by rw[cw o,a2,bu o];rfl
 rw[e,Ns,S8];have l:=xi R (d.take k);rw[c5] at l;have j:(dm R (d.take k)).a5.length<1000000/\(dm R (d.take k)).shares.length<1000000:=by unfold dm;split;unfold eX;split;omega;simp only[a7,bN,eH];omega;omega
 generalize dm R (d.take k)=i at u g m C D j;generalize I:cn R (d.take k)=L at l;refine Ob.dL (E:=ot gl w0 M0 F0) (c:=ar (aV S9) 2) (Ob.GH (ot gl w0 M0 F0) kE.ntmps (qZ R.p d (k:Int) (L++cn R [d.getD k 0]).length (L++cn R [d.getD k 0])) (Ob.aj.sep (bA (if d.getD k 0=R.me then eX i R.me (poly.pat R.a6 (d.getD k 0)) else i)) G)) ab ab ?_ ?_
 ·rw[<- u];refine ah7 gl w0 M0 F0 i (by rw[m];exact y) d s k o L (d.getD k 0) rfl G ?_;by_cases f:d.getD k 0=i.me
  ·rw[cg f];refine ah8 gl w0 M0 F0 i j d k L (d.getD k 0) _ G (fun a w t=>?_);have n:cn R [d.getD k 0]=[]:=by unfold cn;rw[tP,cg (by rw[f,g])];rfl
   rw[n,bw,ak (by rw[f,g])];rw[g,m] at t;exact t
  ·rw[cp f];refine ah9 gl w0 M0 F0 i d k L aa (d.getD k 0) _ G ?_;have n:cn R [d.getD k 0]=[(d.getD k 0,qj R.me (poly.pat R.a6 (d.getD k 0)))]:=by unfold cn;rw[tP,cp (by rw[<- g];exact f)];rfl
   rw[n,ai (by rw[<- g];exact f),g,m];exact Ob.cr fun _ _ h=>h
 refine Ob.gcd e7 1 (fun F=>bo iK 18 F) (fun q=>qZ R.p d q (L++cn R [d.getD k 0]).length (L++cn R [d.getD k 0])) (fun q=>q=((k+1:Nat):Int)) ?_ (fun q f=>?_);intros;refine @aq ((qZ R.p d (IntKind.i64.wrap ((k:Int)+1)) (L++cn R [d.getD k 0]).length (L++cn R [d.getD k 0])).ah (IntKind.i64.wrap ((k:Int)+1)=(↑(k+1):Int))) _ ?_ ?_;kernel_rfl;exact au (aS aa);subst f;exact Ob.cr fun _ _ h=>h
end
theorem Hm (a:List Pt):Bs (law22.cP a):=by rw[law22.cP,bm];exact afk a
theorem DP (a:List Pt):(law22.cP a).length=48*a.length:=by rw[law22.cP,bm,DO]
theorem pD (p:List Fr):(poly.cM p).length=p.length:=by rw[poly.cM,bZ]
def oq (z:c7):SayIn:=⟨dm z.R z.R.takers,z.H,1,law22.cP (poly.cM z.R.a6)⟩
def dW (z:c7) (q:Nat × Nat × Nat):List (Int × Hbm.aG):=if z.R.me∈z.R.dealers then cn z.R z.R.takers++dv (hI (oq z) q) else []
def la (z:c7) (q:Nat × Nat × Nat):c7:=if z.R.me∈z.R.dealers then ⟨pS (oq z) q,qC (oq z) q⟩ else z
def hdA (p:Nat):St:=av kE.ntmps 8 [(0,aB p)] []
def ah0 (p:Nat):St:=av kE.ntmps 8 [(0,aB p),(9,aB p)] []
def adm (p:Nat) (q:Bool):St:=av kE.ntmps 8 [(0,aB p),(11,aA q)] []
def ah1 (R:Rt):St:=av kE.ntmps 14 [(0,ao 8 0),(3,fM)] (hU R (bn++[.v (.int .i64 R.fault)]))
def ah2 (R:Rt):St:=av kE.ntmps 14 [(0,ao 8 0),(3,fM),(16,ag (.ro iK R.takers)),(17,sI .i64 R.takers.length),(18,sI .i64 0)] (hU R (bn++[.v (.int .i64 R.fault)]))
def ah3 (p:Nat) (a:List Int):St:=av kE.ntmps 8 [(0,aB p),(3,fM),(16,ag (.ro iK a)),(17,sI .i64 a.length),(18,sI .i64 0)] []
def ah4 (p:Nat) (n:Nat) (l:List (Int × Hbm.aG)):St:=av kE.ntmps 9 [(0,aB p),(3,ag (.sl 8 0 0 n 8))] [(8,[.row bH n l])]
def ah5 (R:Rt) (n:Nat) (l:List (Int × Hbm.aG)):St:=av kE.ntmps 15 [(0,ao 9 0),(3,ag (.sl 8 0 0 n 8))] ((8,[.row bH n l])::CP R (bn++[.v (.int .i64 R.fault)]))
def ado (R:Rt) (n:Nat) (l:List (Int × Hbm.aG)) (b:List Int):St:=av kE.ntmps 15 [(56,ag (.sl 8 0 0 n 8)),(57,ao 9 0),(63,lP b)] ((8,[.row bH n l])::CP R (bn++[.v (.int .i64 R.fault)]))
def ah6 (p:Nat) (n:Nat) (l:List (Int × Hbm.aG)) (b:List Int):St:=av kE.ntmps 9 [(56,ag (.sl 8 0 0 n 8)),(57,aB p),(63,lP b)] [(8,[.row bH n l])]
def adp (n m:Nat) (l:List (Int × Hbm.aG)):St:=av kE.ntmps 82 [(2,ag (.sl 81 0 0 (n+m) 8))] [(81,[.row bH (n+m) l])]
theorem Au {z:SayIn} (f:du z.H) (a:Bs z.b) (q:Nat × Nat × Nat):(dv (hI z q)).length<1048576:=by unfold dv;rw[bZ];have d:=KC a;have e:=xK z.H (1,0,z.H.me,z.H.me,z.tp,0,eD z.b) q;show ([_]++(Hbn.iX z.H (1,0,z.H.me,z.H.me,z.tp,0,eD z.b) q).2.1).length<_;rw[a7];have:=e.2.2;simp only[bN,eH];omega
theorem aaT (gl:Nat->Option (Sigma aH)):Ob.ez Tryz.prog gl 36 (fun z:c7=>[aB z.R.p]) c7.ok c7.cv (fun z (q:Nat × Nat × Nat)=>ag (.ro bH (dW z q))) (fun z q=>(la z q).cv) (fun _ _=>True):=by
 refine Ob.c9 (sp:=Wb) KS ab (fun z=>by show 1<=kE.ntmps;exact Odt ab) (fun z _=>rfl) ?_;rintro⟨R,H⟩ ⟨c,y,e⟩ w0 M0 F0;have e:eF c R H:=e;have o:=e.tk;have m:=e.a6;show Ob.aN _ _ (Ob.GH _ _ _ (Ob.aj.sep (bA R) (bz H))) _ _ _;refine Ob.eK e7 1 (hdA R.p) ?_;refine Ob.ep 1 (bC (ar (al kE) 1)) ?_;refine Ob.dT e7 1 (ah0 R.p) ?_;refine Ob.kj (E:=ot gl w0 M0 F0) (Ob.b5 (fun _=>bz H) (Ju gl)) R e.dl zB (fun _ _=>?_);refine Ob.gA e7 3 (fun r=>bo .bool 11 r) (fun q=>adm R.p q) (fun q=>q=!decide (R.me∈R.dealers)) ?_ (fun q l=>Ob.ei ?_);intros;refine @aq ((adm R.p !decide (R.me∈R.dealers)).ah ((!decide (R.me∈R.dealers))=!decide (R.me∈R.dealers))) _ ?_ ?_;kernel_rfl;exact au rfl;cases q
 ·have g:R.me∈R.dealers:=by
   have:decide (R.me∈R.dealers)=true:=by cases h:decide (R.me∈R.dealers) with|true=>rfl|false=>rw[h] at l;cases l
   exact Odt this
  refine Ob.e5 (ar (al kE) 2) ?_;refine Ob.aP (G':=Ob.aj.obj (dE R (bn++[.v (.int .i64 R.fault)])) R.p (bz H)) (by unfold bA;exact (Ob.bF _ _ _).symm) ?_;refine Ob.eK e7 1 (av kE.ntmps 8 [(0,aB R.p),(3,fM)] []) ?_;refine Ob.gR [0] (ah1 R) ?_;refine Ob.eK e7 1 (ah2 R) ?_;refine Ob.fj (E:=ot gl w0 M0 F0) (bl:=dE R (bn++[.v (.int .i64 R.fault)])) [] [8,9,10,11,12,13] 9 (ah3 R.p R.takers) ?_;refine Ob.aP (G':=Ob.aj.sep (bA R) (bz H)) (by unfold bA;exact Ob.bF _ _ _) ?_;refine Ob.qY 3 8 (.row bH 0 []) ab ?_;refine Ob.fR (qZ R.p R.takers 0 0 []) ?_;refine Ob.vf e7 mixed (c:=S9) (fun k=>qZ R.p R.takers (k:Int) (cn R (R.takers.take k)).length (cn R (R.takers.take k))) (fun k=>Ob.aj.sep (bA (dm R (R.takers.take k))) (bz H)) R.takers.length ab ab (fun k s w ids M num=>?_) (fun k s=>?_) ?_;refine aq (X:=((decide ((k:Int)<(R.takers.length:Int))=true->(qZ R.p R.takers (k:Int) (cn R (take k R.takers)).length (cn R (take k R.takers))).ah (k<R.takers.length))/\(decide ((k:Int)<(R.takers.length:Int))=false->(qZ R.p R.takers (k:Int) (cn R (take k R.takers)).length (cn R (take k R.takers))).ah (k=R.takers.length)))) ab ?_;exact⟨fun h=>au (by have:=dec_lt h;omega),fun h=>au (by have:=bX h;omega)⟩;exact Wc gl w0 M0 F0 R m (by have:=e.a5;have:=e.frl;omega) R.takers e.tI o k s (bz H);rw[aT];have n:=xi R R.takers;have d:=e.handed R.takers;refine Ob.fR (ah4 R.p (cn R R.takers).length (cn R R.takers)) ?_;generalize f:dm R R.takers=a at d;have i:=D4 R R.takers;rw[f] at i;obtain⟨x,A,j,C,D⟩:=i;rw[<- x];refine Ob.aP (G':=Ob.aj.obj (dE a (bn++[.v (.int .i64 a.fault)])) a.p (bz H)) (by unfold bA;exact (Ob.bF _ _ _).symm) ?_;refine Ob.ep 14 (bC (ar (al kE) 6)) ?_;refine Ob.sQ (E:=ot gl w0 M0 F0) [0] ab (ah5 a (cn R R.takers).length (cn R R.takers)) (ay ab ab trivial) ?_;refine Ob.gA e7 8 (fun _=>()) (fun _=>ado a (cn R R.takers).length (cn R R.takers) (law22.cP (poly.cM a.a6))) (fun _=>True) ?_ (fun _ _=>?_);intros;refine @aq (poly.CB (a.a6,())/\wc (poly.cM a.a6,())/\(ado a (cn R R.takers).length (cn R R.takers) (law22.cP (poly.cM a.a6))).ah True) _ ?_ ?_;kernel_rfl;exact⟨by show a.a6.length<_;rw[j];omega,by show (poly.cM a.a6).length<=_;rw[pD,j];omega,au trivial⟩;refine Ob.QI (E:=ot gl w0 M0 F0) (bl:=dE a (bn++[.v (.int .i64 a.fault)])) [8] [9,10,11,12,13,14] rfl ab ab rfl ab 10 (ah6 a.p (cn R R.takers).length (cn R R.takers) (law22.cP (poly.cM a.a6))) (ay ab ab trivial) ?_;refine Ob.vH (E:=ot gl w0 M0 F0) (G':=Ob.aj.sep (bA a) (bz H)) (by unfold bA;exact Ob.bF _ _ _) ?_;refine Ob.kj (E:=ot gl w0 M0 F0) (LU gl) ⟨a,H,1,law22.cP (poly.cM a.a6)⟩ ⟨d.hub,Hm _,(by rw[DP,pD,j];omega:(law22.cP (poly.cM a.a6)).length<1048576),d.hp,d.I2 aa⟩ qT (fun q _=>?_);have u:=Au (z:=⟨a,H,1,law22.cP (poly.cM a.a6)⟩) d.hub (Hm _) q;refine Ob.gA e7 11 (fun r=>cT bH 81 r) (fun b=>adp (cn R R.takers).length (dv (hI ⟨a,H,1,law22.cP (poly.cM a.a6)⟩ q)).length b) (fun b=>b=cn R R.takers++dv (hI ⟨a,H,1,law22.cP (poly.cM a.a6)⟩ q)) ?_ (fun b t=>Ob.ei ?_);intros;refine @aq ((cn R R.takers).length<=(cn R R.takers).length/\((cn R R.takers).length+(dv (hI { R:=a,H:=H,tp:=1,b:=law22.cP (poly.cM a.a6) } q)).length)*80<=140737488355328/\(cn R R.takers).length+(dv (hI { R:=a,H:=H,tp:=1,b:=law22.cP (poly.cM a.a6) } q)).length<=4611686018427387904/\(adp (cn R R.takers).length (dv (hI { R:=a,H:=H,tp:=1,b:=law22.cP (poly.cM a.a6) } q)).length (take (cn R R.takers).length (cn R R.takers)++dv (hI { R:=a,H:=H,tp:=1,b:=law22.cP (poly.cM a.a6) } q))).ah (take (cn R R.takers).length (cn R R.takers)++dv (hI { R:=a,H:=H,tp:=1,b:=law22.cP (poly.cM a.a6) } q)=cn R R.takers++dv (hI { R:=a,H:=H,tp:=1,b:=law22.cP (poly.cM a.a6) } q))) _ ?_ ?_;kernel_rfl;have n:(cn R R.takers).length<1000:=aa;refine⟨aI _,aa,aa,au ?_⟩;rw[aT];subst t;refine Ob.OD 2 81 ((cn R R.takers).length+(dv (hI ⟨a,H,1,law22.cP (poly.cM a.a6)⟩ q)).length) 8 bH (cn R R.takers++dv (hI ⟨a,H,1,law22.cP (poly.cM a.a6)⟩ q)) ab ab (a7 ..) ?_;refine Ob.gT e7 mixed _ ?_ ⟨q,trivial,Ob.br _,?_⟩;intros;refine @aq (SV.is (TV.one (Cell.ro bH (cn R R.takers++dv (hI { R:=a,H:=H,tp:=1,b:=law22.cP (poly.cM a.a6) } q))))=SV.is (TV.one (Cell.ro bH (dW { R:=R,H:=H } q)))) _ ?_ ?_;kernel_rfl;show _=SV.is (.one (.ro bH (dW ⟨R,H⟩ q)));unfold dW oq;rw[ak g];show _=SV.is (.one (.ro bH (cn R R.takers++dv (hI ⟨dm R R.takers,H,1,law22.cP (poly.cM R.a6)⟩ q))));rw[f,<- j];show _=(la ⟨R,H⟩ q).cv;unfold la oq;rw[ak g];show _=c7.cv ⟨pS ⟨dm R R.takers,H,1,law22.cP (poly.cM R.a6)⟩ q,qC ⟨dm R R.takers,H,1,law22.cP (poly.cM R.a6)⟩ q⟩;rw[f,<- j]
 ·have g:¬ R.me∈R.dealers:=by
   have:decide (R.me∈R.dealers)=false:=by cases h:decide (R.me∈R.dealers) with|false=>rfl|true=>rw[h] at l;cases l
   exact Odf this
  refine Ob.je (ar (al kE) 2) ?_;refine Ob.iu e7 mixed fM ?_ ⟨(0,0,0),trivial,?_,?_⟩;intros;refine @aq (SV.is (TV.one (Cell.v (Value.slice none 0 0)))=fM) _ ?_ ?_;kernel_rfl;rfl;show cL _ (ag (.ro bH (dW ⟨R,H⟩ (0,0,0))));unfold dW;rw[ai g];exact Iq bH;show _=(la ⟨R,H⟩ (0,0,0)).cv;unfold la;rw[ai g]
end rite
end Go.Proofs.YtofofalgjibokaaGreatDoor
namespace Go.Eng
open Go.IntKind(i64)
open Go.IntKind(i64 u8)
def HE (j:Nat) (B:bE):bE:=fun i=>match beq i j with
 | true=>match B i with
  | some (c::_)=>some [c]
  | x=>x
 | false=>B i
theorem xb {j:Nat} {B:bE} {i:Nat} {a:List Cell} (h:HE j B i=some a):∃ r,B i=some (a++r)/\(a=[]->r=[]):=by unfold HE at h;split at h;split at h;rename_i c r b;cases h;exact⟨r,b,fun h=>by cases h⟩;exact⟨[],by rw[bw];exact h,fun _=>rfl⟩;exact⟨[],by rw[bw];exact h,fun _=>rfl⟩
theorem yy {g:aC}:∀ {b r:List Cell} {l:List Value},az g (b++r) l->∃ a d,l=a++d/\az g b a
 | [],r,l,h=>⟨[],l,rfl,rfl⟩
 | c::b,r,l,h=>by obtain⟨f,n,e,j,k⟩:=h;obtain⟨a,d,i,m⟩:=yy k;exact⟨f++a,d,by rw[e,i,cH],f,a,rfl,j,m⟩
theorem Ctx.HE {s:cD} {id:Nat} {t:aC} {B:bE} {w:World} (j:Nat) (h:Ctx s id t B w):Ctx s id t (HE j B) w:=by refine⟨h.below,fun i f a o b z=>?_,h.bound,h.free,h.mem,h.glob,fun i A f u b a g m k=>?_,fun b l n i f a g=>?_⟩;obtain⟨r,c,_⟩:=xb a;obtain⟨l,⟨d,x,fr,C,D,F⟩,n⟩:=h.blks i (f++r) c (by intro e;exact o (List.append_eq_nil_iff.1 e).1) b z;obtain⟨G,H,e,y⟩:=yy n;subst e;exact⟨G,⟨H++d,x,fr,by rw[<- cH];exact C,by rw[<- cH];exact D,F⟩,y⟩;obtain⟨r,c,_⟩:=xb a;obtain⟨I,q,_⟩:=xb m;exact h.inj i A _ _ b c (by intro e;exact g (List.append_eq_nil_iff.1 e).1) q (by intro e;exact k (List.append_eq_nil_iff.1 e).1);obtain⟨r,c,_⟩:=xb a;exact h.apart b l n i _ c (by intro e;exact g (List.append_eq_nil_iff.1 e).1)
def MY (j:Nat) (F:Spec):Spec:=fun w id args B=>F w id args (HE j B)
theorem UL {P:Program} {f:FuncId} {b:List Kd} {a:List cU} {pre:HL b->Prop} {F:HL b->HO a} (h:aO P f b a bB pre F) (l:eT a=true) (j:Nat) (g:dA a<=1:=by decide):nN P f (MY j (aK b a pre F)):=by
 intro r id args B out c d s q w n i;refine (aR h g r id args _ out c d s q w n (i.HE j)).mono ?_;rintro v t ⟨e,m,k⟩;have o:out.wr=[]:=by unfold MY aK at c;split at c;cases c;show pG _ _ _=[];unfold pG;rw[l];cases c
 exact⟨e,m,{ k with wr:=fun p d=>by rw[o] at d;cases d }⟩
namespace Ob
section
variable {E:cf} {N:Nat}
theorem Ld {g:St} {G:aj} {a:Act} {w:World} (id p b:Nat) (r j:List Cell) (hp:(id,p)∈E.pins) (H:g.B b=some r) (x:r≠[]) (A:∀ o:aC,o id=some p->∀ l,az o r l->az o j l) (Z:GH E N g G a w):GH E N ⟨g.slots,(b,j)::g.blks,g.next⟩ G a w:=by
 obtain⟨W,F,I,X,Y⟩:=Z;obtain⟨u,o,f,C⟩:=Y;have D:o id=some p:=(f.init (id,p) (I.xx _ hp)).1;have s:∀ i c,St.B ⟨g.slots,(b,j)::g.blks,g.next⟩ i=some c->(i=b/\c=j)\/(i≠b/\g.B i=some c):=by
  intro i c h;simp only[St.B,cW] at h;cases t:beq b i with
  | true=>rw[t] at h;exact .inl ⟨(fa t).symm,(jV h).symm⟩
  | false=>rw[t] at h;exact .inr ⟨fun e=>(by subst e;rw[gi] at t;cases t),h⟩
 have m:∀ i c,St.B ⟨g.slots,(b,j)::g.blks,g.next⟩ i=some c->c≠[]->∃ d,g.B i=some d/\d≠[]:=by intro i c h A;rcases s i c h with ⟨rfl,_⟩|⟨_,k⟩;exact⟨r,H,x⟩;exact⟨c,k,A⟩
 refine⟨W,F,I,X,u,o,{ f with blks:=fun i c h n q L=>?_,inj:=fun i O c P q R T U V=>?_,mem:=fun q l K=>⟨fun i c h n=>?_,(f.mem q l K).2⟩ },C⟩;rcases s i c h with ⟨rfl,rfl⟩|⟨_,k⟩;obtain⟨l,y,z⟩:=f.blks i r H x q L;exact⟨l,y,A o D l z⟩;exact f.blks i c k n q L;obtain⟨d,y,z⟩:=m i c R T;obtain⟨Q,k3,k4⟩:=m O P U V;exact f.inj i O d Q q y z k3 k4;obtain⟨d,y,z⟩:=m i c h n;exact (f.mem q l K).1 i d y z
theorem adk {n r:ax} {x:Nat->ax} {l:List Code} {f:St} {G:aj} (m:Nat) (s:ble f.next m=true) (i:aN E.P l (GH E N ⟨f.slots,f.blks,m⟩ G) n r x):aN E.P l (GH E N f G) n r x:=by refine n8 (fun a w o=>?_) i;obtain⟨W,F,q,j,k⟩:=o;obtain⟨d,t,e,g⟩:=k;exact⟨W,F,q,j,d,t,e,fun id b h=>fe (g id b h) (gJ s)⟩
theorem F4 {l:List Code} {e:Array Oper} {j:Nat} {n r:ax} {x:Nat->ax} {f:St} {G:aj} (t id a i c d:Nat) (k:f.S t=ag (.pe id a i c)) (b:a+i*c=d) (g:kz E.P e j l (GH E N ⟨f.slots.set t (ao id d),f.blks,f.next⟩ G) n r x):kz E.P e j l (GH E N f G) n r x :=
 kJ (fun _ _ m=>m.ref t _ (by rw[k,<- b];exact fun _ _ h=>h)) g
theorem U3 {a:aC} {id p:Nat} (h:a id=some p):∀ l,az a [.v (pt p)] l->az a [.ptr id 0] l:=by rintro l ⟨d,f,e,⟨b,_⟩,c⟩;exact⟨d,f,e,⟨p,h,b⟩,c⟩
theorem Sd {a:aC} {id p:Nat} (h:a id=some p):∀ l,az a [.ptr id 0] l->az a [.v (pt p)] l:=by rintro l ⟨g,i,e,⟨b,c,f⟩,d⟩;rw[h] at c;cases c;exact⟨g,i,e,⟨f,rfl⟩,d⟩
theorem ED {n r:ax} {x:Nat->ax} {l:List Code} {a:St} {G:aj} (id p b:Nat) (g:(id,p)∈E.pins) (e:a.B b=some [.v (pt p)]) (d:aN E.P l (GH E N ⟨a.slots,(b,[.ptr id 0])::a.blks,a.next⟩ G) n r x):aN E.P l (GH E N a G) n r x :=
 n8 (fun _ _ f=>Ld id p b _ _ g e aw (fun i h=>U3 h) f) d
theorem zR {n r:ax} {x:Nat->ax} {l:List Code} {a:St} {G:aj} (id p b:Nat) (g:(id,p)∈E.pins) (e:a.B b=some [.ptr id 0]) (d:aN E.P l (GH E N ⟨a.slots,(b,[.v (pt p)])::a.blks,a.next⟩ G) n r x):aN E.P l (GH E N a G) n r x :=
 n8 (fun _ _ f=>Ld id p b _ _ g e aw (fun i h=>Sd h) f) d
end
end Ob
end Go.Eng
namespace Go.Proofs.YtofofalgjibokaaGreatDoor
namespace rite
open Go.IntKind(i64)
open Go.IntKind(i64 u8)
set_option maxHeartbeats 4000000
open Go.Eng Go.RowKit Cr hub deal
open Go.Hbn(Talk bb eG)
def o9 (t a:Int) (f:Int × List Int):Bool:=f.1==t&&decide (a∈f.2)
def C7 (a:List (Int × List Int)):Prop:=a.length<4611686018427387904/\∀ f∈a,f.2.length<4611686018427387904
theorem ZT:enters Tryz.prog 69 Tryz.f69:=ek
theorem acW:aO Tryz.prog 69 [cB,.ptr iK,.ptr (.ptr iK)] [.val .bool] bB (fun (f,_,_,_)=>length (Prod.snd f:List Int)<4611686018427387904) (fun (f,t,a,_)=>(o9 t a f,())):=by refine bg (sp:=aU [law22.ku]) (aM (aR law22.l7) bD) mixed ZT ae ae ?_;rintro w M0 ⟨⟨b,f2⟩,t,a,⟨⟩⟩;revert b f2 t a;intro (b:Int) (f2:List Int) (t:Int) (a:Int) _ d;have d:f2.length<4611686018427387904:=d;refine @aq (0<[t].length/\((b==t)=true->0<[a].length/\0<[a].length/\law22.g8 (f2,a,())/\(decide (a∈f2),())=(o9 t a (b,f2),()))/\((b==t)=false->(false,())=(o9 t a (b,f2),()))) _ ?_ ?_;kernel_rfl;refine⟨jY,fun h=>⟨jY,jY,d,?_⟩,fun h=>?_⟩;show (decide (a∈f2),())=(b==t&&decide (a∈f2),());rw[h];rfl;show (false,())=(b==t&&decide (a∈f2),());rw[h];rfl
def Y5:Nat × Eng.Spec:=(69,aK [cB,.ptr iK,.ptr (.ptr iK)] [.val .bool] (fun (f,_,_,_)=>length (Prod.snd f:List Int)<4611686018427387904) (fun (f,t,a,_)=>(o9 t a f,())))
abbrev FL:Kd:=.cap (.cap (.fn 69) iK) (.ptr iK)
theorem ZV:enters Tryz.prog 111 Tryz.f111:=ek
def Rp (a:List (Int × List Int)) (t b:Int) (g:Int):St:=av Tryz.f111.ntmps 32 [(0,ag (.ro cB a)),(1,ag (.fv FL (((),t),b))),(7,sI .i64 a.length),(8,sI .i64 g)] []
theorem acY:aO Tryz.prog 111 [.sl cB,FL] [.val iK] bB (fun (a,((_,_),_),_)=>C7 a) (fun (a,((_,t),b),_)=>(dx (o9 t b) a,())):=by
 have e:aJ Tryz.prog (aU [Y5]):=aM (aR acW) bD;refine bL (sp:=aU [Y5]) ZV ae ae ab ?_;rintro w M0 ⟨a,⟨⟨⟨⟩,t⟩,b⟩,⟨⟩⟩;revert a t b;intro (a:List (Int × List Int)) (b:Int) (t:Int) _ ⟨q,o⟩;have q:a.length<4611686018427387904:=q;have o:∀ f∈a,f.2.length<4611686018427387904:=o;show Tr _ _ _ _ _ _ _;refine bh e mixed 2 (Rp a t b 0) True ?_ (fun _=>?_);refine aq (X:=((Rp a t b 0).ah True)) ab ?_;exact au trivial;refine cl e mixed gO (fun s=>bo (.int .i64) 8 s) (Rp a t b) (fun g=>∃ k:Nat,k<=a.length/\g=(k:Int)/\k<=a.findIdx (o9 t b)) (fun g=>a.length-g.toNat)
  (fun _=>()) (fun _=>av Tryz.f111.ntmps 32 [] []) (fun _=>a.length<=a.findIdx (o9 t b)) 0 (c:=ar (al Tryz.f111) 2) ab ab (ay ab ab ?_) ?_ ?_
 exact⟨0,a8 _,rfl,a8 _⟩
 ·intro (i:Int) ⟨k,u,r,l⟩;subst r;refine @aq ((decide ((k:Int)<(a.length:Int))=true->(0<=(k:Int)/\(k:Int)<(a.length:Int))/\(k:Int).toNat<a.length/\(a.getD (k:Int).toNat (0,[])).snd.length<4611686018427387904/\(o9 t b (a.getD (k:Int).toNat (0,[]))=true->((k:Int),())=(dx (o9 t b) a,()))/\(o9 t b (a.getD (k:Int).toNat (0,[]))=false->(Rp a t b (i64.wrap ((k:Int)+1))).ah ((∃ j,j<=a.length/\i64.wrap ((k:Int)+1)=(j:Int)/\j<=List.findIdx (o9 t b) a)/\a.length-(i64.wrap ((k:Int)+1)).toNat<a.length-(k:Int).toNat)))/\(decide ((k:Int)<(a.length:Int))=false->(av Tryz.f111.ntmps 32 [] []).ah (a.length<=List.findIdx (o9 t b) a))) _ ?_ ?_;kernel_rfl;rw[aF];refine⟨fun h=>?_,fun h=>au (by have:=bX h;omega)⟩;have d:k<a.length:=by have:=dec_lt h;omega
  have n:(a.getD k ((0:Int),([]:List Int))).2.length<4611686018427387904:=by rw[a2,bu d];exact o _ (dr d)
  rw[aS aa];refine⟨⟨aa,aa⟩,d,n,fun m=>?_,fun m=>au ⟨⟨k+1,d,rfl,q7 ((0:Int),([]:List Int)) d l (by exact m)⟩,by rw[aF];omega⟩⟩;show ((k:Int),())=(dx _ a,());rw[vg ((0:Int),([]:List Int)) d l (by exact m)]
 rintro⟨⟩ (l:_<=_);refine bJ e mixed _ _ ?_;refine @aq (((-1:Int),())=(dx (o9 t b) a,())) _ ?_ ?_;kernel_rfl;show _=(dx _ a,());rw[sW l]
def age:Nat × Eng.Spec:=(111,aK [.sl cB,FL] [.val iK] (fun (a,((_,_),_),_)=>C7 a) (fun (a,((_,t),b),_)=>(dx (o9 t b) a,())))
theorem ZU:enters Tryz.prog 68 Tryz.f68:=ek
def mE (a:List (Int × List Int)) (t b:Int):Bool:=eR (a.any (o9 t b))
theorem acX:aO Tryz.prog 68 [.sl cB,FL] [.val .bool] bB (fun (a,((_,_),_),_)=>C7 a) (fun (a,((_,t),b),_)=>(mE a t b,())):=by
 refine bg (sp:=aU [age]) (aM (aR acY) bD) mixed ZU ae ae ?_;rintro w M0 ⟨a,⟨⟨⟨⟩,t⟩,b⟩,⟨⟩⟩;revert a t b;intro (a:List (Int × List Int)) (b:Int) (t:Int) _ d;refine @aq (C7 a/\(decide (dx (o9 t b) a>=0),())=(mE a t b,())) _ ?_ ?_;kernel_rfl;refine⟨d,?_⟩;show (decide ((if a.findIdx (o9 t b)<a.length then ((a.findIdx (o9 t b):Nat):Int) else -1)>=0),())=(mE a t b,());rw[mE,bm];by_cases h:a.findIdx (o9 t b)<a.length;have c:a.any (o9 t b)=true:=List.any_eq_true.2 ⟨_,dr h,wG⟩;rw[ak h,c,cg aa]
 ·have c:a.any (o9 t b)=false:=by
   cases e:a.any (o9 t b) with
   | false=>rfl
   | true =>obtain⟨y,f,d⟩:=List.any_eq_true.1 e;exact absurd (wD ⟨y,f,d⟩) h
  rw[ai h,c];rfl
def agd:Nat × Eng.Spec:=(68,MY 10 (aK [.sl cB,FL] [.val .bool] (fun (a,((_,_),_),_)=>C7 a) (fun (a,((_,t),b),_)=>(mE a t b,()))))
def kT (R:Rt) (a:List Int):List Int:=a.flatMap fun t=>if mE R.faults t R.me then u8.wrap t::fr.lh (poly.pat R.a6 t) else []
theorem Pe (R:Rt) (a b:List Int):kT R (a++b)=kT R a++kT R b:=by rw[kT,List.flatMap_append];rfl
theorem Pg (R:Rt) (t:Int):kT R [t]=if mE R.faults t R.me then u8.wrap t::fr.lh (poly.pat R.a6 t) else []:=by rw[kT,List.flatMap_cons,List.flatMap_nil,bw]
theorem Im (R:Rt):∀ a:List Int,(kT R a).length<=33*a.length
 | []=>aI _
 | t::a=>by have h:=Pe R [t] a;rw[List.singleton_append] at h;rw[h,a7,Pg,bN];have:=Im R a;split;rw[bN,yI];omega;rw[eH];omega
theorem acr (x:Fr):Bs (fr.lh x):=by rw[fr.lh,bm];exact w6 _ _
theorem Mm (R:Rt) (d:List Int):Bs (kT R d):=by intro x a;obtain⟨t,_,h⟩:=List.mem_flatMap.1 a;split at h;rcases mem_cons.1 h with h|h;rw[h];exact Hl t;exact acr _ x h;cases h
theorem I7:enters Tryz.prog 38 Tryz.f38:=ek
abbrev mr:Func:=Tryz.f38
abbrev WW:=aU [poly.ae0,MC,agd]
theorem fV:aJ Tryz.prog WW:=aM (aR poly.Ye) (aM (aR Je) (aM (UL acX rfl 10) bD))
abbrev Rx (R:Rt) (t:List Cell):List (Nat × List Cell):=[(10,lL R 11 12 13 14 15 R.deals.length R.faults.length R.proofs.length R.a5.length R.shares.length t),(11,[.row cy R.deals.length R.deals]),(12,[.row cB R.faults.length R.faults]),(13,[.row cG R.proofs.length R.proofs]),(14,[.ints .i64 R.a5.length R.a5]),(15,[.row .fr R.shares.length R.shares])]
abbrev YM:Code:=ar (al mr) 5
abbrev TX:List Code:=cV (ar (aV YM) 2)
abbrev aeA (a:List Int) (k:Int) (n:Nat):List (Nat × SV):=[(1,ao 8 0),(3,ag (.sl 9 0 0 n 1)),(15,ag (.ro iK a)),(16,sI .i64 a.length),(17,sI .i64 k)]
def oy (p:Nat) (f:List Int) (k:Int) (n:Nat) (l:List Int) (e:Nat) (d:List (Nat × SV)) (a:List (Nat × List Cell)):St:=av mr.ntmps e (aeA f k n++d) ((8,[.v (Ob.pt p)])::(9,[.ints .u8 n l])::a)
def JD (R:Rt) (c:Cell) (e:List Int) (k:Int) (n:Nat) (l:List Int) (d:Nat) (b:List (Nat × SV)) (a:List (Nat × List Cell)):St:=av mr.ntmps d (aeA e k n++b) ((8,[c])::(9,[.ints .u8 n l])::a++Rx R (bn++[.v (.int .i64 R.fault)]))
abbrev bT (t:Int):List (Nat × List Cell):=[(0,[.v (.int .i64 t)])]
abbrev sT:List (Nat × SV):=[(5,ao 0 0)]
section
variable (gl:Nat->Option (Sigma aH)) (w0:World) (M0:Mem) (F0:Nat->Prop)
abbrev qd:Ob.cf:=Ob.lj Tryz.prog WW gl w0 M0 F0
theorem ai5 (R:Rt) (m:R.faults.length<1000000/\∀ f∈R.faults,f.2.length<1000000) (a:List Int) (k:Nat) (o:k<a.length) (l:List Int) (t:Int) (i:t=a.getD k 0) (G:Ob.aj) {n r:ax} {x:Nat->ax}
  (h:Ob.aN Tryz.prog (TX.drop 3) (Ob.GH (qd gl w0 M0 F0) mr.ntmps (oy R.p a (k:Int) l.length l 10 (sT++[(6,aA (mE R.faults t R.me)),(27,aA (mE R.faults t R.me))]) (bT t)) (Ob.aj.sep (bA R) G)) n r x) :
  Ob.aN Tryz.prog TX (Ob.GH (qd gl w0 M0 F0) mr.ntmps (oy R.p a (k:Int) l.length l 10 [] []) (Ob.aj.sep (bA R) G)) n r x:=by
 refine Ob.kO fV mixed 1 [(0,26)] (fun e=>bo iK 20 e) (fun q=>oy R.p a (k:Int) l.length l 10 sT (bT q)) (fun q=>q=a.getD k 0) (fun _=>False) (fun _ _=>False) ?_ (fun q g=>?_) (fun _ _ _ h _=>h.elim) (fun _ _ _ _ h _=>h.elim);intros;refine @aq ((0<=(k:Int)/\(k:Int)<(a.length:Int))/\(k:Int).toNat<a.length/\(oy R.p a (k:Int) l.length l 10 sT (bT (a.getD (k:Int).toNat 0))).ah (a.getD (k:Int).toNat 0=a.getD k 0)) _ ?_ ?_;kernel_rfl;rw[aF];exact⟨⟨aa,aa⟩,o,au rfl⟩;rw[<- i] at g;subst g;refine Ob.aP (G':=Ob.aj.obj (dE R (bn++[.v (.int .i64 R.fault)])) R.p G) (by unfold bA;exact (Ob.bF _ _ _).symm) ?_;refine Ob.gR [] (JD R (.v (Ob.pt R.p)) a (k:Int) l.length l 16 sT (bT q)) ?_;refine Ob.ED (E:=(qd gl w0 M0 F0).pinned 10 R.p) 10 R.p 8 aw ab ?_;refine Ob.fR (JD R (.ptr 10 0) a (k:Int) l.length l 16 sT (bT q)) ?_;refine Ob.gcd fV 1 (fun e=>bo .bool 6 e) (fun b=>JD R (.ptr 10 0) a (k:Int) l.length l 16 (sT++[(6,aA b)]) (bT q)) (fun b=>b=mE R.faults q R.me) ?_ (fun b j=>?_);intros;refine @aq (0+R.faults.length<=R.faults.length/\C7 (take R.faults.length R.faults)/\(JD R (Cell.ptr 10 0) a (k:Int) l.length l 16 (sT++[(6,aA (mE (take R.faults.length R.faults) q R.me,()).fst)]) (bT q)).ah (mE (take R.faults.length R.faults) q R.me=mE R.faults q R.me)) _ ?_ ?_;kernel_rfl;rw[aT];exact⟨aa,⟨aa,fun f d=>by have:=m.2 f d;omega⟩,au rfl⟩;subst j;refine Ob.zR (E:=(qd gl w0 M0 F0).pinned 10 R.p) 10 R.p 8 aw ab ?_;refine Ob.fj (E:=(qd gl w0 M0 F0)) (bl:=dE R (bn++[.v (.int .i64 R.fault)])) [8,9,0] [10,11,12,13,14,15] 11 (oy R.p a (k:Int) l.length l 10 (sT++[(6,aA (mE R.faults q R.me))]) (bT q)) ?_;refine Ob.aP (G':=Ob.aj.sep (bA R) G) (by unfold bA;exact Ob.bF _ _ _) ?_;refine Ob.eK fV 1 (oy R.p a (k:Int) l.length l 10 (sT++[(6,aA (mE R.faults q R.me)),(27,aA (mE R.faults q R.me))]) (bT q)) ?_;exact h
theorem ai6 (R:Rt) (m:R.a6.length<1000) (a:List Int) (k:Nat) (l:List Int) (j:l.length<100000) (t:Int) (i:fy t) (G:Ob.aj) {n r:ax} {x:Nat->ax}
  (h:Ob.aN Tryz.prog [] (Ob.GH (qd gl w0 M0 F0) mr.ntmps (oy R.p a (k:Int) (l.length+33) (l++(u8.wrap t::fr.lh (poly.pat R.a6 t))) 10 [] []) (Ob.aj.sep (bA R) G)) n r x) :
  Ob.aN Tryz.prog (TX.drop 3) (Ob.GH (qd gl w0 M0 F0) mr.ntmps (oy R.p a (k:Int) l.length l 10 (sT++[(6,aA true),(27,aA true)]) (bT t)) (Ob.aj.sep (bA R) G)) n r x:=by
 refine Ob.je (ar TX 3) ?_;refine Ob.aP (G':=Ob.aj.obj (dE R (bn++[.v (.int .i64 R.fault)])) R.p G) (by unfold bA;exact (Ob.bF _ _ _).symm) ?_;refine Ob.gR [] (JD R (.v (Ob.pt R.p)) a (k:Int) l.length l 16 sT (bT t)) ?_;refine Ob.ED (E:=(qd gl w0 M0 F0).pinned 10 R.p) 10 R.p 8 aw ab ?_;refine Ob.fR (JD R (.ptr 10 0) a (k:Int) l.length l 16 sT (bT t)) ?_;refine Ob.gcd fV 1 (fun _=>()) (fun _=>JD R (.ptr 10 0) a (k:Int) l.length l 73 (sT++[(7,ao 72 0)]) (bT t++[(72,[.ints .u8 32 (fr.lh (poly.pat R.a6 t))])])) (fun _=>True) ?_ (fun _ _=>?_);intros;refine @aq (poly.Kb (R.a6,t,())/\True/\(JD R (Cell.ptr 10 0) a (k:Int) l.length l 73 (sT++[(7,SV.is (TV.one (Cell.ptr 72 0)))]) (bT t++[(72,[Cell.ints u8 32 (fr.lh (poly.pat R.a6 t))])])).ah True) _ ?_ ?_;kernel_rfl;exact⟨⟨by show R.a6.length<_;omega,i⟩,trivial,au trivial⟩;refine Ob.zR (E:=(qd gl w0 M0 F0).pinned 10 R.p) 10 R.p 8 aw ab ?_;refine Ob.fj (E:=(qd gl w0 M0 F0)) (bl:=dE R (bn++[.v (.int .i64 R.fault)])) [8,9,0,72] [10,11,12,13,14,15] 11 (oy R.p a (k:Int) l.length l 73 (sT++[(7,ao 72 0)]) (bT t++[(72,[.ints .u8 32 (fr.lh (poly.pat R.a6 t))])])) ?_;refine Ob.aP (G':=Ob.aj.sep (bA R) G) (by unfold bA;exact Ob.bF _ _ _) ?_;refine Ob.xh fV 0 [(1,72)] (oy R.p a (k:Int) l.length l 10 (sT++[(7,ao 1 0)]) (bT t++[(1,[.ints .u8 32 (fr.lh (poly.pat R.a6 t))])])) ?_;generalize f:fr.lh (poly.pat R.a6 t)=S at h;have g:S.length=32:=by rw[<- f];exact yI _
 refine Ob.kO fV mixed 1 [(9,42)] (fun e=>cT (.int .u8) 9 e) (fun b=>oy R.p a (k:Int) (l.length+1) b 10 [(7,ao 1 0)] [(1,[.ints .u8 32 S])]) (fun b=>b=l++[u8.wrap t]) (fun _=>False) (fun _ _=>False) ?_ (fun b d=>?_) (fun _ _ _ h _=>h.elim) (fun _ _ _ _ h _=>h.elim);intros;refine @aq (0+1<=1/\l.length<=l.length/\(l.length+1)*1<=140737488355328/\l.length+1<=4611686018427387904/\(oy R.p a (k:Int) (l.length+1) (take l.length l++take 1 [u8.wrap t]) 10 [(7,SV.is (TV.one (Cell.ptr 1 0)))] [(1,[Cell.ints u8 32 S])]).ah (take l.length l++take 1 [u8.wrap t]=l++[u8.wrap t])) _ ?_ ?_;kernel_rfl;refine⟨ae,aI _,aa,aa,au ?_⟩;rw[aT];rfl;subst d;refine Ob.kO fV mixed 1 [(9,26)] (fun e=>cT (.int .u8) 9 e) (fun b=>oy R.p a (k:Int) (l.length+33) b 10 [] []) (fun b=>b=l++(u8.wrap t::S)) (fun _=>False) (fun _ _=>False) ?_ (fun b d=>?_) (fun _ _ _ h _=>h.elim) (fun _ _ _ _ h _=>h.elim);intros;refine @aq (0+32<=32/\l.length+1<=l.length+1/\(l.length+1+32)*1<=140737488355328/\l.length+1+32<=4611686018427387904/\(oy R.p a (k:Int) (l.length+33) (take (l.length+1) (l++[u8.wrap t])++take 32 S) 10 [] []).ah (take (l.length+1) (l++[u8.wrap t])++take 32 S=l++u8.wrap t::S)) _ ?_ ?_;kernel_rfl;refine⟨ae,aI _,aa,aa,au ?_⟩;rw[bW aw,bW aa,cH];rfl;subst d;exact h
theorem WX (R:Rt) (s:R.a6.length<1000) (o:R.faults.length<1000000/\∀ f∈R.faults,f.2.length<1000000) (a:List Int) (l:∀ x∈a,fy x) (u:a.length<1000) (k:Nat) (g:k<a.length) (G:Ob.aj) {r:ax} {x:Nat->ax} :
  Ob.aN Tryz.prog ((aV YM).drop 2) (Ob.GH (qd gl w0 M0 F0) mr.ntmps (oy R.p a (k:Int) (kT R (a.take k)).length (kT R (a.take k)) 10 [] []) (Ob.aj.sep (bA R) G)) (Ob.GH (qd gl w0 M0 F0) mr.ntmps (oy R.p a ((k+1:Nat):Int) (kT R (a.take (k+1))).length (kT R (a.take (k+1))) 10 [] []) (Ob.aj.sep (bA R) G)) r x:=by
 have e:a.take (k+1)=a.take k++[a.getD k 0]:=by rw[cw g,a2,bu g];rfl
 have j:fy (a.getD k 0):=by rw[a2,bu g];exact l _ (dr g)
 rw[e,Pe,Pg];have i:=Im R (a.take k);rw[c5] at i;generalize kT R (a.take k)=L at i;generalize d:(if mE R.faults (a.getD k 0) R.me then u8.wrap (a.getD k 0)::fr.lh (poly.pat R.a6 (a.getD k 0)) else [])=D;refine Ob.dL (E:=(qd gl w0 M0 F0)) (c:=ar (aV YM) 2) (Ob.GH (qd gl w0 M0 F0) mr.ntmps (oy R.p a (k:Int) (L++D).length (L++D) 10 [] []) (Ob.aj.sep (bA R) G)) ab ab ?_ ?_
 ·refine ai5 gl w0 M0 F0 R o a k g L (a.getD k 0) rfl G ?_;cases m:mE R.faults (a.getD k 0) R.me;rw[m] at d;have d:D=[]:=d.symm;subst d;rw[bw];refine Ob.e5 (ar TX 3) ?_;refine Ob.fR (oy R.p a (k:Int) L.length L 10 [] []) ?_;exact Ob.cr fun _ _ h=>h
  ·rw[m] at d;have d:D=u8.wrap (a.getD k 0)::fr.lh (poly.pat R.a6 (a.getD k 0)):=d.symm;refine ai6 gl w0 M0 F0 R s a k L aa (a.getD k 0) j G ?_;have n:(L++D).length=L.length+33:=by rw[d,a7,bN,yI]
   rw[n,<- d];exact Ob.cr fun _ _ h=>h
 refine Ob.gcd fV 1 (fun w=>bo iK 17 w) (fun q=>oy R.p a q (L++D).length (L++D) 10 [] []) (fun q=>q=((k+1:Nat):Int)) ?_ (fun q t=>?_);intros;refine @aq ((oy R.p a (i64.wrap ((k:Int)+1)) (L++D).length (L++D) 10 [] []).ah (i64.wrap ((k:Int)+1)=(↑(k+1):Int))) _ ?_ ?_;kernel_rfl;exact au (aS aa);subst t;exact Ob.cr fun _ _ h=>h
end
def xz (z:c7):SayIn:=⟨z.R,z.H,3,kT z.R z.R.takers⟩
def gr (z:c7) (q:Nat × Nat × Nat):List (Int × Hbm.aG):=if z.R.me∈z.R.dealers then dv (hI (xz z) q) else []
def r5 (z:c7) (q:Nat × Nat × Nat):c7:=if z.R.me∈z.R.dealers then ⟨pS (xz z) q,qC (xz z) q⟩ else z
def aiV (p:Nat):St:=av mr.ntmps 9 [(1,ao 8 0)] [(8,[.v (Ob.pt p)])]
def ai2 (R:Rt):St:=av mr.ntmps 14 [(0,ao 8 0)] (hU R (bn++[.v (.int .i64 R.fault)]))
def ai3 (R:Rt):St:=av mr.ntmps 15 [(1,ao 14 0)] ((14,[.ptr 8 0])::hU R (bn++[.v (.int .i64 R.fault)]))
def ai4 (p:Nat):St:=av mr.ntmps 15 [(1,ao 14 0)] [(14,[.v (Ob.pt p)])]
def aiW (p:Nat):St:=av mr.ntmps 9 [(1,ao 8 0),(8,aB p)] [(8,[.v (Ob.pt p)])]
def aey (p:Nat) (q:Bool):St:=av mr.ntmps 9 [(1,ao 8 0),(10,aA q)] [(8,[.v (Ob.pt p)])]
def aiX (p:Nat):St:=av mr.ntmps 9 [(1,ao 8 0),(3,fM)] [(8,[.v (Ob.pt p)])]
def aez (R:Rt) (c:Cell):St:=av mr.ntmps 15 [(1,ao 8 0),(3,fM)] ((8,[c])::CP R (bn++[.v (.int .i64 R.fault)]))
def aiY (R:Rt) (c:Cell):St:=av mr.ntmps 15 [(1,ao 8 0),(3,fM),(15,ag (.ro iK R.takers)),(16,sI .i64 R.takers.length),(17,sI .i64 0)] ((8,[c])::CP R (bn++[.v (.int .i64 R.fault)]))
def aiZ (p:Nat) (a:List Int):St:=av mr.ntmps 9 [(1,ao 8 0),(3,fM),(15,ag (.ro iK a)),(16,sI .i64 a.length),(17,sI .i64 0)] [(8,[.v (Ob.pt p)])]
def ai0 (p:Nat) (l:List Int):St:=av mr.ntmps 9 [(1,ao 8 0),(3,lP l)] [(8,[.v (Ob.pt p)])]
def ai1 (p:Nat) (l:List Int):St:=av mr.ntmps 8 [(44,aB p),(45,lP l)] []
theorem WD (gl:Nat->Option (Sigma aH)):Ob.ez Tryz.prog gl 38 (fun z:c7=>[aB z.R.p]) c7.ok c7.cv (fun z (q:Nat × Nat × Nat)=>ag (.ro bH (gr z q))) (fun z q=>(r5 z q).cv) (fun _ _=>True):=by
 refine Ob.c9 (sp:=WW) I7 ab (fun z=>by show 1<=mr.ntmps;exact Odt ab) (fun z _=>rfl) ?_;rintro⟨R,H⟩ ⟨c,n,a⟩ w0 M0 F0;have a:eF c R H:=a;have g:=a.tk;have f:=a.a6;have j:=a.faults;show Ob.aN _ _ (Ob.GH _ _ _ (Ob.aj.sep (bA R) (bz H))) _ _ _;refine Ob.aP (G':=Ob.aj.obj (dE R (bn++[.v (.int .i64 R.fault)])) R.p (bz H)) (by unfold bA;exact (Ob.bF _ _ _).symm) ?_;refine Ob.adk 8 ab ?_;refine Ob.gR [0] (ai2 R) ?_;refine Ob.eK fV 1 (ai3 R) ?_;refine Ob.zR (E:=(qd gl w0 M0 F0).pinned 8 R.p) 8 R.p 14 aw ab ?_;refine Ob.fj (E:=(qd gl w0 M0 F0)) (bl:=dE R (bn++[.v (.int .i64 R.fault)])) [14] [8,9,10,11,12,13] 9 (ai4 R.p) ?_;refine Ob.aP (G':=Ob.aj.sep (bA R) (bz H)) (by unfold bA;exact Ob.bF _ _ _) ?_;refine Ob.xh fV 0 [(8,14)] (aiV R.p) ?_;refine Ob.ep 1 (bC (ar (al mr) 1)) ?_;refine Ob.dT fV 1 (aiW R.p) ?_;refine Ob.kj (E:=(qd gl w0 M0 F0)) (Ob.b5 (fun _=>bz H) (Ju gl)) R a.dl zB (fun _ _=>?_);refine Ob.gA fV 3 (fun m=>bo .bool 10 m) (fun q=>aey R.p q) (fun q=>q=!decide (R.me∈R.dealers)) ?_ (fun q e=>Ob.ei ?_);intros;refine @aq ((aey R.p !decide (R.me∈R.dealers)).ah ((!decide (R.me∈R.dealers))=!decide (R.me∈R.dealers))) _ ?_ ?_;kernel_rfl;exact au rfl;cases q
 ·have d:R.me∈R.dealers:=by
   have:decide (R.me∈R.dealers)=true:=by cases h:decide (R.me∈R.dealers) with|true=>rfl|false=>rw[h] at e;cases e
   exact Odt this
  refine Ob.e5 (ar (al mr) 2) ?_;refine Ob.aP (G':=Ob.aj.obj (dE R (bn++[.v (.int .i64 R.fault)])) R.p (bz H)) (by unfold bA;exact (Ob.bF _ _ _).symm) ?_;refine Ob.eK fV 1 (aiX R.p) ?_;refine Ob.gR [] (aez R (.v (Ob.pt R.p))) ?_;refine Ob.ED (E:=(qd gl w0 M0 F0).pinned 9 R.p) 9 R.p 8 aw ab ?_;refine Ob.fR (aez R (.ptr 9 0)) ?_;refine Ob.eK fV 1 (aiY R (.ptr 9 0)) ?_;refine Ob.zR (E:=(qd gl w0 M0 F0).pinned 9 R.p) 9 R.p 8 aw ab ?_;refine Ob.fj (E:=(qd gl w0 M0 F0)) (bl:=dE R (bn++[.v (.int .i64 R.fault)])) [8] [9,10,11,12,13,14] 10 (aiZ R.p R.takers) ?_;refine Ob.aP (G':=Ob.aj.sep (bA R) (bz H)) (by unfold bA;exact Ob.bF _ _ _) ?_;refine Ob.qY 3 1 (.ints .u8 0 []) ab ?_;refine Ob.fR (oy R.p R.takers 0 0 [] 10 [] []) ?_;refine Ob.vf fV mixed (c:=YM) (fun k=>oy R.p R.takers (k:Int) (kT R (R.takers.take k)).length (kT R (R.takers.take k)) 10 [] []) (fun k=>Ob.aj.sep (bA R) (bz H)) R.takers.length ab ab (fun k i w ids M num=>?_) (fun k i=>?_) ?_;refine aq (X:=((decide ((k:Int)<(R.takers.length:Int))=true->(oy R.p R.takers (k:Int) (kT R (take k R.takers)).length (kT R (take k R.takers)) 10 [] []).ah (k<R.takers.length))/\(decide ((k:Int)<(R.takers.length:Int))=false->(oy R.p R.takers (k:Int) (kT R (take k R.takers)).length (kT R (take k R.takers)) 10 [] []).ah (k=R.takers.length)))) ab ?_;exact⟨fun h=>au (by have:=dec_lt h;omega),fun h=>au (by have:=bX h;omega)⟩;exact WX gl w0 M0 F0 R f ⟨aa,a.whom⟩ R.takers a.tI g k i (bz H);rw[aT];have l:=Im R R.takers;refine Ob.sU 3 9 (kT R R.takers).length 1 .u8 (kT R R.takers) ab ab rfl ?_;refine Ob.fR (ai0 R.p (kT R R.takers)) ?_;refine Ob.ep 13 (bC (ar (al mr) 6)) ?_;refine Ob.dT fV 2 (ai1 R.p (kT R R.takers)) ?_;refine Ob.kj (E:=(qd gl w0 M0 F0)) (LU gl) ⟨R,H,3,kT R R.takers⟩ ⟨a.hub,Mm R _,(by omega:(kT R R.takers).length<1048576),a.hp,a.I2 aa⟩ qT (fun q _=>?_);refine Ob.dT fV 4 (av mr.ntmps 8 [(2,ag (.ro bH (dv (hI ⟨R,H,3,kT R R.takers⟩ q))))] []) (Ob.ei ?_);refine Ob.gT fV mixed _ ?_ ⟨q,trivial,Ob.br _,?_⟩;intros;refine @aq (SV.is (TV.one (Cell.ro bH (dv (hI { R:=R,H:=H,tp:=3,b:=kT R R.takers } q))))=SV.is (TV.one (Cell.ro bH (gr { R:=R,H:=H } q)))) _ ?_ ?_;kernel_rfl;show _=SV.is (.one (.ro bH (gr ⟨R,H⟩ q)));unfold gr;rw[ak d];rfl;show _=(r5 ⟨R,H⟩ q).cv;unfold r5;rw[ak d];rfl
 ·have d:¬ R.me∈R.dealers:=by
   have:decide (R.me∈R.dealers)=false:=by cases h:decide (R.me∈R.dealers) with|false=>rfl|true=>rw[h] at e;cases e
   exact Odf this
  refine Ob.je (ar (al mr) 2) ?_;refine Ob.iu fV mixed fM ?_ ⟨(0,0,0),trivial,?_,?_⟩;intros;refine @aq (SV.is (TV.one (Cell.v (Value.slice none 0 0)))=fM) _ ?_ ?_;kernel_rfl;rfl;show cL _ (ag (.ro bH (gr ⟨R,H⟩ (0,0,0))));unfold gr;rw[ai d];exact Iq bH;show _=(r5 ⟨R,H⟩ (0,0,0)).cv;unfold r5;rw[ai d]
set_option maxHeartbeats 4000000
def dS (R:Rt) (a:List Int):List Int:=a.filter fun d=>(cj R d).2
def ed (R:Rt) (a:List Int):List Fr:=(dS R a).map fun d=>(cj R d).1
def gC (R:Rt) (a:List Int):Fr × Int:=law22.uy R.dealers R.old a (dS R a) (ed R a)
theorem MU (R:Rt) (a b:List Int):dS R (a++b)=dS R a++dS R b:=by rw[dS,qH];rfl
theorem XE (R:Rt) (a b:List Int):ed R (a++b)=ed R a++ed R b:=by rw[ed,MU,di];rfl
theorem MV (R:Rt) (a:List Int):(dS R a).length<=a.length:=oU _ _
theorem XF (R:Rt) (a:List Int):(ed R a).length=(dS R a).length:=by rw[ed,bZ]
theorem xf:enters Tryz.prog 72 Tryz.f72:=ek
abbrev Eh:Func:=Tryz.f72
abbrev Xz:=aU [law22.abw]
theorem mR:aJ Tryz.prog Xz:=aM (aR law22.V5) bD
abbrev MS:Code:=ar (al Eh) 4
abbrev toB:List Code:=cV (ar (aV MS) 2)
def Za (p:Nat) (a:List Int):St:=av Eh.ntmps 8 [(0,aB p),(1,ag (.ro iK a)),(4,ao 0 0),(6,fM),(7,fM),(12,ag (.ro iK a)),(13,sI .i64 a.length),(14,sI .i64 0)] [(0,[.row .fr 1 [(0:Fr)]])]
def lT (p:Nat) (a:List Int) (k:Int) (n m:Nat) (l:List Int) (s:List Fr) (e:Nat) (d:List (Nat × SV)) (b:List (Nat × List Cell)):St:=av Eh.ntmps e ([(0,aB p),(1,ag (.ro iK a)),(4,ao 0 0),(6,ag (.sl 8 0 0 n 1)),(7,ag (.sl 9 0 0 m 4)),(12,ag (.ro iK a)),(13,sI .i64 a.length),(14,sI .i64 k)]++d) ((0,[.row .fr 1 [(0:Fr)]])::(8,[.ints .i64 n l])::(9,[.row .fr m s])::b)
def toO (R:Rt) (a:List Int) (n m:Nat) (l:List Int) (s:List Fr):St:=av Eh.ntmps 16 [(0,ao 10 0),(1,ag (.ro iK a)),(4,ao 0 0),(6,ag (.sl 8 0 0 n 1)),(7,ag (.sl 9 0 0 m 4))] ((0,[.row .fr 1 [(0:Fr)]])::(8,[.ints .i64 n l])::(9,[.row .fr m s])::Rx R (bn++[.v (.int .i64 R.fault)]))
def toP (R:Rt) (x:List Fr) (e:Int):St:=av Eh.ntmps 16 [(4,ao 0 0),(5,sI .i64 e)] ((0,[.row .fr 1 x])::Rx R (bn++[.v (.int .i64 R.fault)]))
def toN (x:Fr) (e:Int):St:=av Eh.ntmps 8 [(4,ao 0 0),(5,sI .i64 e)] [(0,[.row .fr 1 [x]])]
abbrev toV (y:Fr × Int):SV:=.tup [.agg [.row .fr 1 [y.1]],.one (.v (.int .i64 y.2))]
abbrev YT (R:Rt):Prop:=R.deals.length<1000000/\R.a5.length=R.shares.length/\R.shares.length<1000000/\R.proofs.length<1000000000000/\fy R.me/\∀ d∈R.deals,d.2.length<1000000
section
variable (gl:Nat->Option (Sigma aH)) (w0:World) (M0:Mem) (F0:Nat->Prop)
abbrev PK:Ob.cf:=Ob.lj Tryz.prog Xz gl w0 M0 F0
theorem XA (R:Rt) (z:YT R) (d:List Int) (C:d.length<100000) (k:Nat) (o:k<d.length) (G:Ob.aj) {r:ax} {x:Nat->ax} :
  Ob.aN Tryz.prog ((aV MS).drop 2) (Ob.GH (PK gl w0 M0 F0) Eh.ntmps (lT R.p d (k:Int) (dS R (d.take k)).length (ed R (d.take k)).length (dS R (d.take k)) (ed R (d.take k)) 10 [] []) (Ob.aj.sep (bA R) G)) (Ob.GH (PK gl w0 M0 F0) Eh.ntmps (lT R.p d ((k+1:Nat):Int) (dS R (d.take (k+1))).length (ed R (d.take (k+1))).length (dS R (d.take (k+1))) (ed R (d.take (k+1))) 10 [] []) (Ob.aj.sep (bA R) G)) r x:=by
 have e:d.take (k+1)=d.take k++[d.getD k 0]:=by rw[cw o,a2,bu o];rfl
 rw[e,MU,XE];have i:=MV R (d.take k);have j:=XF R (d.take k);rw[c5] at i;generalize dS R (d.take k)=L at i j;generalize ed R (d.take k)=S at j;have u:∀ t,dS R [t]=if (cj R t).2 then [t] else []:=fun t=>by rw[dS,tP];rfl
 have y:∀ t,ed R [t]=if (cj R t).2 then [(cj R t).1] else []:=fun t=>by rw[ed,u];split<;>rfl
 rw[u,y];refine Ob.dL (E:=(PK gl w0 M0 F0)) (c:=ar (aV MS) 2) (Ob.GH (PK gl w0 M0 F0) Eh.ntmps (lT R.p d (k:Int) (L++(if (cj R (d.getD k 0)).2 then [d.getD k 0] else [])).length (S++(if (cj R (d.getD k 0)).2 then [(cj R (d.getD k 0)).1] else [])).length (L++(if (cj R (d.getD k 0)).2 then [d.getD k 0] else [])) (S++(if (cj R (d.getD k 0)).2 then [(cj R (d.getD k 0)).1] else [])) 10 [] []) (Ob.aj.sep (bA R) G)) ab ab ?_ ?_;refine Ob.gcd mR 1 (fun f=>bo iK 9 f) (fun q=>lT R.p d (k:Int) L.length S.length L S 10 [(9,sI .i64 q)] []) (fun q=>q=d.getD k 0) ?_ (fun q s=>?_);intros;refine @aq ((0<=(k:Int)/\(k:Int)<(d.length:Int))/\(k:Int).toNat<d.length/\(lT R.p d (k:Int) L.length S.length L S 10 [(9,sI IntKind.i64 (d.getD (k:Int).toNat 0))] []).ah (d.getD (k:Int).toNat 0=d.getD k 0)) _ ?_ ?_;kernel_rfl;rw[aF];exact⟨⟨aa,aa⟩,o,au rfl⟩;rw[<- s];refine Ob.ep 6 (bC (ar toB 1)) ?_;refine Ob.dT mR 2 (lT R.p d (k:Int) L.length S.length L S 10 [(9,sI .i64 q),(19,aB R.p),(20,sI .i64 q)] []) ?_;refine Ob.kj (E:=(PK gl w0 M0 F0)) (Ob.b5 (fun _=>G) (LV gl)) (R,q) z BV (fun _ _=>?_);refine Ob.dT mR 9 (lT R.p d (k:Int) L.length S.length L S 59 [(9,sI .i64 q),(10,ao 58 0),(11,aA (cj R q).2)] [(58,[.row .fr 1 [(cj R q).1]])]) (Ob.ei ?_);refine Ob.kO mR mixed 1 [(1,58)] (fun f=>bo .bool 24 f) (fun b=>lT R.p d (k:Int) L.length S.length L S 10 [(9,sI .i64 q),(10,ao 1 0),(24,aA b)] [(1,[.row .fr 1 [(cj R q).1]])]) (fun b=>b=(cj R q).2) (fun _=>False) (fun _ _=>False) ?_ (fun b A=>?_) (fun _ _ _ h _=>h.elim) (fun _ _ _ _ h _=>h.elim);intros;refine @aq ((lT R.p d (k:Int) L.length S.length L S 10 [(9,sI IntKind.i64 q),(10,SV.is (TV.one (Cell.ptr 1 0))),(24,aA (cj R q).snd)] [(1,[Cell.row Kd.fr 1 [(cj R q).fst]])]).ah ((cj R q).snd=(cj R q).snd)) _ ?_ ?_;kernel_rfl;exact au rfl;rw[<- A];cases b;refine Ob.e5 (ar toB 3) ?_;refine Ob.fR (lT R.p d (k:Int) L.length S.length L S 10 [] []) ?_;refine Ob.cr fun a w n=>?_;show Ob.GH _ _ (lT R.p d (k:Int) (L++[]).length (S++[]).length (L++[]) (S++[]) 10 [] []) _ _ _;rw[bw,bw];exact n;refine Ob.je (ar toB 3) ?_;refine Ob.kO mR mixed 1 [(8,34)] (fun f=>cT iK 8 f) (fun b=>lT R.p d (k:Int) (L.length+1) S.length b S 10 [(9,sI .i64 q),(10,ao 1 0)] [(1,[.row .fr 1 [(cj R q).1]])]) (fun b=>b=L++[q]) (fun _=>False) (fun _ _=>False) ?_ (fun b g=>?_) (fun _ _ _ h _=>h.elim) (fun _ _ _ _ h _=>h.elim);intros;refine @aq (0+1<=1/\L.length<=L.length/\(L.length+1)*8<=140737488355328/\L.length+1<=4611686018427387904/\(lT R.p d (k:Int) (L.length+1) S.length (take L.length L++take 1 [q]) S 10 [(9,sI IntKind.i64 q),(10,SV.is (TV.one (Cell.ptr 1 0)))] [(1,[Cell.row Kd.fr 1 [(cj R q).fst]])]).ah (take L.length L++take 1 [q]=L++[q])) _ ?_ ?_;kernel_rfl;refine⟨ae,aI _,aa,aa,au ?_⟩;rw[aT];rfl;subst g;refine Ob.kO mR mixed 1 [(9,34)] (fun f=>cT .fr 9 f) (fun b=>lT R.p d (k:Int) (L.length+1) (S.length+1) (L++[q]) b 10 [] []) (fun b=>b=S++[(cj R q).1]) (fun _=>False) (fun _ _=>False) ?_ (fun b g=>?_) (fun _ _ _ h _=>h.elim) (fun _ _ _ _ h _=>h.elim);intros;refine @aq (0+1<=1/\S.length<=S.length/\(S.length+1)*32<=140737488355328/\S.length+1<=4611686018427387904/\(lT R.p d (k:Int) (L.length+1) (S.length+1) (L++[q]) (take S.length S++take 1 [(cj R q).fst]) 10 [] []).ah (take S.length S++take 1 [(cj R q).fst]=S++[(cj R q).fst])) _ ?_ ?_;kernel_rfl;refine⟨ae,aI _,aa,aa,au ?_⟩;rw[aT];rfl;subst g;refine Ob.cr fun a w n=>?_;show Ob.GH _ _ (lT R.p d (k:Int) (L++[q]).length (S++[(cj R q).1]).length (L++[q]) (S++[(cj R q).1]) 10 [] []) _ _ _;rw[a7,a7];exact n;generalize (L++(if (cj R (d.getD k 0)).2 then [d.getD k 0] else []))=l;generalize (S++(if (cj R (d.getD k 0)).2 then [(cj R (d.getD k 0)).1] else []))=m;refine Ob.gcd mR 1 (fun f=>bo iK 14 f) (fun q=>lT R.p d q l.length m.length l m 10 [] []) (fun q=>q=((k+1:Nat):Int)) ?_ (fun q s=>?_);intros;refine @aq ((lT R.p d (IntKind.i64.wrap ((k:Int)+1)) l.length m.length l m 10 [] []).ah (IntKind.i64.wrap ((k:Int)+1)=(↑(k+1):Int))) _ ?_ ?_;kernel_rfl;exact au (aS aa);subst s;exact Ob.cr fun _ _ h=>h
end
theorem WE (gl:Nat->Option (Sigma aH)):Ob.ez Tryz.prog gl 72 (fun z:Rt × List Int=>[aB z.1.p,ag (.ro iK z.2)]) (fun z=>YT z.1/\z.2.length<100000/\z.1.old.length<1000) (fun z=>bA z.1) (fun z (_:Unit)=>toV (gC z.1 z.2)) (fun z _=>bA z.1) (fun _ _=>True):=by refine Ob.c9 (sp:=Xz) xf ab (fun z=>by show 2<=Eh.ntmps;exact Odt ab) (fun z _=>rfl) ?_;rintro⟨R,a⟩ ⟨e,b,d⟩ w0 M0 F0;have e:YT R:=e;have b:a.length<100000:=b;have d:R.old.length<1000:=d;show Ob.aN _ _ (Ob.GH _ _ _ (bA R)) _ _ _;refine Ob.eK mR 4 (Za R.p a) ?_;refine Ob.qY 6 1 (.ints .i64 0 []) ab ?_;refine Ob.qY 7 4 (.row .fr 0 []) ab ?_;refine Ob.aP (G':=Ob.aj.sep (bA R) Ob.aj.none) (by unfold bA;exact Ob.bF _ _ _) ?_;refine Ob.fR (lT R.p a 0 0 0 [] [] 10 [] []) ?_;refine Ob.vf mR mixed (c:=MS) (fun k=>lT R.p a (k:Int) (dS R (a.take k)).length (ed R (a.take k)).length (dS R (a.take k)) (ed R (a.take k)) 10 [] []) (fun k=>Ob.aj.sep (bA R) Ob.aj.none) a.length ab ab (fun k f w ids M num=>?_) (fun k f=>?_) ?_;refine aq (X:=((decide ((k:Int)<(a.length:Int))=true->(lT R.p a (k:Int) (dS R (take k a)).length (ed R (take k a)).length (dS R (take k a)) (ed R (take k a)) 10 [] []).ah (k<a.length))/\(decide ((k:Int)<(a.length:Int))=false->(lT R.p a (k:Int) (dS R (take k a)).length (ed R (take k a)).length (dS R (take k a)) (ed R (take k a)) 10 [] []).ah (k=a.length)))) ab ?_;exact⟨fun h=>au (by have:=dec_lt h;omega),fun h=>au (by have:=bX h;omega)⟩;exact XA gl w0 M0 F0 R e a b k f Ob.aj.none;rw[aT];have j:=MV R a;refine Ob.aP (G':=Ob.aj.obj (dE R (bn++[.v (.int .i64 R.fault)])) R.p Ob.aj.none) (by unfold bA;exact (Ob.bF _ _ _).symm) ?_;refine Ob.gR [0] (toO R a (dS R a).length (ed R a).length (dS R a) (ed R a)) ?_;refine Ob.gcd mR 1 (fun g=>(cT .fr 0 g,bo iK 5 g)) (fun q=>toP R q.1 q.2) (fun q=>q=([(gC R a).1],(gC R a).2)) ?_ (fun q i=>?_);intros;refine @aq (0+(dS R a).length<=(dS R a).length/\0+(ed R a).length<=(ed R a).length/\Aj ((R.dealers,R.takers,R.need,R.old),a,take (dS R a).length (dS R a),take (ed R a).length (ed R a),())/\(toP R ([((law22.uy R.dealers R.old a (take (dS R a).length (dS R a)) (take (ed R a).length (ed R a))).fst,(law22.uy R.dealers R.old a (take (dS R a).length (dS R a)) (take (ed R a).length (ed R a))).snd,()).fst],(law22.uy R.dealers R.old a (take (dS R a).length (dS R a)) (take (ed R a).length (ed R a))).snd).fst ([((law22.uy R.dealers R.old a (take (dS R a).length (dS R a)) (take (ed R a).length (ed R a))).fst,(law22.uy R.dealers R.old a (take (dS R a).length (dS R a)) (take (ed R a).length (ed R a))).snd,()).fst],(law22.uy R.dealers R.old a (take (dS R a).length (dS R a)) (take (ed R a).length (ed R a))).snd).snd).ah (([(law22.uy R.dealers R.old a (take (dS R a).length (dS R a)) (take (ed R a).length (ed R a))).fst],(law22.uy R.dealers R.old a (take (dS R a).length (dS R a)) (take (ed R a).length (ed R a))).snd)=([(gC R a).fst],(gC R a).snd))) _ ?_ ?_;kernel_rfl;refine⟨aa,aa,⟨by show R.old.length<_;omega,by show a.length<_;omega,by show (take _ _).length<_;rw[aT];omega⟩,au ?_⟩;rw[aT,aT];rfl;subst i;refine Ob.fj (E:=(PK gl w0 M0 F0)) (bl:=dE R (bn++[.v (.int .i64 R.fault)])) [0] [10,11,12,13,14,15] 11 (toN (gC R a).1 (gC R a).2) ?_;exact Ob.sn mR (toV (gC R a)) ⟨(),trivial,Ob.br _,rfl⟩
end rite
namespace sha
open Go.Eng Go.RowKit Cr
open Go.IntKind(i64)
open Go.IntKind(i64 u8)
open Go.IntKind(i64 u64 u32)
abbrev uK:Kd:=.int .u32
abbrev bK:Kd:=.int .u8
abbrev lb:Kd:=.pair (.arr 8 uK) (.pair (.arr 64 bK) (.int .i64))
def eh:List Int:=[1779033703,3144134277,1013904242,2773480762,1359893119,2600822924,528734635,1541459225]
def jz:List Int:=[1116352408,1899447441,3049323471,3921009573,961987163,1508970993,2453635748,2870763221,3624381080,310598401,607225278,1426881987,1925078388,2162078206,2614888103,3248222580,3835390401,4022224774,264347078,604807628,770255983,1249150122,1555081692,1996064986,2554220882,2821834349,2952996808,3210313671,3336571891,3584528711,113926993,338241895,666307205,773529912,1294757372,1396182291,1695183700,1986661051,2177026350,2456956037,2730485921,2820302411,3259730800,3345764771,3516065817,3600352804,4094571909,275423344,430227734,506948616,659060556,883997877,958139571,1322822218,1537002063,1747873779,1955562222,2024104815,2227730452,2361852424,2428436474,2756734187,3204031479,3329325298]
def dZ:fZ:=fun g=>if g=0 then some ⟨.arr 8 uK,eh⟩ else if g=1 then some ⟨.arr 64 uK,jz⟩ else none
theorem ZW:enters Tryz.prog 180 Tryz.f180:=ek
def ajg (x k:Int):Int:=aD .or .u32 (u32.wrap (x*2^min (aD .and .u64 (u64.wrap k) 31).toNat u32.bits)) (Int.fdiv x (2^min (u64.wrap (32-aD .and .u64 (u64.wrap k) 31)).toNat u32.bits))
def gX (x k:Int):Int:=eR (ajg x k)
theorem P3 (x:Int):0<=u64.wrap x:=by simp only[IntKind.wrap,IntKind.signed,IntKind.bits];simp;omega
theorem acZ:aO Tryz.prog 180 [uK,.int .i64] [.val uK] bB (fun _=>True) (fun (x,k,_)=>(gX x k,())):=by
 refine bg (sp:=aU []) bD mixed ZW ae ae ?_;rintro w b ⟨x,k,⟨⟩⟩;revert x k;intro (x:Int) (k:Int) _ _;refine aq (X:=((0:Int)<=aD BinOp.and u64 (u64.wrap k) (31:Int)/\(0:Int)<=u64.wrap ((32:Int)-aD BinOp.and u64 (u64.wrap k) (31:Int))/\(aD BinOp.or u32 (u32.wrap (x*(2:Int)^min (aD BinOp.and u64 (u64.wrap k) (31:Int)).toNat u32.bits)) (x.fdiv ((2:Int)^min (u64.wrap ((32:Int)-aD BinOp.and u64 (u64.wrap k) (31:Int))).toNat u32.bits)),())=(gX x k,()))) ab ?_;refine⟨?_,?_,by show _=(gX x k,());rw[gX,bm];rfl⟩
 ·have h:(0:Int)<=aD .and .u64 (u64.wrap k) 31:=by
   show (0:Int)<=u64.wrap _;exact P3 _
  exact h
 exact P3 _
def Y6:Nat × Eng.Spec:=(180,aK [uK,.int .i64] [.val uK] (fun _=>True) (fun (x,k,_)=>(gX x k,())))
theorem VK:enters Tryz.prog 177 Tryz.f177:=ek
abbrev TK:List Code:=al Tryz.f177
def AZ (d b p:List Int) (e:Int) (g:Int × List Int):St:=av Tryz.f177.ntmps 25 [(0,ao 0 0),(3,ao 1 0),(4,ao 9 0),(23,sI .i64 g.1)] [(9,[.ints .u32 64 g.2]),(1,[.ints .u8 64 p]),(0,[.ints .u32 8 d,.ints .u8 64 b,.v (.int .i64 e)])]
def MR (d b p:List Int) (e:Int) (i:Nat) (g:Int × List Int):St:=av Tryz.f177.ntmps 25 [(0,ao 0 0),(3,ao 1 0),(4,ao 9 0),(5,sI .i64 i),(23,sI .i64 i),(26,sI .i64 g.1)] [(9,[.ints .u32 64 g.2]),(1,[.ints .u8 64 p]),(0,[.ints .u32 8 d,.ints .u8 64 b,.v (.int .i64 e)])]
def wB (p:List Int) (i j:Nat) (w:List Int):List Int:=w.set i (aD .or .u32 (u32.wrap (w.getD i 0*2^min (8:Nat) u32.bits)) (u32.wrap (p.getD (4*i+j) 0)))
def Em (p:List Int) (i:Nat) (w:List Int):Nat->List Int
 | 0=>w
 | j+1=>wB p i j (Em p i w j)
def El (p:List Int):Nat->List Int
 | 0=>replicate 64 0
 | i+1=>Em p i (El p i) 4
theorem PV (p:List Int) (i:Nat) (w:List Int):∀ j,(Em p i w j).length=w.length
 | 0=>rfl
 | j+1=>by show (wB p i j _).length=_;rw[wB,hZ,PV p i w j]
theorem PU (p:List Int):∀ i,(El p i).length=64
 | 0=>oT
 | i+1=>by show (Em p i (El p i) 4).length=_;rw[PV,PU p i]
def Hf (d b _p:List Int) (e:Int) (g:Int × List Int):St:=av Tryz.f177.ntmps 25 [(0,ao 0 0),(4,ao 9 0),(45,sI .i64 g.1)] [(9,[.ints .u32 64 g.2]),(0,[.ints .u32 8 d,.ints .u8 64 b,.v (.int .i64 e)])]
def PD (d b _p:List Int) (e:Int) (w:List Int) (g:Int × List Int):St:=av Tryz.f177.ntmps 81 [(0,ao 0 0),(4,ao 9 0),(12,ao 57 0),(92,sI .i64 g.1)] [(57,[.ints .u32 8 g.2]),(9,[.ints .u32 64 w]),(0,[.ints .u32 8 d,.ints .u8 64 b,.v (.int .i64 e)])]
def sg0 (a:Int):Int:=aD .xor .u32 (aD .xor .u32 (gX a (-7)) (gX a (-18))) (a.fdiv (2^min (3:Nat) u32.bits))
def sg1 (a:Int):Int:=aD .xor .u32 (aD .xor .u32 (gX a (-17)) (gX a (-19))) (a.fdiv (2^min (10:Nat) u32.bits))
def wC (w:List Int) (i:Nat):List Int:=w.set (i+16) (u32.wrap (u32.wrap (u32.wrap (w.getD i 0+sg0 (w.getD (i+1) 0))+w.getD (i+9) 0)+sg1 (w.getD (i+14) 0)))
def Hh (w:List Int):Nat->List Int
 | 0=>w
 | i+1=>wC (Hh w i) i
theorem PW (w:List Int):∀ i,(Hh w i).length=w.length
 | 0=>rfl
 | i+1=>by show (wC _ i).length=_;rw[wC,hZ,PW w i]
def PF (b:List Int) (d:Int) (_w v:List Int) (g:Int × List Int):St:=av Tryz.f177.ntmps 81 [(0,ao 0 0),(12,ao 57 0),(172,sI .i64 g.1)] [(57,[.ints .u32 8 v]),(0,[.ints .u32 8 g.2,.ints .u8 64 b,.v (.int .i64 d)])]
theorem eight:∀ {v:List Int},v.length=8->∃ a b c d e f g h,v=[a,b,c,d,e,f,g,h]
 | [a,b,c,d,e,f,g,h],_=>⟨a,b,c,d,e,f,g,h,rfl⟩
def rT (w:List Int) (e f g h:Int) (i:Nat):Int:=u32.wrap (u32.wrap (h+aD .xor .u32 (aD .xor .u32 (gX e (-6)) (gX e (-11))) (gX e (-25)))+u32.wrap (u32.wrap (aD .xor .u32 (aD .and .u32 e f) (aD .and .u32 (aD .xor .u32 (if u32.signed=true then (-1:Int) else u32.max) e) g)+jz.getD i 0)+w.getD i 0))
def rU (a b c:Int):Int:=u32.wrap (aD .xor .u32 (aD .xor .u32 (gX a (-2)) (gX a (-13))) (gX a (-22))+aD .xor .u32 (aD .xor .u32 (aD .and .u32 a b) (aD .and .u32 a c)) (aD .and .u32 b c))
def vC (w:List Int):List Int->Nat->List Int
 | [a,b,c,d,e,f,g,h],i=>[u32.wrap (rT w e f g h i+rU a b c),a,b,c,u32.wrap (d+rT w e f g h i),e,f,g]
 | v,_=>v
def CW (w v:List Int):Nat->List Int
 | 0=>v
 | i+1=>vC w (CW w v i) i
theorem PT (w:List Int) {v:List Int} (j:v.length=8):∀ i,(CW w v i).length=8
 | 0=>j
 | i+1=>by obtain⟨a,b,c,d,e,f,g,h,k⟩:=eight (PT w j i);show (vC w (CW w v i) i).length=8;rw[k];rfl
def FW (v s:List Int):Nat->List Int
 | 0=>s
 | i+1=>(FW v s i).set i (u32.wrap ((FW v s i).getD i 0+v.getD i 0))
def Y8 (b p:List Int):List Int:=FW (CW (Hh (El p 16) 48) b 64) b 8
def fD (b p:List Int):List Int:=eR (Y8 b p)
theorem aai:C3 Tryz.prog 177 lb [.arr 64 bK] [] dZ (fun _=>True) (fun ((n,l,o),p,_)=>((fD n p,l,o),())):=by
 have u:aJ Tryz.prog (aU [Y6]):=aM (aR acZ) bD;refine B5 (sp:=aU [Y6]) VK ae ae ab ?_;rintro w M0 b0 ⟨n,l,o⟩ ⟨p,⟨⟩⟩;revert n l o p;intro (n:List Int) (l:List Int) (o:Int) (p:List Int) hw K _;have V:n.length=8:=hw.1.1;have hp:p.length=64:=K.1.1;show Tr _ _ _ _ _ _ _;refine bh u mixed 3 (AZ n l p o (0,replicate 64 0)) True ?_ (fun _=>?_);refine aq (X:=((AZ n l p o ((0:Int),replicate (64:Nat) (0:Int))).ah True)) ab ?_;exact au trivial;refine pz gO (fun r=>(bo (.int .i64) 23 r,cT uK 9 r)) (AZ n l p o) (fun g=>∃ k:Nat,k<=16/\g.1=(k:Int)/\g.2=El p k) (fun g=>16-g.1.toNat)
  (fun r=>(bo (.int .i64) 23 r,cT uK 9 r)) (AZ n l p o) (fun g=>g.2=El p 16) (0,replicate 64 0) (c:=ar TK 3) ab ab (ay ab ab ?_) ?_ ?_
 exact⟨0,ae,rfl,rfl⟩
 ·rintro⟨i,x⟩ L;revert i x;intro (i:Int) (x:List Int) ⟨k,hk,R,ew⟩;have R:i=(k:Int):=R;have kw:x=El p k:=ew;subst R;refine bh u mixed 2 (AZ n l p o ((k:Int),x)) (k<16) ?_ (fun U=>?_)
  ·refine aq (X:=((decide ((k:Int)<(16:Int))=true->(AZ n l p o ((k:Int),x)).ah (k<(16:Nat)))/\(decide ((k:Int)<(16:Int))=false->(AZ n l p o ((k:Int),x)).ah (x=El p (16:Nat))))) ab ?_;refine⟨fun h=>au (by have:=Odt h;omega),fun h=>au ?_⟩;have:k=16:=by have:=Odf h;omega
   rw[kw,this]
  refine mn (c:=ar (aV (ar (al Tryz.f177) 3)) 2) ab ab ?_;refine bh u mixed 2 (MR n l p o k (0,x)) True ?_ (fun _=>?_);refine aq (X:=((MR n l p o k ((0:Int),x)).ah True)) ab ?_;exact au trivial;refine cl u mixed gO (fun r=>(bo (.int .i64) 26 r,cT uK 9 r)) (MR n l p o k) (fun g=>∃ j:Nat,j<=4/\g.1=(j:Int)/\g.2=Em p k x j) (fun g=>4-g.1.toNat)
   (fun r=>cT uK 9 r) (fun w=>AZ n l p o ((k:Int),w)) (fun w=>w=Em p k x 4) (0,x) (c:=ar (cV (ar (aV (ar (al Tryz.f177) 3)) 2)) 2) ab ab (ay ab ab ?_) ?_ ?_
  exact⟨0,ae,rfl,rfl⟩
  ·rintro⟨j,wj⟩ L;revert j wj;intro (j:Int) (wj:List Int) ⟨t,W,y,E⟩;have y:j=(t:Int):=y;have A:wj=Em p k x t:=E;subst y;refine aq (X:=((decide ((t:Int)<(4:Int))=true->((0:Int)<=(k:Int)/\(k:Int)<(↑(64:Nat):Int))/\(k:Int).toNat<(64:Nat)/\(0:Int)<=(8:Int)/\((0:Int)<=i64.wrap (i64.wrap ((4:Int)*(k:Int))+(t:Int))/\i64.wrap (i64.wrap ((4:Int)*(k:Int))+(t:Int))<(↑(64:Nat):Int))/\(i64.wrap (i64.wrap ((4:Int)*(k:Int))+(t:Int))).toNat<(64:Nat)/\((0:Int)<=(k:Int)/\(k:Int)<(↑(64:Nat):Int))/\(k:Int).toNat<(64:Nat)/\(MR n l p o k (i64.wrap ((t:Int)+(1:Int)),wj.set (k:Int).toNat (aD BinOp.or u32 (u32.wrap (wj.getD (k:Int).toNat (0:Int)*(2:Int)^min (8:Nat) u32.bits)) (u32.wrap (p.getD (i64.wrap (i64.wrap ((4:Int)*(k:Int))+(t:Int))).toNat (0:Int)))))).ah ((∃ j,j<=(4:Nat)/\i64.wrap ((t:Int)+(1:Int))=(j:Int)/\wj.set (k:Int).toNat (aD BinOp.or u32 (u32.wrap (wj.getD (k:Int).toNat (0:Int)*(2:Int)^min (8:Nat) u32.bits)) (u32.wrap (p.getD (i64.wrap (i64.wrap ((4:Int)*(k:Int))+(t:Int))).toNat (0:Int))))=Em p k x j)/\(4:Nat)-(i64.wrap ((t:Int)+(1:Int))).toNat<(4:Nat)-(t:Int).toNat))/\(decide ((t:Int)<(4:Int))=false->(AZ n l p o ((k:Int),wj)).ah (wj=Em p k x (4:Nat))))) ab ?_;refine⟨fun h=>?_,fun h=>au ?_⟩
   ·have C:t<4:=by have:=Odt h;omega
    have H:i64.wrap (i64.wrap ((4:Int)*(k:Int))+(t:Int))=((4*k+t:Nat):Int):=by rw[ba (a:=4*(k:Int)) aa aa,ba aa aa];omega
    rw[H,aS aa,aF,aF];exact⟨⟨aa,aa⟩,aa,ae,⟨aa,aa⟩,aa,⟨aa,aa⟩,aa,au ⟨⟨t+1,C,rfl,by rw[A];rfl⟩,by rw[aF,aF];omega⟩⟩
   ·have:t=4:=by have:=Odf h;omega
    rw[A,this]
  intro (w':List Int) (Z:w'=Em p k x 4);refine kk ?_;refine bJ u mixed _ _ ?_;refine aq (X:=((AZ n l p o (i64.wrap ((k:Int)+(1:Int)),w')).ah ((∃ G,G<=(16:Nat)/\i64.wrap ((k:Int)+(1:Int))=(G:Int)/\w'=El p G)/\(16:Nat)-(i64.wrap ((k:Int)+(1:Int))).toNat<(16:Nat)-(k:Int).toNat))) ab ?_;rw[aS aa];exact au ⟨⟨k+1,U,rfl,by rw[Z,kw];rfl⟩,by rw[aF,aF];omega⟩
 rintro⟨i1,z⟩ F;revert i1 z;intro (i1:Int) (z:List Int) (F:z=El p 16);have I:z.length=64:=by rw[F,PU]
 refine bh u mixed 1 (Hf n l p o (0,z)) True ?_ (fun _=>?_);refine aq (X:=((Hf n l p o ((0:Int),z)).ah True)) ab ?_;exact au trivial;refine cl u mixed gO (fun r=>(bo (.int .i64) 45 r,cT uK 9 r)) (Hf n l p o) (fun g=>∃ j:Nat,j<=48/\g.1=(j:Int)/\g.2=Hh z j) (fun g=>48-g.1.toNat)
  (fun r=>(bo (.int .i64) 45 r,cT uK 9 r)) (Hf n l p o) (fun g=>g.2=Hh z 48) (0,z) (c:=ar (al Tryz.f177) 5) ab ab (ay ab ab ?_) ?_ ?_
 exact⟨0,ae,rfl,rfl⟩
 ·rintro⟨j,wj⟩ L;revert j wj;intro (j:Int) (wj:List Int) ⟨t,W,y,E⟩;have y:j=(t:Int):=y;have A:wj=Hh z t:=E;subst y;refine aq (X:=((decide ((t:Int)<(48:Int))=true->((0:Int)<=i64.wrap ((t:Int)+(1:Int))/\i64.wrap ((t:Int)+(1:Int))<(↑(64:Nat):Int))/\(i64.wrap ((t:Int)+(1:Int))).toNat<(64:Nat)/\((0:Int)<=i64.wrap ((t:Int)+(14:Int))/\i64.wrap ((t:Int)+(14:Int))<(↑(64:Nat):Int))/\(i64.wrap ((t:Int)+(14:Int))).toNat<(64:Nat)/\True/\True/\(0:Int)<=(3:Int)/\True/\True/\(0:Int)<=(10:Int)/\((0:Int)<=(t:Int)/\(t:Int)<(↑(64:Nat):Int))/\(t:Int).toNat<(64:Nat)/\((0:Int)<=i64.wrap ((t:Int)+(9:Int))/\i64.wrap ((t:Int)+(9:Int))<(↑(64:Nat):Int))/\(i64.wrap ((t:Int)+(9:Int))).toNat<(64:Nat)/\((0:Int)<=i64.wrap ((t:Int)+(16:Int))/\i64.wrap ((t:Int)+(16:Int))<(↑(64:Nat):Int))/\(i64.wrap ((t:Int)+(16:Int))).toNat<(64:Nat)/\(Hf n l p o (i64.wrap ((t:Int)+(1:Int)),wj.set (i64.wrap ((t:Int)+(16:Int))).toNat (u32.wrap (u32.wrap (u32.wrap (wj.getD (t:Int).toNat (0:Int)+aD BinOp.xor u32 (aD BinOp.xor u32 (gX (wj.getD (i64.wrap ((t:Int)+(1:Int))).toNat (0:Int)) (-7:Int),()).fst (gX (wj.getD (i64.wrap ((t:Int)+(1:Int))).toNat (0:Int)) (-18:Int),()).fst) ((wj.getD (i64.wrap ((t:Int)+(1:Int))).toNat (0:Int)).fdiv ((2:Int)^min (3:Nat) u32.bits)))+wj.getD (i64.wrap ((t:Int)+(9:Int))).toNat (0:Int))+aD BinOp.xor u32 (aD BinOp.xor u32 (gX (wj.getD (i64.wrap ((t:Int)+(14:Int))).toNat (0:Int)) (-17:Int),()).fst (gX (wj.getD (i64.wrap ((t:Int)+(14:Int))).toNat (0:Int)) (-19:Int),()).fst) ((wj.getD (i64.wrap ((t:Int)+(14:Int))).toNat (0:Int)).fdiv ((2:Int)^min (10:Nat) u32.bits)))))).ah ((∃ j,j<=(48:Nat)/\i64.wrap ((t:Int)+(1:Int))=(j:Int)/\wj.set (i64.wrap ((t:Int)+(16:Int))).toNat (u32.wrap (u32.wrap (u32.wrap (wj.getD (t:Int).toNat (0:Int)+aD BinOp.xor u32 (aD BinOp.xor u32 (gX (wj.getD (i64.wrap ((t:Int)+(1:Int))).toNat (0:Int)) (-7:Int)) (gX (wj.getD (i64.wrap ((t:Int)+(1:Int))).toNat (0:Int)) (-18:Int))) ((wj.getD (i64.wrap ((t:Int)+(1:Int))).toNat (0:Int)).fdiv ((2:Int)^min (3:Nat) u32.bits)))+wj.getD (i64.wrap ((t:Int)+(9:Int))).toNat (0:Int))+aD BinOp.xor u32 (aD BinOp.xor u32 (gX (wj.getD (i64.wrap ((t:Int)+(14:Int))).toNat (0:Int)) (-17:Int)) (gX (wj.getD (i64.wrap ((t:Int)+(14:Int))).toNat (0:Int)) (-19:Int))) ((wj.getD (i64.wrap ((t:Int)+(14:Int))).toNat (0:Int)).fdiv ((2:Int)^min (10:Nat) u32.bits))))=Hh z j)/\(48:Nat)-(i64.wrap ((t:Int)+(1:Int))).toNat<(48:Nat)-(t:Int).toNat))/\(decide ((t:Int)<(48:Int))=false->(Hf n l p o ((t:Int),wj)).ah (wj=Hh z (48:Nat))))) ab ?_;refine⟨fun h=>?_,fun h=>au ?_⟩
  ·have C:t<48:=by have:=Odt h;omega
   have H:∀ m:Nat,m<20->i64.wrap ((t:Int)+(m:Int))=((t+m:Nat):Int):=fun m hm=>by rw[ba aa aa];omega
   have N:i64.wrap ((t:Int)+1)=((t+1:Nat):Int):=H 1 ae;have O:i64.wrap ((t:Int)+9)=((t+9:Nat):Int):=H 9 ae;have P:i64.wrap ((t:Int)+14)=((t+14:Nat):Int):=H 14 ae;have Q:i64.wrap ((t:Int)+16)=((t+16:Nat):Int):=H 16 ae;rw[N,O,P,Q];simp only[aF];exact⟨⟨aa,aa⟩,aa,⟨aa,aa⟩,aa,trivial,trivial,ae,trivial,trivial,ae,⟨aa,aa⟩,aa,⟨aa,aa⟩,aa,⟨aa,aa⟩,aa,au ⟨⟨t+1,C,rfl,by rw[A];rfl⟩,aa⟩⟩
  ·have:t=48:=by have:=Odf h;omega
   rw[A,this]
 rintro⟨i2,q⟩ K;revert i2 q;intro (i2:Int) (q:List Int) (D:q=Hh z 48);refine bh u mixed 2 (PD n l p o q (0,n)) True ?_ (fun _=>?_);refine aq (X:=((PD n l p o q ((0:Int),n)).ah True)) ab ?_;exact au trivial;have x0:q.length=64:=by rw[D,PW,I]
 refine cl u mixed gO (fun r=>(bo (.int .i64) 92 r,cT uK 57 r)) (PD n l p o q) (fun g=>∃ j:Nat,j<=64/\g.1=(j:Int)/\g.2=CW q n j) (fun g=>64-g.1.toNat)
  (fun r=>(bo (.int .i64) 92 r,cT uK 57 r)) (PD n l p o q) (fun g=>g.2=CW q n 64) (0,n) (c:=ar (al Tryz.f177) 8) ab ab (ay ab ab ?_) ?_ ?_
 exact⟨0,ae,rfl,rfl⟩
 ·rintro⟨j,v⟩ L;revert j v;intro (j:Int) (v:List Int) ⟨t,W,y,ev⟩;have y:j=(t:Int):=y;have kv:v=CW q n t:=ev;subst y;have Y:v.length=8:=by rw[kv,PT _ V]
  obtain⟨a,b,c,d,e,f,g,h,rfl⟩:=eight Y;refine aq (X:=((decide ((t:Int)<(64:Int))=true->True/\True/\True/\((0:Int)<=(t:Int)/\(t:Int)<(↑(64:Nat):Int))/\(t:Int).toNat<jz.length/\((0:Int)<=(t:Int)/\(t:Int)<(↑(64:Nat):Int))/\(t:Int).toNat<(64:Nat)/\True/\True/\True/\(PD n l p o q (i64.wrap ((t:Int)+(1:Int)),[u32.wrap (u32.wrap (u32.wrap (h+aD BinOp.xor u32 (aD BinOp.xor u32 (gX e (-6:Int),()).fst (gX e (-11:Int),()).fst) (gX e (-25:Int),()).fst)+u32.wrap (u32.wrap (aD BinOp.xor u32 (aD BinOp.and u32 e f) (aD BinOp.and u32 (aD BinOp.xor u32 (if u32.signed=true then (-1:Int) else u32.max) e) g)+jz.getD (t:Int).toNat (0:Int))+q.getD (t:Int).toNat (0:Int)))+u32.wrap (aD BinOp.xor u32 (aD BinOp.xor u32 (gX a (-2:Int),()).fst (gX a (-13:Int),()).fst) (gX a (-22:Int),()).fst+aD BinOp.xor u32 (aD BinOp.xor u32 (aD BinOp.and u32 a b) (aD BinOp.and u32 a c)) (aD BinOp.and u32 b c))),a,b,c,u32.wrap (d+u32.wrap (u32.wrap (h+aD BinOp.xor u32 (aD BinOp.xor u32 (gX e (-6:Int),()).fst (gX e (-11:Int),()).fst) (gX e (-25:Int),()).fst)+u32.wrap (u32.wrap (aD BinOp.xor u32 (aD BinOp.and u32 e f) (aD BinOp.and u32 (aD BinOp.xor u32 (if u32.signed=true then (-1:Int) else u32.max) e) g)+jz.getD (t:Int).toNat (0:Int))+q.getD (t:Int).toNat (0:Int)))),e,f,g])).ah ((∃ j,j<=(64:Nat)/\i64.wrap ((t:Int)+(1:Int))=(j:Int)/\[u32.wrap (u32.wrap (u32.wrap (h+aD BinOp.xor u32 (aD BinOp.xor u32 (gX e (-6:Int)) (gX e (-11:Int))) (gX e (-25:Int)))+u32.wrap (u32.wrap (aD BinOp.xor u32 (aD BinOp.and u32 e f) (aD BinOp.and u32 (aD BinOp.xor u32 (if u32.signed=true then (-1:Int) else u32.max) e) g)+jz.getD (t:Int).toNat (0:Int))+q.getD (t:Int).toNat (0:Int)))+u32.wrap (aD BinOp.xor u32 (aD BinOp.xor u32 (gX a (-2:Int)) (gX a (-13:Int))) (gX a (-22:Int))+aD BinOp.xor u32 (aD BinOp.xor u32 (aD BinOp.and u32 a b) (aD BinOp.and u32 a c)) (aD BinOp.and u32 b c))),a,b,c,u32.wrap (d+u32.wrap (u32.wrap (h+aD BinOp.xor u32 (aD BinOp.xor u32 (gX e (-6:Int)) (gX e (-11:Int))) (gX e (-25:Int)))+u32.wrap (u32.wrap (aD BinOp.xor u32 (aD BinOp.and u32 e f) (aD BinOp.and u32 (aD BinOp.xor u32 (if u32.signed=true then (-1:Int) else u32.max) e) g)+jz.getD (t:Int).toNat (0:Int))+q.getD (t:Int).toNat (0:Int)))),e,f,g]=CW q n j)/\(64:Nat)-(i64.wrap ((t:Int)+(1:Int))).toNat<(64:Nat)-(t:Int).toNat))/\(decide ((t:Int)<(64:Int))=false->(PD n l p o q ((t:Int),[a,b,c,d,e,f,g,h])).ah ([a,b,c,d,e,f,g,h]=CW q n (64:Nat))))) ab ?_;refine⟨fun T=>?_,fun T=>au ?_⟩
  ·have C:t<64:=by have:=Odt T;omega
   have x1:jz.length=64:=rfl;rw[aS aa,aF];exact⟨trivial,trivial,trivial,⟨aa,aa⟩,aa,⟨aa,aa⟩,aa,trivial,trivial,trivial,au ⟨⟨t+1,C,rfl,by show _=vC q (CW q n t) t;rw[<- kv];rfl⟩,by rw[aF];omega⟩⟩
  ·have:t=64:=by have:=Odf T;omega
   rw[kv,this]
 rintro⟨i3,v⟩ hv;revert i3 v;intro (i3:Int) (v:List Int) (hv:v=CW q n 64);refine bh u mixed 1 (PF l o q v (0,n)) True ?_ (fun _=>?_);refine aq (X:=((PF l o q v ((0:Int),n)).ah True)) ab ?_;exact au trivial;refine cl u mixed gO (fun r=>(bo (.int .i64) 172 r,(p3 lb 0 r).1)) (PF l o q v) (fun g=>∃ j:Nat,j<=8/\g.1=(j:Int)/\g.2=FW v n j) (fun g=>8-g.1.toNat)
  (fun r=>(bo (.int .i64) 172 r,(p3 lb 0 r).1)) (PF l o q v) (fun g=>g.2=FW v n 8) (0,n) (c:=ar (al Tryz.f177) 10) ab ab (ay ab ab ?_) ?_ ?_
 exact⟨0,ae,rfl,rfl⟩
 ·rintro⟨j,s⟩ L;revert j s;intro (j:Int) (s:List Int) ⟨t,W,y,es⟩;have y:j=(t:Int):=y;have ks:s=FW v n t:=es;subst y;refine aq (X:=((decide ((t:Int)<(8:Int))=true->((0:Int)<=(t:Int)/\(t:Int)<(↑(8:Nat):Int))/\(t:Int).toNat<(8:Nat)/\((0:Int)<=(t:Int)/\(t:Int)<(↑(8:Nat):Int))/\(t:Int).toNat<(8:Nat)/\((0:Int)<=(t:Int)/\(t:Int)<(↑(8:Nat):Int))/\(t:Int).toNat<(8:Nat)/\(PF l o q v (i64.wrap ((t:Int)+(1:Int)),(s.set (t:Int).toNat (u32.wrap (s.getD (t:Int).toNat (0:Int)+v.getD (t:Int).toNat (0:Int))),l,o).fst)).ah ((∃ j,j<=(8:Nat)/\i64.wrap ((t:Int)+(1:Int))=(j:Int)/\s.set (t:Int).toNat (u32.wrap (s.getD (t:Int).toNat (0:Int)+v.getD (t:Int).toNat (0:Int)))=FW v n j)/\(8:Nat)-(i64.wrap ((t:Int)+(1:Int))).toNat<(8:Nat)-(t:Int).toNat))/\(decide ((t:Int)<(8:Int))=false->(PF l o q v ((t:Int),(s,l,o).fst)).ah (s=FW v n (8:Nat))))) ab ?_;refine⟨fun h=>?_,fun h=>au ?_⟩
  ·have C:t<8:=by have:=Odt h;omega
   rw[aS aa,aF];exact⟨⟨aa,aa⟩,C,⟨aa,aa⟩,C,⟨aa,aa⟩,C,au ⟨⟨t+1,C,rfl,by rw[ks];rfl⟩,by rw[aF];omega⟩⟩
  ·have:t=8:=by have:=Odf h;omega
   rw[ks,this]
 rintro⟨i4,s⟩ hs;revert i4 s;intro (i4:Int) (s:List Int) (hs:s=FW v n 8);refine bJ u mixed _ _ ?_;refine aq (X:=(((s,l,o),())=((fD n p,l,o),()))) ab ?_;show ((s,l,o),())=((fD n p,l,o),());rw[hs,hv,D,F,fD,bm,Y8]
def Uy:Nat × Eng.Spec:=(177,vG dZ lb [.arr 64 bK] [] (fun _=>True) (fun ((b,a,d),p,_)=>((fD b p,a,d),())))
end sha
end Go.Proofs.YtofofalgjibokaaGreatDoor
namespace Cr
open Go.IntKind(i64)
open Go.IntKind(i64 u8)
open Go.IntKind(i64 u64 u32)
section
variable (tk:List Int->List Int->List Int) (first:List Int)
def ns (a b:List Int):Nat->List Int
 | 0=>a
 | k+1=>tk (ns a b k) ((b.drop (64*k)).take 64)
theorem En (a X Y:List Int):∀ j,64*j<=X.length->ns tk a (X++Y) j=ns tk a X j
 | 0,_=>rfl
 | j+1,h=>by show tk _ _=tk _ _;rw[En a X Y j aa,qn aa,lV (by rw[gf];omega)]
theorem zx (a X Y:List Int) (k:Nat) (c:X.length=64*k):∀ j,ns tk a (X++Y) (k+j)=ns tk (ns tk a X k) Y j
 | 0=>En tk a X Y k aa
 | j+1=>by show tk (ns tk a (X++Y) (k+j)) _=tk _ _;rw[zx a X Y k c j];congr 2;have b:X.length<=64*(k+j):=aa;rw[show k.add j=k+j from rfl,oF,Bh b,dG];congr 1;omega
def dC (L:List Int):List Int:=L.drop (64*(L.length/64))
def Hs (L:List Int):List Int:=ns tk first L (L.length/64)
theorem lS (L:List Int):(dC L).length=L.length%64:=by rw[dC,gf];omega
theorem uZ (X Y:List Int) (k:Nat) (a:X.length=64*k):dC (X++Y)=dC Y:=by rw[dC,dC,a7,oF,Bh aa,dG];congr 1;omega
theorem Kp (X Y:List Int) (k:Nat) (a:X.length=64*k):Hs tk first (X++Y)=ns tk (ns tk first X k) Y (Y.length/64):=by rw[Hs,a7,show (X.length+Y.length)/64=k+Y.length/64 by omega,zx tk first X Y k a]
def lf (d a b:List Int):List Int × List Int:=(ns tk d b (b.length/64),dC b++a.drop (dC b).length)
def km (e a:List Int) (d:Int) (b:List Int):List Int × List Int × Int :=
 match decide ((d%64).toNat=0) with
 | true=>((lf tk (bif decide (d=0) then first else e) a b).1,(lf tk (bif decide (d=0) then first else e) a b).2,d+b.length)
 | false=>match decide ((d%64).toNat+b.length<64) with
  | true=>(e,a.take (d%64).toNat++(b++a.drop ((d%64).toNat+b.length)),d+b.length)
  | false=>((lf tk (tk e (a.take (d%64).toNat++b.take (64-(d%64).toNat))) (a.take (d%64).toNat++b.take (64-(d%64).toNat)) (b.drop (64-(d%64).toNat))).1,
    (lf tk (tk e (a.take (d%64).toNat++b.take (64-(d%64).toNat))) (a.take (d%64).toNat++b.take (64-(d%64).toNat)) (b.drop (64-(d%64).toNat))).2,d+b.length)
def uD (L:List Int) (b a:List Int) (d:Int):Prop:=d=(L.length:Int)/\a.length=64/\(L≠[]->b=Hs tk first L)/\a.take (L.length%64)=dC L
theorem XC (b a:List Int) (h:a.length=64):uD tk first [] b a 0:=⟨rfl,h,fun h=>absurd rfl h,by simp[dC]⟩
theorem abH {L f a:List Int} {q:Int} (h:uD tk first L f a q) (b:List Int):uD tk first (L++b) (km tk first f a q b).1 (km tk first f a q b).2.1 (km tk first f a q b).2.2:=by
 obtain⟨D,s,u,w⟩:=h;subst D;have F:(((L.length:Int))%64).toNat=L.length%64:=aa;have c:L=L.take (64*(L.length/64))++dC L:=(dO _ L).symm;have d:(L.take (64*(L.length/64))).length=64*(L.length/64):=by rw[c5];omega
 unfold km;rw[F];have i:(L.length:Int)+(b.length:Int)=((L++b).length:Int):=by rw[a7];omega
 cases z:decide (L.length%64=0) with
 | true =>
  have r:L.length%64=0:=Odt z;have H:dC L=[]:=dM (by rw[lS,r]);have y:L.length=64*(L.length/64):=aa;have G:(bif decide ((L.length:Int)=0) then first else f)=ns tk first L (L.length/64):=by
   cases L with
   | nil=>rfl
   | cons x l=>rw[cp (by simp only[bN];omega),cond_false];exact u aw
  refine⟨i,?_,fun _=>?_,?_⟩;show (dC b++a.drop _).length=64;rw[a7,gf,lS,s];omega;show ns tk _ b (b.length/64)=_;rw[G,Kp tk first L b _ y];show (dC b++a.drop _).take _=_;rw[uZ L b _ y,a7,show (L.length+b.length)%64=(dC b).length by rw[lS];omega,lz rfl]
 | false =>
  have r:L.length%64≠0:=Odf z;have t:L≠[]:=by rintro rfl;exact r rfl
  have n:f=ns tk first (L.take (64*(L.length/64))) (L.length/64):=by rw[u t,Hs];have:=En tk first (L.take (64*(L.length/64))) (dC L) (L.length/64) aa;rw[<- c] at this;exact this
  have g:L++b=L.take (64*(L.length/64))++(dC L++b):=by rw[<- cH,<- c]
  cases k:decide (L.length%64+b.length<64) with
  | true =>
   have E:L.length%64+b.length<64:=Odt k;refine⟨i,?_,fun _=>?_,?_⟩;show (a.take _++(b++a.drop _)).length=64;rw[a7,a7,gf,c5,s];omega;show f=_;rw[g,Kp tk first _ _ _ d,<- n,show (dC L++b).length/64=0 by rw[a7,lS];omega];rfl
   ·show (a.take _++(b++a.drop _)).take _=_;rw[g,uZ _ _ _ d];have A:dC (dC L++b)=dC L++b:=by
     rw[dC,show (dC L++b).length/64=0 by rw[a7,lS];omega];rfl
    have C:(L.take (64*(L.length/64))++(dC L++b)).length%64=(dC L++b).length:=by rw[a7,a7,lS,d];omega
    rw[A,w,C,<- cH];exact lz rfl
  | false =>
   have E:¬ L.length%64+b.length<64:=Odf k;have m:(a.take (L.length%64)++b.take (64-L.length%64)).length=64:=by rw[a7,c5,c5,s];omega
   have j:L++b=(L.take (64*(L.length/64))++(a.take (L.length%64)++b.take (64-L.length%64)))++b.drop (64-L.length%64):=by rw[w,cH,cH,dO];exact g
   have e:(L.take (64*(L.length/64))++(a.take (L.length%64)++b.take (64-L.length%64))).length=64*(L.length/64+1):=by rw[a7,m,d];omega
   have o:ns tk first (L.take (64*(L.length/64))++(a.take (L.length%64)++b.take (64-L.length%64))) (L.length/64+1)=tk f (a.take (L.length%64)++b.take (64-L.length%64)):=by rw[zx tk first _ _ _ d 1,<- n];show tk f _=_;rw[Nat.mul_zero,gL,bW aa]
   refine⟨i,?_,fun _=>?_,?_⟩;show (dC _++drop _ (_++_)).length=64;rw[a7,gf,lS,m];omega;show ns tk _ _ _=_;rw[j,Kp tk first _ _ _ e,o];show (dC _++drop _ (_++_)).take _=_;rw[j,uZ _ _ _ e];rw[show (L.take (64*(L.length/64))++(a.take (L.length%64)++b.take (64-L.length%64))++b.drop (64-L.length%64)).length%64=(dC (b.drop (64-L.length%64))).length by rw[lS,a7,e];omega,lz rfl]
end
end Cr
open Go Go.Eng Go.RowKit Cr
namespace Go.Proofs.YtofofalgjibokaaGreatDoor
namespace sha
open Go.IntKind(i64)
open Go.IntKind(i64 u8)
open Go.IntKind(i64 u64 u32)
def iM (n:Nat):List Int:=128::(replicate ((64+55-n%64)%64) 0++(range 8).map fun i=>((n:Int)*8)/2^(56-8*i)%256)
def WM (s:List Int):List Int:=(range 32).map fun i=>IntKind.u8.wrap ((s.getD (i/4) 0).fdiv (2^(24-8*(i%4))))
def acg (L:List Int):List Int:=WM (Hs fD eh (L++iM L.length))
def I6 (L:List Int):List Int:=eR (acg L)
theorem BZ:enters Tryz.prog 160 Tryz.f160:=ek
def cP (e d:List Int) (f:Int) (b:List Int):aH lb:=eR (km fD eh e d f b)
theorem MT {L d a:List Int} {e:Int} (h:uD fD eh L d a e) (b:List Int):uD fD eh (L++b) (cP d a e b).1 (cP d a e b).2.1 (cP d a e b).2.2:=by rw[cP,bm];exact abH fD eh h b
theorem RZ (d a b:List Int) (h:64<=b.length):lf fD (fD d (b.take 64)) a (b.drop 64)=lf fD d a b:=by
 have f:b.take 64++b.drop 64=b:=dO _ _;have g:(b.take 64).length=64*1:=by rw[c5];omega
 have i:dC (b.drop 64)=dC b:=by have:=uZ (b.take 64) (b.drop 64) 1 g;rw[f] at this;exact this.symm
 have j:ns fD (fD d (b.take 64)) (b.drop 64) ((b.drop 64).length/64)=ns fD d b (b.length/64):=by
  have:=zx fD d (b.take 64) (b.drop 64) 1 g ((b.drop 64).length/64);rw[f] at this;have e:ns fD d (b.take 64) 1=fD d (b.take 64):=by show fD d _=_;rw[Nat.mul_zero,gL,lB];rfl
  rw[e] at this;rw[<- this];congr 1;rw[gf];omega
 unfold lf;rw[i,j]
abbrev Wg:Type:=(List Int × List Int × Int) × List Int
def Hk (g:Wg):St:=av Tryz.f160.ntmps 201 [(0,ao 0 0),(1,ag (.ro bK g.2))] [(0,[.ints .u32 8 g.1.1,.ints .u8 64 g.1.2.1,.v (.int .i64 g.1.2.2)])]
abbrev Ke:aH lb × HL [.sl bK]->Prop:=fun ((_,_,d),b,_)=>(0:Int)<=d/\d<=(1152921504606846976:Int)/\length b<=1152921504606846976
def A3 (d a:List Int) (e:Int) (b:List Int) (g:Wg):Prop:=((lf fD g.1.1 g.1.2.1 g.2).1,(lf fD g.1.1 g.1.2.1 g.2).2,g.1.2.2)=cP d a e b/\g.1.2.1.length=64
theorem P4 {e a:List Int} {d:Int} {b:List Int} (h:(d%64).toNat=0):cP e a d b=((lf fD (bif decide (d=0) then eh else e) a b).1,(lf fD (bif decide (d=0) then eh else e) a b).2,d+b.length):=by rw[cP,bm,km,cg h]
theorem abL {f d:List Int} {e:Int} {b:List Int} {a:Nat} (i:a=(e%64).toNat) (h:a≠0) (g:a+b.length<64):cP f d e b=(f,d.take a++(b++d.drop (a+b.length)),e+b.length):=by subst i;rw[cP,bm,km,cp h,cg g]
theorem abM {e d:List Int} {f:Int} {b:List Int} {a:Nat} (i:a=(f%64).toNat) (h:a≠0) (g:¬a+b.length<64):cP e d f b =
  ((lf fD (fD e (d.take a++b.take (64-a))) (d.take a++b.take (64-a)) (b.drop (64-a))).1,(lf fD (fD e (d.take a++b.take (64-a))) (d.take a++b.take (64-a)) (b.drop (64-a))).2,f+b.length):=by
 subst i;rw[cP,bm,km,cp h,cp g]
theorem zM:C3 Tryz.prog 160 lb [.sl bK] [] dZ Ke (fun ((m,d,e),b,_)=>(cP m d e b,())):=by
 have F:aJ Tryz.prog (aU [Uy]):=aM (tv aai) bD;refine B5 (sp:=aU [Uy]) BZ ae ae ab ?_;rintro w M0 b0 ⟨m,d,e⟩ ⟨b,⟨⟩⟩;revert m d e b;intro (m:List Int) (d:List Int) (e:Int) (b:List Int) Z x2 hp;obtain⟨E,nS,W⟩:=hp;have E:(0:Int)<=e:=E;have nS:e<=(1152921504606846976:Int):=nS;have W:b.length<=1152921504606846976:=W;have x1:m.length=8:=Z.1.1;have N:d.length=64:=Z.2.1.1;show Tr _ _ _ _ _ _ _;refine jQ F mixed 8 (fun C=>(p3 lb 0 C,GL bK 1 C)) Hk (A3 m d e b) ?_ ?_
 ·refine aq (X:=(((e==0)=true->0<[eh].length/\((64:Int)=0->False)/\(decide (e.tmod (64:Int)>0)=true->(0<=e.tmod 64/\e.tmod 64<=(↑(64:Nat):Int))/\(e.tmod 64).toNat+((↑(64:Nat):Int)-e.tmod 64).toNat<=64/\(decide (i64.wrap (e.tmod 64+(↑(b.length.min ((↑(64:Nat):Int)-e.tmod 64).toNat):Int))<64)=true->(([1779033703,3144134277,1013904242,2773480762,1359893119,2600822924,528734635,1541459225],take (e.tmod 64).toNat d++(take (b.length.min ((↑(64:Nat):Int)-e.tmod 64).toNat) b++drop ((e.tmod 64).toNat+b.length.min ((↑(64:Nat):Int)-e.tmod 64).toNat) d),i64.wrap (e+(b.length:Int))),())=(cP m d e b,()))/\(decide (i64.wrap (e.tmod 64+(↑(b.length.min ((↑(64:Nat):Int)-e.tmod 64).toNat):Int))<64)=false->(0<=(↑(b.length.min ((↑(64:Nat):Int)-e.tmod 64).toNat):Int)/\(↑(b.length.min ((↑(64:Nat):Int)-e.tmod 64).toNat):Int)<=(b.length:Int))/\(∀ (g:Nat) (s:Sigma aH),dZ g=some s->Decidable.rec (fun h=>(fun x=>if g=1 then some ⟨Kd.arr 64 uK,jz⟩ else none) h) (fun h=>(fun x=>some ⟨Kd.arr 8 uK,eh⟩) h) (instDecidableEqNat g 0)=some s)/\True/\(Hk ((fD eh (take (e.tmod 64).toNat d++(take (b.length.min ((↑(64:Nat):Int)-e.tmod 64).toNat) b++drop ((e.tmod 64).toNat+b.length.min ((↑(64:Nat):Int)-e.tmod 64).toNat) d)),take (e.tmod 64).toNat d++(take (b.length.min ((↑(64:Nat):Int)-e.tmod 64).toNat) b++drop ((e.tmod 64).toNat+b.length.min ((↑(64:Nat):Int)-e.tmod 64).toNat) d),i64.wrap (e+(b.length:Int))),take ((b.length:Int)-(↑(b.length.min ((↑(64:Nat):Int)-e.tmod 64).toNat):Int)).toNat (drop (↑(b.length.min ((↑(64:Nat):Int)-e.tmod 64).toNat):Int).toNat b))).ah (A3 m d e b ((fD eh (take (e.tmod 64).toNat d++(take (b.length.min ((↑(64:Nat):Int)-e.tmod 64).toNat) b++drop ((e.tmod 64).toNat+b.length.min ((↑(64:Nat):Int)-e.tmod 64).toNat) d)),take (e.tmod 64).toNat d++(take (b.length.min ((↑(64:Nat):Int)-e.tmod 64).toNat) b++drop ((e.tmod 64).toNat+b.length.min ((↑(64:Nat):Int)-e.tmod 64).toNat) d),i64.wrap (e+(b.length:Int))),take ((b.length:Int)-(↑(b.length.min ((↑(64:Nat):Int)-e.tmod 64).toNat):Int)).toNat (drop (↑(b.length.min ((↑(64:Nat):Int)-e.tmod 64).toNat):Int).toNat b)))))/\(decide (e.tmod (64:Int)>0)=false->(Hk (([1779033703,3144134277,1013904242,2773480762,1359893119,2600822924,528734635,1541459225],d,i64.wrap (e+(b.length:Int))),b)).ah (A3 m d e b (([1779033703,3144134277,1013904242,2773480762,1359893119,2600822924,528734635,1541459225],d,i64.wrap (e+(b.length:Int))),b))))/\((e==0)=false->((64:Int)=0->False)/\(decide (e.tmod (64:Int)>0)=true->(0<=e.tmod 64/\e.tmod 64<=(↑(64:Nat):Int))/\(e.tmod 64).toNat+((↑(64:Nat):Int)-e.tmod 64).toNat<=64/\(decide (i64.wrap (e.tmod 64+(↑(b.length.min ((↑(64:Nat):Int)-e.tmod 64).toNat):Int))<64)=true->((m,take (e.tmod 64).toNat d++(take (b.length.min ((↑(64:Nat):Int)-e.tmod 64).toNat) b++drop ((e.tmod 64).toNat+b.length.min ((↑(64:Nat):Int)-e.tmod 64).toNat) d),i64.wrap (e+(b.length:Int))),())=(cP m d e b,()))/\(decide (i64.wrap (e.tmod 64+(↑(b.length.min ((↑(64:Nat):Int)-e.tmod 64).toNat):Int))<64)=false->(0<=(↑(b.length.min ((↑(64:Nat):Int)-e.tmod 64).toNat):Int)/\(↑(b.length.min ((↑(64:Nat):Int)-e.tmod 64).toNat):Int)<=(b.length:Int))/\(∀ (g:Nat) (s:Sigma aH),dZ g=some s->Decidable.rec (fun h=>(fun x=>if g=1 then some ⟨Kd.arr 64 uK,jz⟩ else none) h) (fun h=>(fun x=>some ⟨Kd.arr 8 uK,eh⟩) h) (instDecidableEqNat g 0)=some s)/\True/\(Hk ((fD m (take (e.tmod 64).toNat d++(take (b.length.min ((↑(64:Nat):Int)-e.tmod 64).toNat) b++drop ((e.tmod 64).toNat+b.length.min ((↑(64:Nat):Int)-e.tmod 64).toNat) d)),take (e.tmod 64).toNat d++(take (b.length.min ((↑(64:Nat):Int)-e.tmod 64).toNat) b++drop ((e.tmod 64).toNat+b.length.min ((↑(64:Nat):Int)-e.tmod 64).toNat) d),i64.wrap (e+(b.length:Int))),take ((b.length:Int)-(↑(b.length.min ((↑(64:Nat):Int)-e.tmod 64).toNat):Int)).toNat (drop (↑(b.length.min ((↑(64:Nat):Int)-e.tmod 64).toNat):Int).toNat b))).ah (A3 m d e b ((fD m (take (e.tmod 64).toNat d++(take (b.length.min ((↑(64:Nat):Int)-e.tmod 64).toNat) b++drop ((e.tmod 64).toNat+b.length.min ((↑(64:Nat):Int)-e.tmod 64).toNat) d)),take (e.tmod 64).toNat d++(take (b.length.min ((↑(64:Nat):Int)-e.tmod 64).toNat) b++drop ((e.tmod 64).toNat+b.length.min ((↑(64:Nat):Int)-e.tmod 64).toNat) d),i64.wrap (e+(b.length:Int))),take ((b.length:Int)-(↑(b.length.min ((↑(64:Nat):Int)-e.tmod 64).toNat):Int)).toNat (drop (↑(b.length.min ((↑(64:Nat):Int)-e.tmod 64).toNat):Int).toNat b)))))/\(decide (e.tmod (64:Int)>0)=false->(Hk ((m,d,i64.wrap (e+(b.length:Int))),b)).ah (A3 m d e b ((m,d,i64.wrap (e+(b.length:Int))),b)))))) ab ?_;obtain⟨a,ha,V,I⟩:∃ a:Nat,e.tmod 64=(a:Int)/\a<64/\a=(e%64).toNat:=⟨(e%64).toNat,by rw[ni E];omega,aa,rfl⟩;have O:((↑(64:Nat):Int)-(a:Int)).toNat=64-a:=aa;have e3:i64.wrap (e+(b.length:Int))=e+b.length:=ba aa aa;rw[ha,O,e3];obtain⟨n,Y⟩:∃ n,n=b.length.min (64-a):=⟨_,rfl⟩;have x0:n=min b.length (64-a):=Y;have P:i64.wrap ((a:Int)+(n:Int))=((a+n:Nat):Int):=by rw[ba aa aa];omega
  rw[<- Y,P];simp only[aF];refine⟨fun y=>⟨ae,ae,fun o=>?_,fun T=>au ?_⟩,fun y=>⟨ae,fun o=>⟨⟨aa,aa⟩,aa,fun u=>?_,fun K=>⟨⟨aa,aa⟩,fun _ _ h=>h,trivial,au ?_⟩⟩,fun T=>au ?_⟩⟩
  ·exfalso;have y:e=0:=by simpa using y
   have:=Odt o;subst y;omega
  ·have y:e=0:=by simpa using y
   refine⟨?_,N⟩;rw[P4 aa,cg y];rfl
  have u:=Odt u;have o:=Odt o;have A:n=b.length:=aa;rw[abL I aa aa,A,bW (aI _)]
  ·have K:=Odf K;have o:=Odt o;have A:n=64-a:=aa;have R:d.take a++(b.take n++d.drop (a+n))=d.take a++b.take (64-a):=by
    rw[A,Bh aa,bw]
   have Q:take ((b.length:Int)-(n:Int)).toNat (drop n b)=b.drop (64-a):=by rw[bW (by rw[gf];omega),A]
   rw[R,Q];refine⟨?_,?_⟩;rw[abM I aa aa];show (d.take a++b.take (64-a)).length=64;rw[a7,c5,c5];omega
  ·have T:=Odf T;have y:¬ e=0:=by simpa using y
   refine⟨?_,N⟩;rw[P4 aa,cp y];rfl
 rintro⟨⟨k,f,l⟩,j⟩ U;revert k f l j;intro (j:List Int) (k:List Int) (f:List Int) (l:Int) (U:A3 m d e b ((k,f,l),j));refine cl F mixed gO (fun C=>(p3 lb 0 C,GL bK 1 C)) Hk (A3 m d e b) (fun g=>g.2.length)
  (fun C=>(p3 lb 0 C,GL bK 1 C)) Hk (fun g=>A3 m d e b g/\g.2.length<64) ((k,f,l),j) (c:=ar (al Tryz.f160) 8) ab ab (ay ab ab ?_) ?_ ?_
 exact U
 ·rintro⟨⟨k,f,l⟩,j⟩ L;revert k f l j;intro (j:List Int) (k:List Int) (f:List Int) (l:Int) (L:A3 m d e b ((k,f,l),j));refine aq (X:=((decide ((j.length:Int)>=64)=true->64<=j.length/\0+Tryz.prog.cellsOf 228/width bK<=j.length/\(∀ (g:Nat) (s:Sigma aH),dZ g=some s->Decidable.rec (fun h=>(fun x=>if g=1 then some ⟨Kd.arr 64 uK,jz⟩ else none) h) (fun h=>(fun x=>some ⟨Kd.arr 8 uK,eh⟩) h) (instDecidableEqNat g 0)=some s)/\True/\((0:Int)<=64/\64<=(j.length:Int))/\(Hk ((fD k (take (Tryz.prog.cellsOf 228/width bK) j),f,l),take ((j.length:Int)-64).toNat (drop 64 j))).ah (A3 m d e b ((fD k (take (Tryz.prog.cellsOf 228/width bK) j),f,l),take ((j.length:Int)-64).toNat (drop 64 j))/\(take ((j.length:Int)-64).toNat (drop 64 j)).length<j.length))/\(decide ((j.length:Int)>=64)=false->(Hk ((k,f,l),j)).ah (A3 m d e b ((k,f,l),j)/\j.length<64)))) ab ?_;have G:Tryz.prog.cellsOf 228/width bK=64:=ab;obtain⟨z,D⟩:=L;refine⟨fun h=>?_,fun h=>au ⟨⟨z,D⟩,by have:=Odf h;omega⟩⟩;have H:64<=j.length:=by have:=Odt h;omega
  have hd:take ((j.length:Int)-(64:Int)).toNat (drop 64 j)=j.drop 64:=bW (by rw[gf];omega);show 64<=j.length/\0+Tryz.prog.cellsOf 228/width bK<=j.length/\_;rw[G,hd];refine⟨H,aa,fun _ _ h=>h,trivial,⟨aa,aa⟩,au ⟨⟨?_,D⟩,?_⟩⟩;show ((lf fD (fD k (take (Tryz.prog.cellsOf 228/width bK) j)) f (j.drop 64)).1,(lf fD (fD k (take (Tryz.prog.cellsOf 228/width bK) j)) f (j.drop 64)).2,l)=_;rw[G,RZ _ _ _ H];exact z;rw[gf];omega
 rintro⟨⟨r,i,t⟩,q⟩ L;revert r i t q;intro (q:List Int) (r:List Int) (i:List Int) (t:Int) (L:A3 m d e b ((r,i,t),q)/\q.length<64);refine bJ F mixed _ _ ?_;refine aq (X:=(0+64<=64/\((r,take 0 i++(take (q.length.min 64) q++drop (0+q.length.min 64) i),t),())=(cP m d e b,()))) ab ?_;obtain⟨⟨z,D⟩,u⟩:=L;have u:q.length<64:=u;refine⟨ae,?_⟩;have O:q.length.min 64=q.length:=iU aa;have P:dC q=q:=by rw[dC,show q.length/64=0 by omega];rfl
 rw[<- z,O];show ((r,take 0 i++(take q.length q++drop (0+q.length) i),t),())=(((lf fD r i q).1,(lf fD r i q).2,t),());unfold lf;rw[P,bW (aI _),show q.length/64=0 by omega,bO];rfl
def DG:Nat × Eng.Spec:=(160,vG dZ lb [.sl bK] [] Ke (fun ((e,d,f),b,_)=>(cP e d f b,())))
open Go.IntKind(i64 u64 u8 u32)
theorem Mz (f:Nat->Int) (p:List Int) (k n:Nat):(p++((range k).map f++replicate (n+1) 0)).set (p.length+k) (f k)=p++((range (k+1)).map f++replicate n 0):=by rw[qp _ _ aa,show p.length+k-p.length=k by omega,qp _ _ aw];rw[show k-((range k).map f).length=0 by simp,oV,oD,qK,di,cH];rfl
theorem wrap_u8 (x:Int):u8.wrap x=x%256:=by simp only[IntKind.wrap,IntKind.signed,IntKind.bits];simp
theorem HP:enters Tryz.prog 161 Tryz.f161:=ek
def nn (b:Int):Nat:=(64+55-b.toNat%64)%64
def UF (b:Int) (i:Nat):Int:=b*8/2^(56-8*i)%256
def ss (b:Int) (k:Nat):List Int:=(128::replicate (nn b) 0)++((range k).map (UF b)++replicate (71-nn b-k) 0)
theorem PH (b:Int) (h:0<=b):(ss b 8).take (1+nn b+8)=iM b.toNat:=by
 have e:ss b 8=((128::replicate (nn b) 0)++(range 8).map (UF b))++replicate (71-nn b-8) 0:=by rw[ss,cH]
 rw[e,lz (by simp;omega)];have d:((b.toNat:Nat):Int)=b:=aa;unfold iM UF nn;rw[d];rfl
def Ps (d b:List Int) (e:Int) (n:Int) (g:Int × List Int):St:=av Tryz.f161.ntmps 129 [(0,ao 0 0),(2,ao 1 0),(3,ao 9 0),(4,ao 33 0),(5,sI .i64 n),(20,sI .i64 g.1)] [(33,[.ints .u8 72 g.2]),(9,[.ints .u8 32 (replicate 32 0)]),(1,[.ints .u8 32 (replicate 32 0)]),(0,[.ints .u32 8 d,.ints .u8 64 b,.v (.int .i64 e)])]
def Pu (d b:List Int) (e:Int) (y:aH lb) (g:Int × List Int):St:=av Tryz.f161.ntmps 217 [(2,ao 1 0),(3,ao 9 0),(7,ao 153 0),(48,sI .i64 g.1)] [(153,[.ints .u32 8 y.1,.ints .u8 64 y.2.1,.v (.int .i64 y.2.2)]),(9,[.ints .u8 32 g.2]),(1,[.ints .u8 32 (replicate 32 0)]),(0,[.ints .u32 8 d,.ints .u8 64 b,.v (.int .i64 e)])]
def WN (s:List Int) (i:Nat):Int:=u8.wrap ((s.getD (i/4) 0).fdiv (2^(24-8*(i%4))))
def oK (s:List Int) (k:Nat):List Int:=[]++((range k).map (WN s)++replicate (32-k) 0)
def Fj (e b:List Int) (d:Int):List Int:=eR (WM (cP e b d (iM d.toNat)).1)
theorem XD {L f a:List Int} {d:Int} (h:uD fD eh L f a d):Fj f a d=I6 L:=by
 have e:d.toNat=L.length:=by have:=h.1;omega
 have k:=MT h (iM L.length);have b:L++iM L.length≠[]:=by simp[iM]
 rw[Fj,bm,I6,bm,acg,e,k.2.2.1 b]
theorem K7:C3 Tryz.prog 161 lb [] [.val (.arr 32 bK)] dZ (fun ((_,_,b),_)=>(0:Int)<=b/\b<=(1152921504606846976:Int)) (fun ((f,d,b),_)=>((f,d,b),(Fj f d b,()))):=by
 have o:aJ Tryz.prog (aU [DG]):=aM (tv zM) bD;refine B5 (sp:=aU [DG]) HP ae ae ab ?_;rintro w M0 b0 ⟨f,d,b⟩ ⟨⟩;revert f d b;intro (f:List Int) (d:List Int) (b:Int) hw x1 U;have n:(0:Int)<=b:=U.1;have nS:b<=(1152921504606846976:Int):=U.2;have x0:nn b<64:=Nat.mod_lt _ ae;have K:(119-b.tmod 64).tmod 64=(nn b:Int):=by rw[ni n,ni aa];show _=(((64+55-b.toNat%64)%64:Nat):Int);omega
 have A:u64.wrap b=b:=by simp only[IntKind.wrap,IntKind.signed,IntKind.bits];simp;omega
 have L:u64.wrap (b*8)=b*8:=by simp only[IntKind.wrap,IntKind.signed,IntKind.bits];simp;omega
 show Tr _ _ _ _ _ _ _;refine jQ o mixed 8 (fun j=>(bo (.int .i64) 5 j,cT bK 33 j)) (fun g=>Ps f d b g.1 (0,g.2)) (fun g=>g.1=(nn b:Int)/\g.2=ss b 0) ?_ ?_
 ·refine aq (X:=((0:Nat)<(72:Nat)/\((64:Int)=(0:Int)->False)/\((64:Int)=(0:Int)->False)/\(Ps f d b ((i64.wrap ((119:Int)-b.tmod (64:Int))).tmod (64:Int),[(128:Int),(0:Int),(0:Int),(0:Int),(0:Int),(0:Int),(0:Int),(0:Int),(0:Int),(0:Int),(0:Int),(0:Int),(0:Int),(0:Int),(0:Int),(0:Int),(0:Int),(0:Int),(0:Int),(0:Int),(0:Int),(0:Int),(0:Int),(0:Int),(0:Int),(0:Int),(0:Int),(0:Int),(0:Int),(0:Int),(0:Int),(0:Int),(0:Int),(0:Int),(0:Int),(0:Int),(0:Int),(0:Int),(0:Int),(0:Int),(0:Int),(0:Int),(0:Int),(0:Int),(0:Int),(0:Int),(0:Int),(0:Int),(0:Int),(0:Int),(0:Int),(0:Int),(0:Int),(0:Int),(0:Int),(0:Int),(0:Int),(0:Int),(0:Int),(0:Int),(0:Int),(0:Int),(0:Int),(0:Int),(0:Int),(0:Int),(0:Int),(0:Int),(0:Int),(0:Int),(0:Int),(0:Int)]).fst ((0:Int),((i64.wrap ((119:Int)-b.tmod (64:Int))).tmod (64:Int),[(128:Int),(0:Int),(0:Int),(0:Int),(0:Int),(0:Int),(0:Int),(0:Int),(0:Int),(0:Int),(0:Int),(0:Int),(0:Int),(0:Int),(0:Int),(0:Int),(0:Int),(0:Int),(0:Int),(0:Int),(0:Int),(0:Int),(0:Int),(0:Int),(0:Int),(0:Int),(0:Int),(0:Int),(0:Int),(0:Int),(0:Int),(0:Int),(0:Int),(0:Int),(0:Int),(0:Int),(0:Int),(0:Int),(0:Int),(0:Int),(0:Int),(0:Int),(0:Int),(0:Int),(0:Int),(0:Int),(0:Int),(0:Int),(0:Int),(0:Int),(0:Int),(0:Int),(0:Int),(0:Int),(0:Int),(0:Int),(0:Int),(0:Int),(0:Int),(0:Int),(0:Int),(0:Int),(0:Int),(0:Int),(0:Int),(0:Int),(0:Int),(0:Int),(0:Int),(0:Int),(0:Int),(0:Int)]).snd)).ah ((i64.wrap ((119:Int)-b.tmod (64:Int))).tmod (64:Int)=(↑(nn b):Int)/\[(128:Int),(0:Int),(0:Int),(0:Int),(0:Int),(0:Int),(0:Int),(0:Int),(0:Int),(0:Int),(0:Int),(0:Int),(0:Int),(0:Int),(0:Int),(0:Int),(0:Int),(0:Int),(0:Int),(0:Int),(0:Int),(0:Int),(0:Int),(0:Int),(0:Int),(0:Int),(0:Int),(0:Int),(0:Int),(0:Int),(0:Int),(0:Int),(0:Int),(0:Int),(0:Int),(0:Int),(0:Int),(0:Int),(0:Int),(0:Int),(0:Int),(0:Int),(0:Int),(0:Int),(0:Int),(0:Int),(0:Int),(0:Int),(0:Int),(0:Int),(0:Int),(0:Int),(0:Int),(0:Int),(0:Int),(0:Int),(0:Int),(0:Int),(0:Int),(0:Int),(0:Int),(0:Int),(0:Int),(0:Int),(0:Int),(0:Int),(0:Int),(0:Int),(0:Int),(0:Int),(0:Int),(0:Int)]=ss b (0:Nat)))) ab ?_;have e:i64.wrap (119-b.tmod 64)=119-b.tmod 64:=by
   rw[ni n];exact ba aa aa
  rw[e,K];refine⟨ae,ae,ae,au ⟨rfl,?_⟩⟩;show _=(128::replicate (nn b) 0)++([]++replicate (71-nn b-0) 0);rw[dG,iT,List.replicate_append_replicate,show nn b+(71-nn b-0)=71 by omega];rfl
 rintro⟨O,P⟩ hK;revert O P;intro (O:Int) (P:List Int) ⟨E,H⟩;have E:O=(nn b:Int):=E;have H:P=ss b 0:=H;subst E H;refine cl o mixed gO (fun j=>(bo (.int .i64) 20 j,cT bK 33 j)) (Ps f d b (nn b)) (fun g=>∃ k:Nat,k<=8/\g.1=(k:Int)/\g.2=ss b k) (fun g=>8-g.1.toNat)
  (fun j=>(bo (.int .i64) 20 j,cT bK 33 j)) (Ps f d b (nn b)) (fun g=>g.2=ss b 8) (0,ss b 0) (c:=ar (al Tryz.f161) 8) ab ab (ay ab ab ?_) ?_ ?_
 exact⟨0,ae,rfl,rfl⟩
 ·rintro⟨i,l⟩ Z;revert i l;intro (i:Int) (l:List Int) ⟨k,hk,q,G⟩;have q:i=(k:Int):=q;have kl:l=ss b k:=G;subst q;refine aq (X:=((decide ((k:Int)<(8:Int))=true->(0:Int)<=i64.wrap ((56:Int)-i64.wrap ((8:Int)*(k:Int)))/\((0:Int)<=i64.wrap (i64.wrap ((1:Int)+(↑(nn b):Int))+(k:Int))/\i64.wrap (i64.wrap ((1:Int)+(↑(nn b):Int))+(k:Int))<(↑(72:Nat):Int))/\(i64.wrap (i64.wrap ((1:Int)+(↑(nn b):Int))+(k:Int))).toNat<(72:Nat)/\(Ps f d b (↑(nn b):Int) (i64.wrap ((k:Int)+(1:Int)),l.set (i64.wrap (i64.wrap ((1:Int)+(↑(nn b):Int))+(k:Int))).toNat (u8.wrap ((u64.wrap (u64.wrap b*(8:Int))).fdiv ((2:Int)^min (i64.wrap ((56:Int)-i64.wrap ((8:Int)*(k:Int)))).toNat u64.bits))))).ah ((∃ m,m<=(8:Nat)/\i64.wrap ((k:Int)+(1:Int))=(m:Int)/\l.set (i64.wrap (i64.wrap ((1:Int)+(↑(nn b):Int))+(k:Int))).toNat (u8.wrap ((u64.wrap (u64.wrap b*(8:Int))).fdiv ((2:Int)^min (i64.wrap ((56:Int)-i64.wrap ((8:Int)*(k:Int)))).toNat u64.bits)))=ss b m)/\(8:Nat)-(i64.wrap ((k:Int)+(1:Int))).toNat<(8:Nat)-(k:Int).toNat))/\(decide ((k:Int)<(8:Int))=false->(Ps f d b (↑(nn b):Int) ((k:Int),l)).ah (l=ss b (8:Nat))))) ab ?_;refine⟨fun h=>?_,fun h=>au ?_⟩
  ·have C:k<8:=by have:=Odt h;omega
   have r:i64.wrap (i64.wrap ((1:Int)+(nn b:Int))+(k:Int))=((1+nn b+k:Nat):Int):=by rw[ba (a:=1+(nn b:Int)) aa aa,ba aa aa];omega
   have t:i64.wrap (56-i64.wrap (8*(k:Int)))=((56-8*k:Nat):Int):=by rw[ba (a:=8*(k:Int)) aa aa,ba aa aa];omega
   rw[r,t,aS aa,A,L];simp only[aF];refine⟨aa,⟨aa,aa⟩,aa,au ⟨⟨k+1,C,rfl,?_⟩,aa⟩⟩;have ev:u8.wrap ((b*8).fdiv (2^min (56-8*k) u64.bits))=UF b k:=by have I:min (56-8*k) u64.bits=56-8*k:=iU (show 56-8*k<=64 by omega);rw[wrap_u8,I,sD _ (eJ (Int.pow_pos ae))];rfl
   rw[ev,kl,ss,ss,show 71-nn b-k=(71-nn b-(k+1))+1 by omega];have:=Mz (UF b) (128::replicate (nn b) 0) k (71-nn b-(k+1));rw[show (128::replicate (nn b) (0:Int)).length=1+nn b by simp;omega] at this;exact this
  ·have:k=8:=by have:=Odf h;omega
   rw[kl,this]
 rintro⟨W,N⟩ u;revert W N;intro (W:Int) (N:List Int) (u:N=ss b 8);subst u;refine jQ o mixed 3 (fun j=>p3 lb 153 j) (fun y=>Pu f d b y (0,replicate 32 0)) (fun y=>y=cP f d b (iM b.toNat)) ?_ ?_
 ·refine aq (X:=(((0:Int)<=i64.wrap (i64.wrap ((1:Int)+(↑(nn b):Int))+(8:Int))/\i64.wrap (i64.wrap ((1:Int)+(↑(nn b):Int))+(8:Int))<=(↑(72:Nat):Int))/\(∀ (g:Nat) (s:Sigma aH),dZ g=some s->Decidable.rec (fun h=>(fun x=>if g=(1:Nat) then some ⟨Kd.arr (64:Nat) uK,jz⟩ else none) h) (fun h=>(fun x=>some ⟨Kd.arr (8:Nat) uK,eh⟩) h) (instDecidableEqNat g (0:Nat))=some s)/\(0:Nat)+(i64.wrap (i64.wrap ((1:Int)+(↑(nn b):Int))+(8:Int))-(0:Int)).toNat<=(72:Nat)/\Ke ((f,d,b),take (i64.wrap (i64.wrap ((1:Int)+(↑(nn b):Int))+(8:Int))-(0:Int)).toNat (ss b (8:Nat)),())/\(Pu f d b (cP f d b (take (i64.wrap (i64.wrap ((1:Int)+(↑(nn b):Int))+(8:Int))-(0:Int)).toNat (ss b (8:Nat)))) ((0:Int),replicate (32:Nat) (0:Int))).ah (cP f d b (take (i64.wrap (i64.wrap ((1:Int)+(↑(nn b):Int))+(8:Int))-(0:Int)).toNat (ss b (8:Nat)))=cP f d b (iM b.toNat)))) ab ?_;have r:i64.wrap (i64.wrap ((1:Int)+(nn b:Int))+8)=((1+nn b+8:Nat):Int):=by
   rw[ba (a:=1+(nn b:Int)) aa aa,ba aa aa];omega
  have t:(((1+nn b+8:Nat):Int)-0).toNat=1+nn b+8:=aa;rw[r,t,PH b n];refine⟨⟨aa,aa⟩,fun _ _ h=>h,aa,⟨n,nS,?_⟩,au rfl⟩;show (iM b.toNat).length<=_;rw[<- PH b n,c5];omega
 rintro⟨Q,R,T⟩ V;revert Q R T;intro (Q:List Int) (R:List Int) (T:Int) (V:(Q,R,T)=cP f d b (iM b.toNat));rw[V];refine cl o mixed gO (fun j=>(bo (.int .i64) 48 j,cT bK 9 j)) (Pu f d b (cP f d b (iM b.toNat))) (fun g=>∃ k:Nat,k<=32/\g.1=(k:Int)/\g.2=oK (cP f d b (iM b.toNat)).1 k) (fun g=>32-g.1.toNat)
  (fun j=>(bo (.int .i64) 48 j,cT bK 9 j)) (Pu f d b (cP f d b (iM b.toNat))) (fun g=>g.2=oK (cP f d b (iM b.toNat)).1 32) (0,replicate 32 0) (c:=ar (al Tryz.f161) 12) ab ab (ay ab ab ?_) ?_ ?_
 exact⟨0,ae,rfl,rfl⟩
 ·rintro⟨i,l⟩ Z;revert i l;intro (i:Int) (l:List Int) ⟨k,hk,q,G⟩;have q:i=(k:Int):=q;have kl:l=oK (cP f d b (iM b.toNat)).1 k:=G;subst q;refine aq (X:=((decide ((k:Int)<(32:Int))=true->((4:Int)=(0:Int)->False)/\((0:Int)<=i64.wrap ((k:Int).tdiv (4:Int))/\i64.wrap ((k:Int).tdiv (4:Int))<(↑(8:Nat):Int))/\(i64.wrap ((k:Int).tdiv (4:Int))).toNat<(8:Nat)/\((4:Int)=(0:Int)->False)/\(0:Int)<=i64.wrap ((24:Int)-i64.wrap ((8:Int)*(k:Int).tmod (4:Int)))/\((0:Int)<=(k:Int)/\(k:Int)<(↑(32:Nat):Int))/\(k:Int).toNat<(32:Nat)/\(Pu f d b (cP f d b (iM b.toNat)) (i64.wrap ((k:Int)+(1:Int)),l.set (k:Int).toNat (u8.wrap (((cP f d b (iM b.toNat)).fst.getD (i64.wrap ((k:Int).tdiv (4:Int))).toNat (0:Int)).fdiv ((2:Int)^min (i64.wrap ((24:Int)-i64.wrap ((8:Int)*(k:Int).tmod (4:Int)))).toNat u32.bits))))).ah ((∃ m,m<=(32:Nat)/\i64.wrap ((k:Int)+(1:Int))=(m:Int)/\l.set (k:Int).toNat (u8.wrap (((cP f d b (iM b.toNat)).fst.getD (i64.wrap ((k:Int).tdiv (4:Int))).toNat (0:Int)).fdiv ((2:Int)^min (i64.wrap ((24:Int)-i64.wrap ((8:Int)*(k:Int).tmod (4:Int)))).toNat u32.bits)))=oK (cP f d b (iM b.toNat)).fst m)/\(32:Nat)-(i64.wrap ((k:Int)+(1:Int))).toNat<(32:Nat)-(k:Int).toNat))/\(decide ((k:Int)<(32:Int))=false->(Pu f d b (cP f d b (iM b.toNat)) ((k:Int),l)).ah (l=oK (cP f d b (iM b.toNat)).fst (32:Nat))))) ab ?_;refine⟨fun h=>?_,fun h=>au ?_⟩
  ·have C:k<32:=by have:=Odt h;omega
   have r:i64.wrap ((k:Int).tdiv 4)=((k/4:Nat):Int):=by rw[sE aa,ba aa aa];omega
   have t:i64.wrap (24-i64.wrap (8*(k:Int).tmod 4))=((24-8*(k%4):Nat):Int):=by rw[ni aa,ba (a:=8*((k:Int)%4)) aa aa,ba aa aa];omega
   rw[r,t,aS aa];simp only[aF];refine⟨ae,⟨aa,aa⟩,aa,ae,aa,⟨aa,aa⟩,C,au ⟨⟨k+1,C,rfl,?_⟩,aa⟩⟩;have ev:u8.wrap (((cP f d b (iM b.toNat)).1.getD (k/4) 0).fdiv (2^min (24-8*(k%4)) u32.bits))=WN (cP f d b (iM b.toNat)).1 k:=by have I:min (24-8*(k%4)) u32.bits=24-8*(k%4):=iU (show 24-8*(k%4)<=32 by omega);rw[I];rfl
   rw[ev,kl,oK,oK,show 32-k=(32-(k+1))+1 by omega];have:=Mz (WN (cP f d b (iM b.toNat)).1) [] k (32-(k+1));rw[show ([]:List Int).length+k=k by simp] at this;exact this
  ·have:k=32:=by have:=Odf h;omega
   rw[kl,this]
 rintro⟨Y,D⟩ z;revert Y D;intro (Y:Int) (D:List Int) (z:D=oK (cP f d b (iM b.toNat)).1 32);refine bJ o mixed _ _ ?_;refine aq (X:=(((f,d,b),D,())=((f,d,b),Fj f d b,()))) ab ?_;rw[z,Fj,bm];have e:oK (cP f d b (iM b.toNat)).1 32=WM (cP f d b (iM b.toNat)).1:=by show []++(_++[])=_;rw[bw,dG];rfl
 rw[e]
def Kl:Nat × Eng.Spec:=(161,vG dZ lb [] [.val (.arr 32 bK)] (fun ((_,_,b),_)=>(0:Int)<=b/\b<=(1152921504606846976:Int)) (fun ((d,a,b),_)=>((d,a,b),(Fj d a b,()))))
theorem ud:enters Tryz.prog 117 Tryz.f117:=ek
def O1 (a:List (List Int)) (g:Int × aH lb):St:=av Tryz.f117.ntmps 40 [(2,ao 0 0),(3,ao 8 0),(6,ag (.ro (.sl bK) a)),(7,sI .i64 a.length),(8,sI .i64 g.1)] [(8,[.ints .u32 8 g.2.1,.ints .u8 64 g.2.2.1,.v (.int .i64 g.2.2.2)]),(0,[.ints .u8 32 (replicate 32 0)])]
abbrev Rj:HL [.sl (.sl bK)]->Prop:=fun (a,_)=>length (List.flatten a)<=1099511627776/\length a<=1099511627776
theorem tw:aO Tryz.prog 117 [.sl (.sl bK)] [.val (.arr 32 bK)] dZ Rj (fun (a,_)=>(I6 (List.flatten a),())):=by
 have l:aJ Tryz.prog (aU [DG,Kl]):=aM (tv zM) (aM (tv K7) bD);refine bL (sp:=aU [DG,Kl]) ud ae ae ab ?_;rintro w E ⟨a,⟨⟩⟩;revert a;intro (a:List (List Int)) _ z;have H:(List.flatten a).length<=1099511627776:=z.1;have I:a.length<=1099511627776:=z.2;show Tr _ _ _ _ _ _ _;refine bh l mixed 3 (O1 a (0,(replicate 8 0,replicate 64 0,0))) True ?_ (fun _=>?_);refine aq (X:=((O1 a ((0:Int),replicate (8:Nat) (0:aH uK),replicate (64:Nat) (0:aH bK),(0:aH (Kd.int i64)))).ah True)) ab ?_;exact au trivial;refine cl l mixed gO (fun o=>(bo (.int .i64) 8 o,p3 lb 8 o)) (O1 a) (fun g=>∃ k:Nat,k<=a.length/\g.1=(k:Int)/\uD fD eh (List.flatten (a.take k)) g.2.1 g.2.2.1 g.2.2.2) (fun g=>a.length-g.1.toNat)
  (fun o=>(bo (.int .i64) 8 o,p3 lb 8 o)) (O1 a) (fun g=>uD fD eh (List.flatten a) g.2.1 g.2.2.1 g.2.2.2) (0,(replicate 8 0,replicate 64 0,0)) (c:=ar (al Tryz.f117) 3) ab ab (ay ab ab ?_) ?_ ?_
 exact⟨0,a8 _,rfl,XC fD eh _ _ oT⟩
 ·rintro⟨i,e,b,d⟩ A;revert i e b d;intro (i:Int) (e:List Int) (b:List Int) (d:Int) ⟨k,G,u,j⟩;have u:i=(k:Int):=u;have j:uD fD eh (List.flatten (a.take k)) e b d:=j;subst u;refine aq (X:=((decide ((k:Int)<(a.length:Int))=true->((0:Int)<=(k:Int)/\(k:Int)<(a.length:Int))/\(k:Int).toNat<a.length/\(∀ (g:Nat) (s:Sigma aH),dZ g=some s->Decidable.rec (fun h=>(fun x=>if g=(1:Nat) then some ⟨Kd.arr (64:Nat) uK,jz⟩ else none) h) (fun h=>(fun x=>some ⟨Kd.arr (8:Nat) uK,eh⟩) h) (instDecidableEqNat g (0:Nat))=some s)/\Ke ((e,b,d),a.getD (k:Int).toNat [],())/\(O1 a (i64.wrap ((k:Int)+(1:Int)),cP e b d (a.getD (k:Int).toNat []))).ah ((∃ m,m<=a.length/\i64.wrap ((k:Int)+(1:Int))=(m:Int)/\uD fD eh (take m a).flatten (cP e b d (a.getD (k:Int).toNat [])).fst (cP e b d (a.getD (k:Int).toNat [])).snd.fst (cP e b d (a.getD (k:Int).toNat [])).snd.snd)/\a.length-(i64.wrap ((k:Int)+(1:Int))).toNat<a.length-(k:Int).toNat))/\(decide ((k:Int)<(a.length:Int))=false->(O1 a ((k:Int),e,b,d)).ah (uD fD eh a.flatten e b d)))) ab ?_;refine⟨fun h=>?_,fun h=>au ?_⟩
  ·have q:k<a.length:=by have:=Odt h;omega
   have D:a.getD k []=a[k]:=by simp[bu q]
   have y:(a.take (k+1)).flatten=(a.take k).flatten++a.getD k []:=by rw[cw q,tJ,D];simp
   have n:(a.take (k+1)).flatten.length<=a.flatten.length:=by
    have:a.flatten=(a.take (k+1)).flatten++(a.drop (k+1)).flatten:=by rw[<- tJ,dO]
    rw[this,a7];omega
   have f:d=(((a.take k).flatten.length:Nat):Int):=j.1;have C:(a.take k).flatten.length+(a.getD k []).length<=1099511627776:=by rw[y,a7] at n;omega
   rw[aS aa];simp only[aF];have r:(0:Int)<=d:=by rw[f];omega
   have t:d<=(1152921504606846976:Int):=by rw[f];omega
   refine⟨⟨aa,aa⟩,q,fun _ _ h=>h,⟨r,t,?_⟩,au ⟨⟨k+1,q,rfl,?_⟩,aa⟩⟩;show (a.getD k []).length<=_;omega;rw[y];exact MT j _
  ·have:k=a.length:=by have:=Odf h;omega
   rw[this,aT] at j;exact j
 rintro⟨i,e,b,d⟩ A;revert i e b d;intro (i:Int) (e:List Int) (b:List Int) (d:Int) (j:uD fD eh (List.flatten a) e b d);refine bJ l mixed _ _ ?_;refine aq (X:=((∀ (g:Nat) (s:Sigma aH),dZ g=some s->Decidable.rec (fun h=>(fun x=>if g=(1:Nat) then some ⟨Kd.arr (64:Nat) uK,jz⟩ else none) h) (fun h=>(fun x=>some ⟨Kd.arr (8:Nat) uK,eh⟩) h) (instDecidableEqNat g (0:Nat))=some s)/\((0:Int)<=d/\d<=(1152921504606846976:Int))/\(Fj e b d,())=(I6 a.flatten,()))) ab ?_;have f:d=((a.flatten.length:Nat):Int):=j.1;have r:(0:Int)<=d:=by rw[f];omega
 have t:d<=(1152921504606846976:Int):=by rw[f];omega
 exact⟨fun _ _ h=>h,⟨r,t⟩,by rw[XD j]⟩
def ti:Nat × Eng.Spec:=(117,C8 dZ [.sl (.sl bK)] [.val (.arr 32 bK)] Rj (fun (a,_)=>(I6 (List.flatten a),())))
end sha
namespace rite
open Go.IntKind(i64)
open Go.IntKind(i64 u8)
open Go.IntKind(i64 u64 u32)
open Go.IntKind(i64 u64 u8 u32)
set_option maxHeartbeats 4000000
open hub deal
theorem Qs:enters Tryz.prog 73 Tryz.f73:=ek
def BO (q:List Int):List Int:=u8.wrap q.length::q.map u8.wrap
def pX (q:List Int) (c:List Pt):List Int:=eR (sha.I6 (List.flatten [BO q,law22.cP c]))
def Ya (q:List Int) (c:List Pt) (g:Int × Nat × List Int):St:=av Tryz.f73.ntmps 72 [(0,ag (.ro iK q)),(1,ag (.ro aQ c)),(4,ao 0 0),(5,ag (.sl 32 0 0 g.2.1 1)),(12,ag (.ro iK q)),(13,sI .i64 q.length),(14,sI .i64 g.1)] [(0,[.ints .u8 32 (replicate 32 0)]),(32,[.ints .u8 g.2.1 g.2.2])]
def dgO (c:List Pt) (l:Nat × List Int):St:=av Tryz.f73.ntmps 72 [(1,ag (.ro aQ c)),(4,ao 0 0),(5,ag (.sl 32 0 0 l.1 1))] [(0,[.ints .u8 32 (replicate 32 0)]),(32,[.ints .u8 l.1 l.2])]
def yD (q:List Int) (k:Nat):List Int:=u8.wrap q.length::(q.take k).map u8.wrap
theorem ZA (q:List Int) (k:Nat) (h:k<=q.length):(yD q k).length=k+1:=by rw[yD,bN,bZ,c5];omega
theorem Vh (q:List Int) {k:Nat} (h:k<q.length):yD q (k+1)=yD q k++[u8.wrap (q.getD k 0)]:=by rw[yD,yD,cw h,di,a2,bu h];rfl
abbrev Ri:HL [.sl iK,.sl aQ]->Prop:=fun (q,c,_)=>length q<100000/\length c<1000000
theorem SP:aO Tryz.prog 73 [.sl iK,.sl aQ] [.val (.arr 32 (.int .u8))] sha.dZ Ri (fun (q,c,_)=>(pX q c,())):=by
 have j:aJ Tryz.prog (aU [sha.ti,Xd]):=aM (fgk sha.tw) (aM (aR law22.La.AR) bD);refine bL (sp:=aU [sha.ti,Xd]) Qs ae ae ab ?_;rintro w F ⟨q,c,⟨⟩⟩;revert q c;intro (q:List Int) (c:List Pt) _ ⟨z,y⟩;have z:q.length<100000:=z;have y:c.length<1000000:=y;show Tr _ _ _ _ _ _ _;refine jQ j mixed 3 (fun b=>cT (.int .u8) 32 b) (fun l=>Ya q c (0,1,l)) (fun l=>l=yD q 0) ?_ ?_;refine aq (X:=((Ya q c (0,1,[u8.wrap (q.length:Int)])).ah ([u8.wrap (q.length:Int)]=yD q 0))) ab ?_;exact au rfl;intro l E;subst E;refine cl j mixed (fun _=>[(32,136)]) (fun b=>(bo iK 14 b,na 5 b,cT (.int .u8) 32 b)) (Ya q c) (fun g=>∃ k:Nat,k<=q.length/\g.1=(k:Int)/\g.2.1=k+1/\g.2.2=yD q k) (fun g=>q.length-g.1.toNat)
  (fun b=>(na 5 b,cT (.int .u8) 32 b)) (dgO c) (fun g=>g=(q.length+1,BO q)) (0,1,yD q 0) (c:=ar (al Tryz.f73) 3) ab ab (ay ab ab ?_) ?_ ?_
 exact⟨0,a8 _,rfl,rfl,rfl⟩
 ·rintro⟨i,n,l⟩ G;revert i n l;intro (i:Int) (n:Nat) (l:List Int) ⟨k,D,m,r,o⟩;have A:i=(k:Int):=m;have C:n=k+1:=r;have t:l=yD q k:=o;clear m r o;subst A C;have d:l.length=k+1:=by rw[t];exact ZA q k D
  refine @aq ((decide ((k:Int)<(q.length:Int))=true->(0<=(k:Int)/\(k:Int)<(q.length:Int))/\(k:Int).toNat<q.length/\0+1<=1/\k+1<=k+1/\(k+1+1)*1<=140737488355328/\k+1+1<=4611686018427387904/\(Ya q c (i64.wrap ((k:Int)+1),k+1+1,take (k+1) l++take 1 [u8.wrap (q.getD (k:Int).toNat 0)])).ah ((∃ a,a<=q.length/\i64.wrap ((k:Int)+1)=(a:Int)/\k+1+1=a+1/\take (k+1) l++take 1 [u8.wrap (q.getD (k:Int).toNat 0)]=yD q a)/\q.length-(i64.wrap ((k:Int)+1)).toNat<q.length-(k:Int).toNat))/\(decide ((k:Int)<(q.length:Int))=false->(dgO c (k+1,l)).ah ((k+1,l)=(q.length+1,BO q)))) _ ?_ ?_;kernel_rfl;refine⟨fun h=>?_,fun h=>au ?_⟩
  ·have f:k<q.length:=by have:=dec_lt h;omega
   rw[aF,aS aa];refine⟨⟨aa,aa⟩,f,ae,aI _,aa,aa,au ⟨⟨k+1,f,rfl,rfl,?_⟩,by rw[aF];omega⟩⟩;rw[Vh q f,bW aa,<- t];rfl
  ·have e:k=q.length:=by have:=bX h;omega
   rw[t,e,yD,aT];rfl
 intro g u;have u:g=(q.length+1,BO q):=u;subst u;have d:(BO q).length=q.length+1:=by rw[BO,bN,bZ]
 refine PO 5 32 (q.length+1) 1 .u8 (BO q) ab ab d ?_;refine bJ j mixed _ _ ?_;refine @aq (wc (c,())/\(∀ (g:Nat) (s:Sigma aH),sha.dZ g=some s->Decidable.rec (fun h=>(fun x=>if g=1 then some ⟨Kd.arr 64 sha.uK,sha.jz⟩ else none) h) (fun h=>(fun x=>some ⟨Kd.arr 8 sha.uK,sha.eh⟩) h) (instDecidableEqNat g 0)=some s)/\0+2<=2/\sha.Rj (take 2 [BO q,law22.cP c],())/\(sha.I6 (take 2 [BO q,law22.cP c]).flatten,())=(pX q c,())) _ ?_ ?_;kernel_rfl;refine⟨by show c.length<=_;omega,fun g s h=>h,ae,⟨?_,by show (2:Nat)<=_;omega⟩,?_⟩;show (List.flatten [BO q,law22.cP c]).length<=_;simp only[tN,List.flatten_nil,bw,a7];rw[d,DP];omega;show (sha.I6 (List.flatten [BO q,law22.cP c]),())=(pX q c,());rw[pX,bm]
def Xf:Nat × Eng.Spec:=(73,C8 sha.dZ [.sl iK,.sl aQ] [.val (.arr 32 (.int .u8))] Ri (fun (q,c,_)=>(pX q c,())))
end rite
namespace deal
open law14 poly
open Go.IntKind(i64)
open Go.IntKind(i64 u8)
open Go.IntKind(i64 u64 u32)
open Go.IntKind(i64 u64 u8 u32)
abbrev s8:HL [dR,.sl iK,.sl cy]->HO [.own aQ,.val iK]:=fun ((d,_,n,o),q,a,_)=>((nD d n o q a).1,(nD d n o q a).2,())
def jpA (d t:List Int) (n:Int) (o:List (Fp × Fp)) (b:List Dl) (f:List Int) (a:List Fr) (e:Int):St:=av Tryz.f71.ntmps 104 [(2,ag (.ro cy b)),(3,ao 0 0),(6,ag (.v (.slice none 0 0))),(7,sI .i64 0),(8,ag (.ro iK f)),(9,ag (.sl 40 0 0 a.length 4)),(10,sI .i64 e)] [(40,[.row .fr a.length a]),(0,[.ro iK d,.ro iK t,.v (.int .i64 n),.ro aQ o])]
def jpB (d t:List Int) (n:Int) (o:List (Fp × Fp)) (e:List Dl) (b:List Int) (a:List Fr):St:=av Tryz.f71.ntmps 152 [(2,ag (.ro cy e)),(3,ao 0 0),(9,ag (.sl 40 0 0 a.length 4)),(11,ag (.v (.slice none 0 0))),(28,ag (.ro iK b)),(29,sI .i64 b.length),(30,sI .i64 0)] [(40,[.row .fr a.length a]),(0,[.ro iK d,.ro iK t,.v (.int .i64 n),.ro aQ o])]
def LA (d t:List Int) (n:Int) (o:List (Fp × Fp)) (e:List Dl) (b:List Int) (a:List Fr) (g:Int × List (Fp × Fp)):St:=av Tryz.f71.ntmps 153 [(2,ag (.ro cy e)),(3,ao 0 0),(9,ag (.sl 40 0 0 a.length 4)),(11,ag (.sl 152 0 0 g.2.length 12)),(28,ag (.ro iK b)),(29,sI .i64 b.length),(30,sI .i64 g.1)] [(152,[.row aQ g.2.length g.2]),(40,[.row .fr a.length a]),(0,[.ro iK d,.ro iK t,.v (.int .i64 n),.ro aQ o])]
def Yx (d t:List Int) (n:Int) (o:List (Fp × Fp)) (e:List Dl) (b:List Int) (a:List Fr) (g:Int × List (Fp × Fp)):St:=av Tryz.f71.ntmps 449 [(2,ag (.ro cy e)),(3,ao 0 0),(9,ag (.sl 40 0 0 a.length 4)),(11,ag (.sl 433 0 0 g.2.length 12)),(28,ag (.ro iK b)),(29,sI .i64 b.length),(30,sI .i64 g.1)] [(433,[.row aQ g.2.length g.2]),(40,[.row .fr a.length a]),(0,[.ro iK d,.ro iK t,.v (.int .i64 n),.ro aQ o])]
def jpC (d t:List Int) (n:Int) (o:List (Fp × Fp)) (e:List Dl) (b:List Int) (a:List Fr) (l:List (Fp × Fp)) (k:Nat) (I:Int):St:=av Tryz.f71.ntmps 233 [(2,ag (.ro cy e)),(3,ao 0 0),(9,ag (.sl 40 0 0 a.length 4)),(11,ag (.sl 152 0 0 l.length 12)),(12,sI .i64 k),(14,sI .i64 I),(28,ag (.ro iK b)),(29,sI .i64 b.length),(30,sI .i64 k)] [(152,[.row aQ l.length l]),(40,[.row .fr a.length a]),(0,[.ro iK d,.ro iK t,.v (.int .i64 n),.ro aQ o])]
def jpD (d t:List Int) (n:Int) (o:List (Fp × Fp)) (e:List Dl) (b:List Int) (a:List Fr) (l:List (Fp × Fp)) (k:Nat) (c:List (Fp × Fp)):St:=av Tryz.f71.ntmps 417 [(2,ag (.ro cy e)),(3,ao 0 0),(9,ag (.sl 40 0 0 a.length 4)),(11,ag (.sl 152 0 0 l.length 12)),(12,sI .i64 k),(28,ag (.ro iK b)),(29,sI .i64 b.length),(30,sI .i64 k),(15,ag (.sl 377 0 0 c.length 12)),(59,ag (.v (.bool (decide ((a.length:Int)>0)))))] [(152,[.row aQ l.length l]),(377,[.row aQ c.length c]),(40,[.row .fr a.length a]),(0,[.ro iK d,.ro iK t,.v (.int .i64 n),.ro aQ o])]
def ON (d t:List Int) (n:Int) (o:List (Fp × Fp)) (e:List Dl) (b:List Int) (a:List Fr) (l:List (Fp × Fp)) (k:Nat) (m:Nat) (g:Int × List (Fp × Fp)):St:=av Tryz.f71.ntmps 417 [(2,ag (.ro cy e)),(3,ao 0 0),(9,ag (.sl 40 0 0 a.length 4)),(11,ag (.sl 152 0 0 l.length 12)),(12,sI .i64 k),(28,ag (.ro iK b)),(29,sI .i64 b.length),(30,sI .i64 k),(15,ag (.sl 377 0 0 m 12)),(60,ag (.sl 377 0 0 m 12)),(61,sI .i64 m),(62,sI .i64 g.1)] [(152,[.row aQ l.length l]),(377,[.row aQ m g.2]),(40,[.row .fr a.length a]),(0,[.ro iK d,.ro iK t,.v (.int .i64 n),.ro aQ o])]
theorem VU:aO Tryz.prog 71 [dR,.sl iK,.sl cy] [.own aQ,.val iK] bB Dr s8:=by
 have r:aJ Tryz.prog (aU [DF,YY,IA,g1.DC,uv]):=aM (aR K8) (aM (aR ac5) (aM (aR EA) (aM (aR g1.FY) (aM (aR sN) bD))));refine bL (sp:=aU [DF,YY,IA,g1.DC,uv]) Vu ae ae ab ?_;rintro w M0 ⟨⟨d,t,n,o⟩,q,a,⟨⟩⟩;revert d t n o q a;intro (d:List Int) (t:List Int) (n:Int) (o:List (Fp × Fp)) (q:List Int) (a:List Dl) _ hp;obtain⟨ho,hq,K,hn⟩:=hp;have ho:o.length<1048576:=ho;have hq:q.length<4611686018427387904:=hq;have K:a.length<4611686018427387904:=K;have hn:n<1048576:=hn;show Tr _ _ _ _ _ _ _;refine bh r mixed 2 (jpA d t n o a (cO d o q).1 (cO d o q).2.1 (cO d o q).2.2) True ?_ (fun _=>?_);refine aq (X:=(GG ((d,t,n,o),q,())/\(jpA d t n o a (cO d o q).fst (cO d o q).snd.fst (cO d o q).snd.snd).ah True)) ab ?_;exact⟨⟨ho,hq⟩,au trivial⟩;have hF:nD d n o q a=xn n a (cO d o q).1 (cO d o q).2.1 (cO d o q).2.2:=rfl;obtain⟨x4,x1⟩:=PG d o q;generalize (cO d o q).1=b at *;generalize (cO d o q).2.1=f at *;generalize (cO d o q).2.2=e at *;refine bh r mixed 4 (jpB d t n o a b f) (e=0) ?_ (fun he=>?_);refine aq (X:=(((e != 0)=true->([],e,())=s8 ((d,t,n,o),q,a,()))/\((e != 0)=false->(jpB d t n o a b f).ah (e=0)))) ab ?_;refine⟨fun h=>?_,fun h=>au (by simpa using h)⟩;show _=((nD d n o q a).1,(nD d n o q a).2,());rw[hF,xn,ai (by simpa using h)];subst he;refine Ob.AF 11 12 (.row aQ 0 []) ab ?_;refine pz (fun _=>[(152,433)]) (fun z=>(bo (.int .i64) 30 z,cT aQ 152 z)) (LA d t n o a b f) (Yw n a b f) (fun g=>b.length-g.1.toNat)
  (fun z=>(bo (.int .i64) 30 z,cT aQ 152 z)) (LA d t n o a b f) (fun g=>b.all (nP a n)=true/\g.2=jS a b f b.length) (0,[]) (c:=ar (al Tryz.f71) 6) ab ab (ay ab ab ?_) ?_ ?_
 exact⟨0,a8 _,rfl,rfl,aw⟩
 ·rintro⟨i,l⟩ Q;revert i l;intro (i:Int) (l:List (Fp × Fp)) ⟨k,hk,Z,O,E⟩;have Z:i=(k:Int):=Z;have kl:l=jS a b f k:=O;subst Z;have R:l.length<1048576:=by
   have:=Tn a b f n k hk E;rw[kl];omega
  refine bh r mixed 2 (LA d t n o a b f ((k:Int),l)) (k<b.length) ?_ (fun u=>?_)
  ·refine aq (X:=((decide ((k:Int)<(b.length:Int))=true->(LA d t n o a b f ((k:Int),l)).ah (k<b.length))/\(decide ((k:Int)<(b.length:Int))=false->(LA d t n o a b f ((k:Int),l)).ah (b.all (nP a n)=true/\l=jS a b f b.length)))) ab ?_;refine⟨fun h=>au (by have:=dec_lt h;omega),fun h=>au ?_⟩;have:k=b.length:=by have:=bX h;omega
   rw[this,aT] at E;exact⟨List.all_eq_true.2 E,by rw[kl,this]⟩
  refine mn (c:=ar (aV (ar (al Tryz.f71) 6)) 2) ab ab ?_;refine bh r mixed 2 (jpC d t n o a b f l k (hO a (b.getD (k:Int).toNat 0))) True ?_ (fun _=>?_);refine aq (X:=((0<=(k:Int)/\(k:Int)<(b.length:Int))/\(k:Int).toNat<b.length/\a.length<4611686018427387904/\(jpC d t n o a b f l k (hO a (b.getD (k:Int).toNat 0))).ah True)) ab ?_;rw[aF];exact⟨⟨aa,aa⟩,u,K,au trivial⟩;generalize hx:b.getD (k:Int).toNat 0=x;generalize V:hO a x=I;refine jQ r mixed 4 (fun z=>cT aQ 377 z) (jpD d t n o a b f l k) (fun c=>c=cS a x/\nP a n x=true) ?_ ?_
  ·refine aq (X:=((decide (I<0)=true->([],41,())=s8 ((d,t,n,o),q,a,()))/\(decide (I<0)=false->(0<=I/\I<(a.length:Int))/\I.toNat<a.length/\(((↑(a.getD I.toNat (0,[])).snd.length:Int) != n)=true->([],41,())=s8 ((d,t,n,o),q,a,()))/\(((↑(a.getD I.toNat (0,[])).snd.length:Int) != n)=false->(0<=I/\I<(a.length:Int))/\I.toNat<a.length/\pb ((a.getD I.toNat (0,[])).snd,())/\(jpD d t n o a b f l k ((a.getD I.toNat (0,[])).snd,()).fst).ah ((a.getD I.toNat (0,[])).snd=cS a x/\nP a n x=true))))) ab ?_;have hP:(a.getD I.toNat ((0:Int),([]:List (Fp × Fp)))).2=cS a x:=by rw[cS,V]
   have x2:x∈b:=by rw[<- hx,aF,a2,bu u,cx];exact dr u
   have F:nP a n x=false->([],(41:Int),())=s8 ((d,t,n,o),q,a,()):=fun hb=>by
    show _=((nD d n o q a).1,(nD d n o q a).2,());have:¬ b.all (nP a n)=true:=fun c=>by have:=List.all_eq_true.1 c x x2;rw[hb] at this;cases this
    rw[hF,xn,ak rfl,ai this]
   rw[hP];have x3:I.toNat<a.length\/I<0:=by rcases Int.lt_or_le I 0 with h|h;exact .inr h;left;rw[<- V,hO,bm,dx] at h ⊢;split at h;rename_i C;rw[ak C];omega;exact absurd h aa
   refine⟨fun h=>F (by rw[nP,V,cp (by have:=Odt h;omega)];rfl),fun h=>?_⟩;have h0:0<=I:=by have:=Odf h;omega
   have h1:I.toNat<a.length:=aa;refine⟨⟨h0,aa⟩,h1,fun C=>F ?_,fun C=>?_⟩
   ·have C:¬ ((cS a x).length:Int)=n:=by simpa using C
    rw[nP,cp C,oL]
   ·have C:((cS a x).length:Int)=n:=by simpa using C
    exact⟨⟨h0,aa⟩,h1,by show (cS a x).length<_;omega,au ⟨rfl,by rw[nP,V,cg h0,cg C];rfl⟩⟩
  intro (c:List (Fp × Fp)) ⟨hc,A⟩;have N:b.getD k 0=x:=by rw[<- hx,aF]
  have x0:c.length<1048576:=by rw[nP,aX] at A;have:=Odt A.2;rw[hc];omega
  have H:∀ Y:List (Fp × Fp),Y=ik l (jW f k c)->Yw n a b f (((k+1:Nat):Int),Y):=fun Y e=>by refine⟨k+1,u,rfl,?_,?_⟩;show Y=ik (jS a b f k) (jW f k (cS a (b.getD k 0)));rw[e,N,kl,hc];intro y W;rw[cw u,lA,gb] at W;rcases W with W|rfl;exact E y W;rw[a2,bu u,cx] at N;rw[N];exact A
  refine PM (c:=ar (cV (ar (aV (ar (al Tryz.f71) 6)) 2)) 6) (decide ((f.length:Int)>0)) ab ab ab (fun ht=>?_) (fun ht=>?_)
  ·have T:f.length=b.length:=by have:=Odt ht;have:=x1 rfl;omega
   refine bh r mixed 1 (ON d t n o a b f l k c.length (0,c)) True ?_ (fun _=>?_);refine aq (X:=((ON d t n o a b f l k c.length (0,c)).ah True)) ab ?_;exact au trivial;refine cl r mixed gO (fun z=>(bo (.int .i64) 62 z,cT aQ 377 z)) (ON d t n o a b f l k c.length) (ad7 c (fun p=>g1.cZ p (f.getD k 0))) (fun g=>c.length-g.1.toNat)
    (fun z=>(bo (.int .i64) 62 z,cT aQ 377 z)) (ON d t n o a b f l k c.length) (fun g=>g.2=c.map (fun p=>g1.cZ p (f.getD k 0))) (0,c) (c:=ar (fX (ar (cV (ar (aV (ar (al Tryz.f71) 6)) 2)) 6)) 1) ab ab (ay ab ab ?_) ?_ ?_
   exact⟨0,a8 _,rfl,rfl⟩
   ·rintro⟨j,s⟩ Q;revert j s;intro (j:Int) (s:List (Fp × Fp)) ⟨m,hm,ej,ec⟩;have ej:j=(m:Int):=ej;have U:s=ye (fun p=>g1.cZ p (f.getD k 0)) c m:=ec;subst ej;refine @aq ((decide ((m:Int)<(c.length:Int))=true->(0<=(m:Int)/\(m:Int)<(c.length:Int))/\(m:Int).toNat<c.length/\(0<=(k:Int)/\(k:Int)<(f.length:Int))/\(k:Int).toNat<f.length/\True/\(0<=(m:Int)/\(m:Int)<(c.length:Int))/\(m:Int).toNat<c.length/\(ON d t n o a b f l k c.length (i64.wrap ((m:Int)+1),s.set (m:Int).toNat (g1.cZ (s.getD (m:Int).toNat ((0:Fp),(0:Fp))) (f.getD (k:Int).toNat (0:Fr))))).ah (ad7 c (fun p=>g1.cZ p (f.getD k (0:Fr))) (i64.wrap ((m:Int)+1),s.set (m:Int).toNat (g1.cZ (s.getD (m:Int).toNat ((0:Fp),(0:Fp))) (f.getD (k:Int).toNat (0:Fr))))/\c.length-(i64.wrap ((m:Int)+1)).toNat<c.length-(m:Int).toNat))/\(decide ((m:Int)<(c.length:Int))=false->(ON d t n o a b f l k c.length ((m:Int),s)).ah (s=List.map (fun p=>g1.cZ p (f.getD k (0:Fr))) c))) _ ?_ ?_;kernel_rfl;rw[aF,aF];refine⟨fun h=>?_,fun h=>au ?_⟩
    ·have D:m<c.length:=by have:=dec_lt h;omega
     rw[aS aa];refine⟨⟨aa,aa⟩,D,⟨aa,aa⟩,aa,trivial,⟨aa,aa⟩,D,au ⟨⟨m+1,D,rfl,?_⟩,by rw[aF];omega⟩⟩;show s.set m _=_;rw[U];exact Tx (fun p=>g1.cZ p (f.getD k 0)) c D
    ·have:m=c.length:=by have:=bX h;omega
     rw[U,ye,this,aT,oG,bw]
   rintro⟨j,s⟩ Q;revert j s;intro (j:Int) (s:List (Fp × Fp)) Q;have U:s=c.map (fun p=>g1.cZ p (f.getD k 0)):=Q;have G:s.length=c.length:=by rw[U,bZ]
   have L:s=jW f k c:=by rw[jW,ai aa,U]
   refine bh r mixed 1 (Yx d t n o a b f ((k:Int),ik (l.take l.length) (s.take c.length))) True ?_ (fun _=>?_);refine aq (X:=(0+l.length<=l.length/\0+c.length<=c.length/\Dt (take l.length l,take c.length s,())/\(Yx d t n o a b f ((k:Int),ik (take l.length l) (take c.length s))).ah True)) ab ?_;rw[<- G,aT,aT];exact⟨aa,aa,⟨R,by show s.length<_;omega⟩,au trivial⟩;rw[<- G,aT,aT];refine kk ?_;refine bJ r mixed _ _ ?_;refine @aq ((LA d t n o a b f (i64.wrap ((k:Int)+1),ik l s)).ah (Yw n a b f (i64.wrap ((k:Int)+1),ik l s)/\b.length-(i64.wrap ((k:Int)+1)).toNat<b.length-(k:Int).toNat)) _ ?_ ?_;kernel_rfl;rw[aS aa];exact au ⟨H _ (by rw[L]),by rw[aF,aF];omega⟩
  ·have T:f.length=0:=by have:=Odf ht;omega
   have L:c=jW f k c:=by rw[jW,ak T]
   refine bh r mixed 1 (Yx d t n o a b f ((k:Int),ik (l.take l.length) (c.take c.length))) True ?_ (fun _=>?_);refine aq (X:=(0+l.length<=l.length/\0+c.length<=c.length/\Dt (take l.length l,take c.length c,())/\(Yx d t n o a b f ((k:Int),ik (take l.length l) (take c.length c))).ah True)) ab ?_;rw[aT,aT];exact⟨aa,aa,⟨R,x0⟩,au trivial⟩;rw[aT,aT];refine kk ?_;refine bJ r mixed _ _ ?_;refine @aq ((LA d t n o a b f (i64.wrap ((k:Int)+1),ik l c)).ah (Yw n a b f (i64.wrap ((k:Int)+1),ik l c)/\b.length-(i64.wrap ((k:Int)+1)).toNat<b.length-(k:Int).toNat)) _ ?_ ?_;kernel_rfl;rw[aS aa];exact au ⟨H _ (by rw[<- L]),by rw[aF,aF];omega⟩
 rintro⟨i,l⟩ Q;revert i l;intro (i:Int) (l:List (Fp × Fp)) ⟨P,O⟩;have O:l=jS a b f b.length:=O;refine bJ r mixed _ _ ?_;refine @aq (0+l.length<=l.length/\(take l.length l,0,())=s8 ((d,t,n,o),q,a,())) _ ?_ ?_;kernel_rfl;refine⟨aa,?_⟩;rw[aT];show _=((nD d n o q a).1,(nD d n o q a).2,());rw[hF,xn,ak rfl,ak P,O]
open law22
theorem Vq:enters Tryz.prog 155 Tryz.f155:=ek
abbrev Pf:Type:=Int × Int × Fr
def nX (x t:Int) (c:List (Fp × Fp)) (p:Pf):Bool:=eR (p.1==x&&(p.2.1==t&&sm c t p.2.2))
abbrev r4:Int->List (Fp × Fp)->Prop:=fun t c=>length c<4611686018427387904/\fy t
theorem Z4:aO Tryz.prog 155 [cG,.ptr iK,.ptr iK,.ptr (.sl aQ)] [.val .bool] bB (fun (_,_,t,c,_)=>r4 t c) (fun (p,x,t,c,_)=>(nX x t c p,())):=by
 refine bg (sp:=aU [Um]) (aM (aR Ox) bD) mixed Vq ae ae ?_;rintro w i ⟨⟨a,b,d⟩,x,t,c,⟨⟩⟩;revert a b d x t c;intro (a:Int) (b:Int) (d:Fr) (x:Int) (t:Int) (c:List (Fp × Fp)) _ h;refine aq (X:=(0<[x].length/\((a==x)=true->0<[t].length/\((b==t)=true->0<[c].length/\0<[t].length/\vk (c,t,d,())/\(sm c t d,())=(nX x t c (a,b,d),()))/\((b==t)=false->(false,())=(nX x t c (a,b,d),())))/\((a==x)=false->(false,())=(nX x t c (a,b,d),())))) ab ?_;have e:nX x t c (a,b,d)=(a==x&&(b==t&&sm c t d)):=by rw[nX,bm]
 rw[e];refine⟨jY,fun f=>⟨jY,fun g=>⟨jY,jY,h,by rw[f,g];rfl⟩,fun g=>by rw[f,g];rfl⟩,fun f=>by rw[f];rfl⟩
def Ur:Nat × Eng.Spec:=(155,aK [cG,.ptr iK,.ptr iK,.ptr (.sl aQ)] [.val .bool] (fun (_,_,t,c,_)=>r4 t c) (fun (p,x,t,c,_)=>(nX x t c p,())))
abbrev BN:Kd:=.cap (.cap (.cap (.fn 155) iK) iK) (.sl aQ)
theorem ZM:enters Tryz.prog 175 Tryz.f175:=ek
def QR (a:List Pf) (x t:Int) (c:List (Fp × Fp)) (g:Int):St:=av Tryz.f175.ntmps 32 [(0,ag (.ro cG a)),(1,ag (.fv BN ((((),x),t),c))),(7,sI .i64 a.length),(8,sI .i64 g)] []
theorem acN:aO Tryz.prog 175 [.sl cG,BN] [.val iK] bB (fun (a,(((_,_),t),c),_)=>length a<4611686018427387904/\r4 t c) (fun (a,(((_,x),t),c),_)=>(dx (nX x t c) a,())):=by
 have d:aJ Tryz.prog (aU [Ur]):=aM (aR Z4) bD;refine bL (sp:=aU [Ur]) ZM ae ae ab ?_;rintro w q ⟨a,⟨⟨⟨⟨⟩,x⟩,t⟩,c⟩,⟨⟩⟩;revert a x t c;intro (a:List Pf) (c:List (Fp × Fp)) (t:Int) (x:Int) _ ⟨l,n⟩;have l:a.length<4611686018427387904:=l;show Tr _ _ _ _ _ _ _;refine bh d mixed 2 (QR a x t c 0) True ?_ (fun _=>?_);refine aq (X:=((QR a x t c 0).ah True)) ab ?_;exact au trivial;refine cl d mixed gO (fun o=>bo (.int .i64) 8 o) (QR a x t c) (fun g=>∃ k:Nat,k<=a.length/\g=(k:Int)/\k<=a.findIdx (nX x t c)) (fun g=>a.length-g.toNat)
  (fun _=>()) (fun _=>av Tryz.f175.ntmps 32 [] []) (fun _=>a.length<=a.findIdx (nX x t c)) 0 (c:=ar (al Tryz.f175) 2) ab ab (ay ab ab ?_) ?_ ?_
 exact⟨0,a8 _,rfl,a8 _⟩
 ·intro (i:Int) ⟨k,r,m,f⟩;subst m;refine aq (X:=((decide ((k:Int)<(a.length:Int))=true->(0<=(k:Int)/\(k:Int)<(a.length:Int))/\(k:Int).toNat<a.length/\r4 t c/\(nX x t c (a.getD (k:Int).toNat (0,0,(0:Fr)))=true->((k:Int),())=(dx (nX x t c) a,()))/\(nX x t c (a.getD (k:Int).toNat (0,0,(0:Fr)))=false->(QR a x t c (i64.wrap ((k:Int)+1))).ah ((∃ e,e<=a.length/\i64.wrap ((k:Int)+1)=(e:Int)/\e<=List.findIdx (nX x t c) a)/\a.length-(i64.wrap ((k:Int)+1)).toNat<a.length-(k:Int).toNat)))/\(decide ((k:Int)<(a.length:Int))=false->(av Tryz.f175.ntmps 32 [] []).ah (a.length<=List.findIdx (nX x t c) a)))) ab ?_;rw[aF];refine⟨fun h=>?_,fun h=>au (by have:=bX h;omega)⟩;have b:k<a.length:=by have:=dec_lt h;omega
  rw[aS aa];refine⟨⟨aa,aa⟩,b,n,fun j=>?_,fun j=>au ⟨⟨k+1,b,rfl,q7 ((0:Int),(0:Int),(0:Fr)) b f (by exact j)⟩,by rw[aF];omega⟩⟩;show ((k:Int),())=(dx _ a,());rw[vg ((0:Int),(0:Int),(0:Fr)) b f (by exact j)]
 rintro⟨⟩ (f:_<=_);refine bJ d mixed _ _ ?_;refine aq (X:=(((-1:Int),())=(dx (nX x t c) a,()))) ab ?_;show _=(dx _ a,());rw[sW f]
def agb:Nat × Eng.Spec:=(175,aK [.sl cG,BN] [.val iK] (fun (a,(((_,_),t),c),_)=>length a<4611686018427387904/\r4 t c) (fun (a,(((_,x),t),c),_)=>(dx (nX x t c) a,())))
theorem ZI:enters Tryz.prog 154 Tryz.f154:=ek
def qt (a:List Pf) (x t:Int) (c:List (Fp × Fp)):Bool:=eR (a.any (nX x t c))
theorem acH:aO Tryz.prog 154 [.sl cG,BN] [.val .bool] bB (fun (a,(((_,_),t),c),_)=>length a<4611686018427387904/\r4 t c) (fun (a,(((_,x),t),c),_)=>(qt a x t c,())):=by
 refine bg (sp:=aU [agb]) (aM (aR acN) bD) mixed ZI ae ae ?_;rintro w g ⟨a,⟨⟨⟨⟨⟩,x⟩,t⟩,c⟩,⟨⟩⟩;revert a x t c;intro (a:List Pf) (c:List (Fp × Fp)) (t:Int) (x:Int) _ d;refine aq (X:=((a.length<4611686018427387904/\r4 t c)/\(decide (dx (nX x t c) a>=0),())=(qt a x t c,()))) ab ?_;refine⟨d,?_⟩;show (decide ((if a.findIdx (nX x t c)<a.length then ((a.findIdx (nX x t c):Nat):Int) else -1)>=0),())=(qt a x t c,());rw[qt,bm];by_cases h:a.findIdx (nX x t c)<a.length;have b:a.any (nX x t c)=true:=List.any_eq_true.2 ⟨_,dr h,wG⟩;rw[ak h,b,cg aa]
 ·have b:a.any (nX x t c)=false:=by
   cases e:a.any (nX x t c) with
   | false=>rfl
   | true =>obtain⟨y,f,d⟩:=List.any_eq_true.1 e;exact absurd (wD ⟨y,f,d⟩) h
  rw[ai h,b];rfl
def Y1:Nat × Eng.Spec:=(154,aK [.sl cG,BN] [.val .bool] (fun (a,(((_,_),t),c),_)=>length a<4611686018427387904/\r4 t c) (fun (a,(((_,x),t),c),_)=>(qt a x t c,())))
abbrev cB:Kd:=.pair iK (.sl iK)
abbrev oh:Type:=Int × List Int
def od (t:List Int) (x:Int):List oh->List Int->List Int
 | [],by'=>by'
 | f::a,by'=>od t x a (if f.1∈t/\f.1∉by'/\x∈f.2 then by'++[f.1] else by')
theorem Kw (t:List Int) (x:Int) {a:List oh} {k:Nat} (l:List Int) (h:k<a.length):od t x (a.drop k) l=od t x (a.drop (k+1)) (if (a.getD k ((0:Int),[])).1∈t/\(a.getD k ((0:Int),[])).1∉l/\x∈(a.getD k ((0:Int),[])).2 then l++[(a.getD k ((0:Int),[])).1] else l):=by
 have b:a.getD k ((0:Int),[])=a[k]:=by rw[a2,bu h,cx]
 rw[lW h,b];rfl
theorem Lb {a:List oh} {k:Nat} (h:k<a.length):a.getD k ((0:Int),[])∈a:=by rw[a2,bu h,cx];exact dr h
theorem ZF:enters Tryz.prog 153 Tryz.f153:=ek
abbrev GB:HL [dR,iK,.sl cB]->Prop:=fun ((_,t,_,_),_,a,_)=>length t<1048576/\length a<1048576/\∀ f∈(a:List oh),f.2.length<4611686018427387904
abbrev L2:HL [dR,iK,.sl cB]->HO [.own iK]:=fun ((_,t,_,_),x,a,_)=>(od t x a [],())
def mD (d t:List Int) (n:Int) (o:List (Fp × Fp)) (x:Int) (a:List oh) (g:Int × Bool × Nat × List Int):St:=av Tryz.f153.ntmps 48 [(1,sI .i64 x),(3,ao 0 0),(7,bif g.2.1 then ag (.v (.slice none 0 0)) else ag (.sl 40 0 0 g.2.2.1 1)),(10,ag (.ro cB a)),(11,sI .i64 a.length),(12,sI .i64 g.1)] ((0,[.ro iK d,.ro iK t,.v (.int .i64 n),.ro aQ o])::(bif g.2.1 then [] else [(40,[.ints .i64 g.2.2.1 g.2.2.2])]))
def BA (t:List Int) (x:Int) (a:List oh) (g:Int × Bool × Nat × List Int):Prop:=∃ k:Nat,k<=a.length/\g.1=(k:Int)/\od t x (a.drop k) g.2.2.2=od t x a []/\g.2.2.1=g.2.2.2.length/\(g.2.1=true->g.2.2.2=[])/\g.2.2.2.length<=k
def acO (t:List Int) (x:Int) (a:List oh) (g:Int × Bool × Nat × List Int):Prop:=g.2.2.2=od t x a []/\g.2.2.1=g.2.2.2.length/\(g.2.1=true->g.2.2.2=[])
theorem acz:aO Tryz.prog 153 [dR,iK,.sl cB] [.own iK] bB GB L2:=by
 have E:aJ Tryz.prog (aU [ku]):=aM (aR l7) bD;refine bL (sp:=aU [ku]) ZF ae ae ab ?_;rintro w V ⟨⟨d,t,n,o⟩,x,a,⟨⟩⟩;revert d t n o x a;intro (d:List Int) (t:List Int) (n:Int) (o:List (Fp × Fp)) (x:Int) (a:List oh) _ T;obtain⟨N,G,z⟩:=T;have N:t.length<1048576:=N;have G:a.length<1048576:=G;have z:∀ f∈a,f.2.length<4611686018427387904:=z;show Tr _ _ _ _ _ _ _;refine bh E mixed 3 (mD d t n o x a (0,true,0,[])) True ?_ (fun _=>?_);refine aq (X:=((mD d t n o x a (0,true,0,[])).ah True)) ab ?_;exact au trivial;refine cl E mixed (fun s=>[(40,rdJ 40 7 s)]) (fun s=>(bo iK 12 s,Pj 7 s,na 7 s,cT iK 40 s)) (mD d t n o x a) (BA t x a) (fun g=>a.length-g.1.toNat)
  (fun s=>(bo iK 12 s,Pj 7 s,na 7 s,cT iK 40 s)) (mD d t n o x a) (acO t x a) (0,true,0,[]) (c:=ar (al Tryz.f153) 3) ab ab (ay ab ab ?_) ?_ ?_
 exact⟨0,a8 _,rfl,rfl,rfl,fun _=>rfl,aI _⟩
 ·rintro⟨i,e,m,l⟩ W;revert i l;intro (i:Int) (l:List Int) ⟨k,Y,H,A,Q,P,F⟩;have H:i=(k:Int):=H;have A:od t x (a.drop k) l=od t x a []:=A;have L:m=l.length:=Q;have F:l.length<=k:=F;subst H;cases e with
  | true =>
   have K:l=[]:=P rfl;subst K;have R:m=0:=L;subst R;refine aq (X:=((decide ((k:Int)<(a.length:Int))=true->(0<=(k:Int)/\(k:Int)<(a.length:Int))/\(k:Int).toNat<a.length/\g8 (t,(a.getD (k:Int).toNat (0,[])).fst,())/\(decide ((a.getD (k:Int).toNat (0,[])).fst∈t)=true->g8 ([],(a.getD (k:Int).toNat (0,[])).fst,())/\((!decide ((a.getD (k:Int).toNat (0,[])).fst∈[]))=true->g8 ((a.getD (k:Int).toNat (0,[])).snd,x,())/\(decide (x∈(a.getD (k:Int).toNat (0,[])).snd)=true->0+1<=1/\1*8<=140737488355328/\1<=4611686018427387904/\(mD d t n o x a (i64.wrap ((k:Int)+1),false,1,[(a.getD (k:Int).toNat (0,[])).fst])).ah (BA t x a (i64.wrap ((k:Int)+1),false,1,[(a.getD (k:Int).toNat (0,[])).fst])/\a.length-(i64.wrap ((k:Int)+1)).toNat<a.length-(k:Int).toNat))/\(decide (x∈(a.getD (k:Int).toNat (0,[])).snd)=false->(mD d t n o x a (i64.wrap ((k:Int)+1),true,0,[])).ah (BA t x a (i64.wrap ((k:Int)+1),true,0,[])/\a.length-(i64.wrap ((k:Int)+1)).toNat<a.length-(k:Int).toNat)))/\((!decide ((a.getD (k:Int).toNat (0,[])).fst∈[]))=false->(mD d t n o x a (i64.wrap ((k:Int)+1),true,0,[])).ah (BA t x a (i64.wrap ((k:Int)+1),true,0,[])/\a.length-(i64.wrap ((k:Int)+1)).toNat<a.length-(k:Int).toNat)))/\(decide ((a.getD (k:Int).toNat (0,[])).fst∈t)=false->(mD d t n o x a (i64.wrap ((k:Int)+1),true,0,[])).ah (BA t x a (i64.wrap ((k:Int)+1),true,0,[])/\a.length-(i64.wrap ((k:Int)+1)).toNat<a.length-(k:Int).toNat)))/\(decide ((k:Int)<(a.length:Int))=false->(mD d t n o x a ((k:Int),true,0,[])).ah (acO t x a ((k:Int),true,0,[]))))) ab ?_;rw[aF];refine⟨fun h=>?_,fun h=>au ?_⟩
   ·have b:k<a.length:=by have:=dec_lt h;omega
    have q:a.length-((k+1:Nat):Int).toNat<a.length-(k:Int).toNat:=by rw[aF,aF];omega
    have j:=Kw t x [] b;rw[A] at j;have D:=z _ (Lb b);rw[aS aa];have r:¬ ((a.getD k ((0:Int),[])).1∈t/\(a.getD k ((0:Int),[])).1∉([]:List Int)/\x∈(a.getD k ((0:Int),[])).2)->BA t x a (((k+1:Nat):Int),true,0,[]):=fun I=>by rw[ai I] at j;exact⟨k+1,b,rfl,j.symm,rfl,fun _=>rfl,a8 _⟩
    refine⟨⟨aa,aa⟩,b,by show t.length<_;omega,fun u=>⟨by show (0:Nat)<4611686018427387904;decide,fun _=>⟨D,fun y=>⟨ae,ae,ae,au ⟨?_,q⟩⟩,fun y=>au ⟨r fun c=>Odf y c.2.2,q⟩⟩,fun C=>absurd C aw⟩,fun u=>au ⟨r fun c=>Odf u c.1,q⟩⟩;rw[ak ⟨Odt u,aw,Odt y⟩] at j;exact⟨k+1,b,rfl,j.symm,rfl,fun h=>(by cases h),by show 1<=k+1;omega⟩
   ·have:k=a.length:=by have:=bX h;omega
    rw[this,oG] at A;exact⟨A,rfl,fun _=>rfl⟩
  | false =>
   refine aq (X:=((decide ((k:Int)<(a.length:Int))=true->(0<=(k:Int)/\(k:Int)<(a.length:Int))/\(k:Int).toNat<a.length/\g8 (t,(a.getD (k:Int).toNat (0,[])).fst,())/\(decide ((a.getD (k:Int).toNat (0,[])).fst∈t)=true->0+m<=m/\g8 (take m l,(a.getD (k:Int).toNat (0,[])).fst,())/\((!decide ((a.getD (k:Int).toNat (0,[])).fst∈take m l))=true->g8 ((a.getD (k:Int).toNat (0,[])).snd,x,())/\(decide (x∈(a.getD (k:Int).toNat (0,[])).snd)=true->0+1<=1/\m<=m/\(m+1)*8<=140737488355328/\m+1<=4611686018427387904/\(mD d t n o x a (i64.wrap ((k:Int)+1),false,m+1,take m l++take 1 [(a.getD (k:Int).toNat (0,[])).fst])).ah (BA t x a (i64.wrap ((k:Int)+1),false,m+1,take m l++take 1 [(a.getD (k:Int).toNat (0,[])).fst])/\a.length-(i64.wrap ((k:Int)+1)).toNat<a.length-(k:Int).toNat))/\(decide (x∈(a.getD (k:Int).toNat (0,[])).snd)=false->(mD d t n o x a (i64.wrap ((k:Int)+1),false,m,l)).ah (BA t x a (i64.wrap ((k:Int)+1),false,m,l)/\a.length-(i64.wrap ((k:Int)+1)).toNat<a.length-(k:Int).toNat)))/\((!decide ((a.getD (k:Int).toNat (0,[])).fst∈take m l))=false->(mD d t n o x a (i64.wrap ((k:Int)+1),false,m,l)).ah (BA t x a (i64.wrap ((k:Int)+1),false,m,l)/\a.length-(i64.wrap ((k:Int)+1)).toNat<a.length-(k:Int).toNat)))/\(decide ((a.getD (k:Int).toNat (0,[])).fst∈t)=false->(mD d t n o x a (i64.wrap ((k:Int)+1),false,m,l)).ah (BA t x a (i64.wrap ((k:Int)+1),false,m,l)/\a.length-(i64.wrap ((k:Int)+1)).toNat<a.length-(k:Int).toNat)))/\(decide ((k:Int)<(a.length:Int))=false->(mD d t n o x a ((k:Int),false,m,l)).ah (acO t x a ((k:Int),false,m,l))))) ab ?_;rw[aF];refine⟨fun h=>?_,fun h=>au ?_⟩
   ·have b:k<a.length:=by have:=dec_lt h;omega
    have q:a.length-((k+1:Nat):Int).toNat<a.length-(k:Int).toNat:=by rw[aF,aF];omega
    have j:=Kw t x l b;rw[A] at j;have D:=z _ (Lb b);simp only[aS (show k<9223372036854775807 by omega),L,aT];have r:¬ ((a.getD k ((0:Int),[])).1∈t/\(a.getD k ((0:Int),[])).1∉l/\x∈(a.getD k ((0:Int),[])).2)->BA t x a (((k+1:Nat):Int),false,l.length,l):=fun I=>by rw[ai I] at j;exact⟨k+1,b,rfl,j.symm,rfl,fun h=>(by cases h),by show l.length<=k+1;omega⟩
    refine⟨⟨aa,aa⟩,b,by show t.length<_;omega,fun u=>⟨aa,by show l.length<_;omega,fun C=>⟨D,fun y=>⟨ae,aa,aa,aa,au ⟨?_,q⟩⟩,fun y=>au ⟨r fun c=>Odf y c.2.2,q⟩⟩,fun C=>au ⟨r fun c=>c.2.1 (by simpa using C),q⟩⟩,fun u=>au ⟨r fun c=>Odf u c.1,q⟩⟩;rw[ak ⟨Odt u,by simpa using C,Odt y⟩] at j;exact⟨k+1,b,rfl,j.symm,by show l.length+1=(l++[(a.getD k ((0:Int),[])).1]).length;simp,fun h=>(by cases h),by show (l++[(a.getD k ((0:Int),[])).1]).length<=k+1;simp;omega⟩
   ·have:k=a.length:=by have:=bX h;omega
    rw[this,oG] at A;exact⟨A,L,fun h=>(by cases h)⟩
 rintro⟨i,e,m,l⟩ Z;revert i l;intro (i:Int) (l:List Int) ⟨u,C,y⟩;have O:l=od t x a []:=u;have U:m=l.length:=C;refine bJ E mixed _ _ ?_;cases e with
 | true =>have K:l=[]:=y rfl;refine aq (X:=(([],())=L2 ((d,t,n,o),x,a,()))) ab ?_;show _=(od t x a [],());rw[<- O,K]
 | false =>refine aq (X:=(0+m<=m/\(take m l,())=L2 ((d,t,n,o),x,a,()))) ab ?_;rw[U,aT];exact⟨aa,by show _=(od t x a [],());rw[O]⟩
def nu (t:List Int) (x:Int) (a:List oh):List Int:=eR (od t x a [])
theorem ac3:aO Tryz.prog 153 [dR,iK,.sl cB] [.val (.sl iK)] bB GB (fun ((_,t,_,_),x,a,_)=>(nu t x a,())):=aO.out acz.AR fun ((_,t,_,_),x,a,_)=>by show (nu t x a,())=(od t x a [],());rw[nu,bm]
def YV:Nat × Eng.Spec:=(153,aK [dR,iK,.sl cB] [.val (.sl iK)] GB (fun ((_,t,_,_),x,a,_)=>(nu t x a,())))
theorem ac4:aO Tryz.prog 109 [.sl cy,FH] [.val iK] bB (fun (a,_,_)=>length a<4611686018427387904) (fun (a,(_,x),_)=>(hO a x,())):=acM.out fun (a,(_,x),_)=>by show (hO a x,())=(dx (fun d:Dl=>d.1==x) a,());rw[hO,bm]
def YX:Nat × Eng.Spec:=(109,aK [.sl cy,FH] [.val iK] (fun (a,_,_)=>length a<4611686018427387904) (fun (a,(_,x),_)=>(hO a x,())))
theorem Vv:enters Tryz.prog 112 Tryz.f112:=ek
def pH (t:List Int) (n x:Int) (a:List Dl) (b:List oh) (d:List Pf):Bool:=nP a n x&&(decide (((nu t x b).length:Int)<n)&&(nu t x b).all fun y=>qt d x y (cS a x))
abbrev yY:HL [dR,iK,.sl cy,.sl cB,.sl cG]->Prop:=fun ((_,t,n,_),_,ds,fs,ps,_)=>(length t<1048576/\length fs<1048576/\(∀ f∈(fs:List oh),f.2.length<4611686018427387904))/\length ds<4611686018427387904/\length ps<4611686018427387904/\(∀ y∈(t:List Int),fy y)/\n<1048576
abbrev ta:HL [dR,iK,.sl cy,.sl cB,.sl cG]->HO [.val .bool]:=fun ((_,t,n,_),x,a,b,d,_)=>(pH t n x a b d,())
def leA (d t:List Int) (n:Int) (o:List (Fp × Fp)) (x:Int) (a:List Dl) (b:List oh) (e:List Pf) (I:Int):St:=av Tryz.f112.ntmps 56 [(2,ag (.ro cy a)),(3,ag (.ro cB b)),(4,ag (.ro cG e)),(5,ao 0 0),(6,ao 8 0),(11,sI .i64 I)] [(8,[.v (.int .i64 x)]),(0,[.ro iK d,.ro iK t,.v (.int .i64 n),.ro aQ o])]
def leB (d t:List Int) (n:Int) (o:List (Fp × Fp)) (x:Int) (a:List oh) (b:List Pf) (c:List (Fp × Fp)):St:=av Tryz.f112.ntmps 216 [(3,ag (.ro cB a)),(4,ag (.ro cG b)),(5,ao 0 0),(6,ao 8 0),(12,ao 200 0)] [(200,[.ro aQ c]),(8,[.v (.int .i64 x)]),(0,[.ro iK d,.ro iK t,.v (.int .i64 n),.ro aQ o])]
def leC (d t:List Int) (n:Int) (o:List (Fp × Fp)) (x:Int) (a:List Pf) (c:List (Fp × Fp)) (by':List Int):St:=av Tryz.f112.ntmps 216 [(4,ag (.ro cG a)),(6,ao 8 0),(12,ao 200 0),(13,ag (.ro iK by'))] [(200,[.ro aQ c]),(8,[.v (.int .i64 x)])]
def OQ (x:Int) (a:List Pf) (c:List (Fp × Fp)) (by':List Int) (g:Int):St:=av Tryz.f112.ntmps 216 [(4,ag (.ro cG a)),(6,ao 8 0),(12,ao 200 0),(47,ag (.ro iK by')),(48,sI .i64 by'.length),(49,sI .i64 g)] [(200,[.ro aQ c]),(8,[.v (.int .i64 x)])]
theorem NQ (t:List Int) (x:Int):∀ (a:List oh) (l:List Int),(∀ y∈l,y∈t)->∀ y∈od t x a l,y∈t
 | [],l,h=>h
 | f::a,l,h=>NQ t x a _ fun y hy=>by split at hy;rename_i b;rcases List.mem_append.1 hy with hy|hy;exact h y hy;rw[gb] at hy;rw[hy];exact b.1;exact h y hy
theorem yu (t:List Int) (x:Int):∀ (a:List oh) (l:List Int),(od t x a l).length<=l.length+a.length
 | [],l=>aI _
 | f::a,l=>by
  have:=yu t x a (if f.1∈t/\f.1∉l/\x∈f.2 then l++[f.1] else l);have b:(if f.1∈t/\f.1∉l/\x∈f.2 then l++[f.1] else l).length<=l.length+1:=by split<;>simp
  show (od t x a _).length<=_;simp only[bN];omega
theorem Z8:aO Tryz.prog 112 [dR,iK,.sl cy,.sl cB,.sl cG] [.val .bool] bB yY ta:=by
 have m:aJ Tryz.prog (aU [YX,YV,Y1]):=aM (aR ac4) (aM (aR ac3) (aM (aR acH) bD));refine bL (sp:=aU [YX,YV,Y1]) Vv ae ae ab ?_;rintro w M0 ⟨⟨d,t,n,o⟩,x,a,e,b,⟨⟩⟩;revert d t n o x a e b;intro (d:List Int) (t:List Int) (n:Int) (o:List (Fp × Fp)) (x:Int) (a:List Dl) (e:List oh) (b:List Pf) _ hp;obtain⟨⟨P,A,O⟩,z,C,Q,V⟩:=hp;have P:t.length<1048576:=P;have A:e.length<1048576:=A;have z:a.length<4611686018427387904:=z;have C:b.length<4611686018427387904:=C;have V:n<1048576:=V;show Tr _ _ _ _ _ _ _;refine bh m mixed 2 (leA d t n o x a e b (hO a x)) True ?_ (fun _=>?_);refine aq (X:=(a.length<4611686018427387904/\(leA d t n o x a e b (hO a x)).ah True)) ab ?_;exact⟨z,au trivial⟩;generalize G:hO a x=I;have T:I.toNat<a.length\/I<0:=by rcases Int.lt_or_le I 0 with h|h;exact .inr h;left;rw[<- G,hO,bm,dx] at h ⊢;split at h;rename_i j;rw[ak j];omega;exact absurd h aa
 have u:nP a n x=false->(false,())=ta ((d,t,n,o),x,a,e,b,()):=fun h=>by show _=(pH t n x a e b,());rw[pH,h];rfl
 refine jQ m mixed 3 (fun E=>p3 (.sl aQ) 200 E) (leB d t n o x e b) (fun c=>c=cS a x/\nP a n x=true) ?_ ?_
 ·refine aq (X:=((decide (I<0)=true->(false,())=ta ((d,t,n,o),x,a,e,b,()))/\(decide (I<0)=false->(0<=I/\I<(a.length:Int))/\I.toNat<a.length/\(((↑(a.getD I.toNat (0,[])).snd.length:Int) != n)=true->(false,())=ta ((d,t,n,o),x,a,e,b,()))/\(((↑(a.getD I.toNat (0,[])).snd.length:Int) != n)=false->(0<=I/\I<(a.length:Int))/\I.toNat<a.length/\(leB d t n o x e b (a.getD I.toNat (0,[])).snd).ah ((a.getD I.toNat (0,[])).snd=cS a x/\nP a n x=true))))) ab ?_;have hP:(a.getD I.toNat ((0:Int),([]:List (Fp × Fp)))).2=cS a x:=by rw[cS,G]
  rw[hP];refine⟨fun h=>u (by rw[nP,G,cp (by have:=Odt h;omega)];rfl),fun h=>?_⟩;have K:0<=I:=by have:=Odf h;omega
  have R:I.toNat<a.length:=aa;refine⟨⟨K,aa⟩,R,fun j=>u ?_,fun j=>?_⟩
  ·have j:¬ ((cS a x).length:Int)=n:=by simpa using j
   rw[nP,cp j,oL]
  ·have j:((cS a x).length:Int)=n:=by simpa using j
   exact⟨⟨K,aa⟩,R,au ⟨rfl,by rw[nP,G,cg K,cg j];rfl⟩⟩
 intro (c:List (Fp × Fp)) ⟨N,s⟩;have x1:c.length<1048576:=by have h:=s;rw[nP,aX] at h;have:=Odt h.2;rw[N];omega
 refine jQ m mixed 3 (fun E=>GL iK 13 E) (leC d t n o x b c) (fun l=>l=nu t x e/\((nu t x e).length:Int)<n) ?_ ?_;refine aq (X:=(GB ((d,t,n,o),x,e,())/\(decide ((↑(nu t x e).length:Int)>=n)=true->(false,())=ta ((d,t,n,o),x,a,e,b,()))/\(decide ((↑(nu t x e).length:Int)>=n)=false->(leC d t n o x b c (nu t x e,()).fst).ah (nu t x e=nu t x e/\(↑(nu t x e).length:Int)<n)))) ab ?_;refine⟨⟨P,A,O⟩,fun h=>?_,fun h=>au ⟨rfl,by have:=Odf h;omega⟩⟩;show _=(pH t n x a e b,());rw[pH,s,cp (show ¬ ((nu t x e).length:Int)<n by have:=Odt h;omega)];rfl;intro (by':List Int) ⟨r,F⟩;have L:∀ y∈by',y∈t:=by rw[r,nu,bm];exact NQ t x e [] aw
 have x0:by'.length<1048576:=by have:=yu t x e [];rw[r,nu,bm];simp at this;omega
 refine bh m mixed 1 (OQ x b c by' 0) True ?_ (fun _=>?_);refine aq (X:=((OQ x b c by' 0).ah True)) ab ?_;exact au trivial;refine cl m mixed gO (fun E=>bo iK 49 E) (OQ x b c by') (fun g=>∃ k:Nat,k<=by'.length/\g=(k:Int)/\∀ y∈by'.take k,qt b x y c=true) (fun g=>by'.length-g.toNat)
  (fun E=>bo iK 49 E) (OQ x b c by') (fun _=>by'.all (fun y=>qt b x y c)=true) 0 (c:=ar (al Tryz.f112) 9) ab ab (ay ab ab ?_) ?_ ?_
 exact⟨0,a8 _,rfl,aw⟩
 ·intro (i:Int) ⟨k,hk,W,f⟩;subst W;refine aq (X:=((decide ((k:Int)<(↑by'.length:Int))=true->(0<=(k:Int)/\(k:Int)<(↑by'.length:Int))/\(k:Int).toNat<by'.length/\(b.length<4611686018427387904/\r4 (by'.getD (k:Int).toNat 0) c)/\((!qt b x (by'.getD (k:Int).toNat 0) c)=true->(false,())=ta ((d,t,n,o),x,a,e,b,()))/\((!qt b x (by'.getD (k:Int).toNat 0) c)=false->(OQ x b c by' (i64.wrap ((k:Int)+1))).ah ((∃ D,D<=by'.length/\i64.wrap ((k:Int)+1)=(D:Int)/\∀ (y:Int),y∈take D by'->qt b x y c=true)/\by'.length-(i64.wrap ((k:Int)+1)).toNat<by'.length-(k:Int).toNat)))/\(decide ((k:Int)<(↑by'.length:Int))=false->(OQ x b c by' (k:Int)).ah ((by'.all fun y=>qt b x y c)=true)))) ab ?_;rw[aF];refine⟨fun h=>?_,fun h=>au ?_⟩
  ·have q:k<by'.length:=by have:=dec_lt h;omega
   have hg:by'.getD k 0=by'[k]:=by rw[a2,bu q,cx]
   have U:by'[k]∈by':=dr q;rw[hg,aS aa];refine⟨⟨aa,aa⟩,q,⟨C,aa,Q _ (L _ U)⟩,fun j=>?_,fun j=>au ⟨⟨k+1,q,rfl,fun y H=>?_⟩,by rw[aF];omega⟩⟩
   ·have Y:qt b x by'[k] c=false:=by simpa using j
    have Z:by'.all (fun y=>qt b x y c)=false:=by
     cases hb:by'.all (fun y=>qt b x y c) with
     | false=>rfl
     | true =>have:=List.all_eq_true.1 hb _ U;rw[Y] at this;cases this
    show _=(pH t n x a e b,());rw[pH,s,cg F,<- r,<- N,Z];rfl
   rw[cw q,lA,gb] at H;rcases H with H|rfl;exact f y H;simpa using j
  ·have:k=by'.length:=by have:=bX h;omega
   rw[this,aT] at f;exact List.all_eq_true.2 f
 intro (i:Int) f;refine bJ m mixed _ _ ?_;refine aq (X:=((true,())=ta ((d,t,n,o),x,a,e,b,()))) ab ?_;show _=(pH t n x a e b,());rw[pH,s,cg F,<- r,<- N,f];rfl
def ov (t:List Int) (n x:Int) (ds:List Dl) (fs:List oh) (ps:List Pf):Bool:=eR (pH t n x ds fs ps)
theorem aal:aO Tryz.prog 112 [dR,iK,.sl cy,.sl cB,.sl cG] [.val .bool] bB yY (fun ((_,t,n,_),x,ds,fs,ps,_)=>(ov t n x ds fs ps,())):=Z8.out fun ((_,t,n,_),x,ds,fs,ps,_)=>by show (ov t n x ds fs ps,())=(pH t n x ds fs ps,());rw[ov,bm]
def Un:Nat × Eng.Spec:=(112,aK [dR,iK,.sl cy,.sl cB,.sl cG] [.val .bool] yY (fun ((_,t,n,_),x,ds,fs,ps,_)=>(ov t n x ds fs ps,())))
theorem VF:enters Tryz.prog 70 Tryz.f70:=ek
def gu (d t:List Int) (n:Int) (ds:List Dl) (fs:List oh) (ps:List Pf):List Int:=d.filter fun x=>ov t n x ds fs ps
abbrev Du:HL [dR,.sl cy,.sl cB,.sl cG]->Prop:=fun ((d,t,n,_),ds,fs,ps,_)=>length d<1048576/\(length t<1048576/\length fs<1048576/\(∀ f∈(fs:List oh),f.2.length<4611686018427387904))/\length ds<4611686018427387904/\length ps<4611686018427387904/\(∀ y∈(t:List Int),fy y)/\n<1048576
abbrev Ib:HL [dR,.sl cy,.sl cB,.sl cG]->HO [.own iK]:=fun ((d,t,n,_),ds,fs,ps,_)=>(gu d t n ds fs ps,())
def Ea (d t:List Int) (n:Int) (o:List (Fp × Fp)) (ds:List Dl) (fs:List oh) (ps:List Pf) (g:Int × Bool × Nat × List Int):St:=av Tryz.f70.ntmps 56 [(1,ag (.ro cy ds)),(2,ag (.ro cB fs)),(3,ag (.ro cG ps)),(4,ao 0 0),(9,bif g.2.1 then ag (.v (.slice none 0 0)) else ag (.sl 48 0 0 g.2.2.1 1)),(13,ag (.ro iK d)),(14,sI .i64 d.length),(15,sI .i64 g.1)] ((0,[.ro iK d,.ro iK t,.v (.int .i64 n),.ro aQ o])::(bif g.2.1 then [] else [(48,[.ints .i64 g.2.2.1 g.2.2.2])]))
def T0 (d t:List Int) (n:Int) (ds:List Dl) (fs:List oh) (ps:List Pf) (g:Int × Bool × Nat × List Int):Prop:=∃ k:Nat,k<=d.length/\g.1=(k:Int)/\g.2.2.2=gu (d.take k) t n ds fs ps/\g.2.2.1=g.2.2.2.length/\(g.2.1=true->g.2.2.2=[])
def quO (d t:List Int) (n:Int) (ds:List Dl) (fs:List oh) (ps:List Pf) (g:Int × Bool × Nat × List Int):Prop:=g.2.2.2=gu d t n ds fs ps/\g.2.2.1=g.2.2.2.length/\(g.2.1=true->g.2.2.2=[])
theorem JE {d t:List Int} {n:Int} {ds:List Dl} {fs:List oh} {ps:List Pf} {k:Nat} (h:k<d.length):gu (d.take (k+1)) t n ds fs ps=gu (d.take k) t n ds fs ps++if ov t n d[k] ds fs ps=true then [d[k]] else []:=by rw[gu,cw h,qH,gu];congr 1;by_cases a:ov t n d[k] ds fs ps=true;rw[ak a,List.filter_cons_of_pos (by simpa using a)];rfl;rw[ai a,List.filter_cons_of_neg (by simpa using a)];rfl
theorem aae:aO Tryz.prog 70 [dR,.sl cy,.sl cB,.sl cG] [.own iK] bB Du Ib:=by
 have s:aJ Tryz.prog (aU [Un]):=aM (aR aal) bD;refine bL (sp:=aU [Un]) VF ae ae ab ?_;rintro w O ⟨⟨d,t,n,o⟩,ds,fs,ps,⟨⟩⟩;revert d t n o ds fs ps;intro (d:List Int) (t:List Int) (n:Int) (o:List (Fp × Fp)) (ds:List Dl) (fs:List oh) (ps:List Pf) _ ⟨C,D⟩;have C:d.length<1048576:=C;show Tr _ _ _ _ _ _ _;refine bh s mixed 3 (Ea d t n o ds fs ps (0,true,0,[])) True ?_ (fun _=>?_);refine aq (X:=((Ea d t n o ds fs ps (0,true,0,[])).ah True)) ab ?_;exact au trivial;refine cl s mixed (fun j=>[(48,rdJ 48 9 j)]) (fun j=>(bo iK 15 j,Pj 9 j,na 9 j,cT iK 48 j)) (Ea d t n o ds fs ps) (T0 d t n ds fs ps) (fun g=>d.length-g.1.toNat)
  (fun j=>(bo iK 15 j,Pj 9 j,na 9 j,cT iK 48 j)) (Ea d t n o ds fs ps) (quO d t n ds fs ps) (0,true,0,[]) (c:=ar (al Tryz.f70) 3) ab ab (ay ab ab ?_) ?_ ?_
 exact⟨0,a8 _,rfl,rfl,rfl,fun _=>rfl⟩
 ·rintro⟨i,e,m,l⟩ P;revert i l;intro (i:Int) (l:List Int) ⟨k,Q,x,q,G,F⟩;have x:i=(k:Int):=x;have q:l=gu (d.take k) t n ds fs ps:=q;have A:m=l.length:=G;subst x;cases e with
  | true =>
   have z:l=[]:=F rfl;subst z;have L:m=0:=A;subst L;refine aq (X:=((decide ((k:Int)<(d.length:Int))=true->(0<=(k:Int)/\(k:Int)<(d.length:Int))/\(k:Int).toNat<d.length/\yY ((d,t,n,o),d.getD (k:Int).toNat 0,ds,fs,ps,())/\(ov t n (d.getD (k:Int).toNat 0) ds fs ps=true->0+1<=1/\1*8<=140737488355328/\1<=4611686018427387904/\(Ea d t n o ds fs ps (i64.wrap ((k:Int)+1),false,1,[d.getD (k:Int).toNat 0])).ah (T0 d t n ds fs ps (i64.wrap ((k:Int)+1),false,1,[d.getD (k:Int).toNat 0])/\d.length-(i64.wrap ((k:Int)+1)).toNat<d.length-(k:Int).toNat))/\(ov t n (d.getD (k:Int).toNat 0) ds fs ps=false->(Ea d t n o ds fs ps (i64.wrap ((k:Int)+1),true,0,[])).ah (T0 d t n ds fs ps (i64.wrap ((k:Int)+1),true,0,[])/\d.length-(i64.wrap ((k:Int)+1)).toNat<d.length-(k:Int).toNat)))/\(decide ((k:Int)<(d.length:Int))=false->(Ea d t n o ds fs ps ((k:Int),true,0,[])).ah (quO d t n ds fs ps ((k:Int),true,0,[]))))) ab ?_;rw[aF];refine⟨fun h=>?_,fun h=>au ?_⟩
   ·have a:k<d.length:=by have:=dec_lt h;omega
    have y:d.getD k 0=d[k]:=by rw[a2,bu a,cx]
    have b:=JE (t:=t) (n:=n) (ds:=ds) (fs:=fs) (ps:=ps) a;rw[<- q] at b;have f:d.length-((k+1:Nat):Int).toNat<d.length-(k:Int).toNat:=by rw[aF,aF];omega
    rw[y,aS aa];refine⟨⟨aa,aa⟩,a,D,fun r=>⟨ae,ae,ae,au ⟨⟨k+1,a,rfl,?_,rfl,fun h=>(by cases h)⟩,f⟩⟩,fun r=>au ⟨⟨k+1,a,rfl,?_,rfl,fun _=>rfl⟩,f⟩⟩;rw[b,ak r];rfl;rw[b,ai (by rw[r];decide)];rfl
   ·have:k=d.length:=by have:=bX h;omega
    rw[this,aT] at q;exact⟨q,rfl,fun _=>rfl⟩
  | false =>
   refine aq (X:=((decide ((k:Int)<(d.length:Int))=true->(0<=(k:Int)/\(k:Int)<(d.length:Int))/\(k:Int).toNat<d.length/\yY ((d,t,n,o),d.getD (k:Int).toNat 0,ds,fs,ps,())/\(ov t n (d.getD (k:Int).toNat 0) ds fs ps=true->0+1<=1/\m<=m/\(m+1)*8<=140737488355328/\m+1<=4611686018427387904/\(Ea d t n o ds fs ps (i64.wrap ((k:Int)+1),false,m+1,take m l++take 1 [d.getD (k:Int).toNat 0])).ah (T0 d t n ds fs ps (i64.wrap ((k:Int)+1),false,m+1,take m l++take 1 [d.getD (k:Int).toNat 0])/\d.length-(i64.wrap ((k:Int)+1)).toNat<d.length-(k:Int).toNat))/\(ov t n (d.getD (k:Int).toNat 0) ds fs ps=false->(Ea d t n o ds fs ps (i64.wrap ((k:Int)+1),false,m,l)).ah (T0 d t n ds fs ps (i64.wrap ((k:Int)+1),false,m,l)/\d.length-(i64.wrap ((k:Int)+1)).toNat<d.length-(k:Int).toNat)))/\(decide ((k:Int)<(d.length:Int))=false->(Ea d t n o ds fs ps ((k:Int),false,m,l)).ah (quO d t n ds fs ps ((k:Int),false,m,l))))) ab ?_;rw[aF];have K:l.length<=k:=by have u:l=gu (d.take k) t n ds fs ps:=q;rw[u,gu];exact h9 (oU _ _) (by rw[c5];omega)
   refine⟨fun h=>?_,fun h=>au ?_⟩
   ·have a:k<d.length:=by have:=dec_lt h;omega
    have y:d.getD k 0=d[k]:=by rw[a2,bu a,cx]
    have b:=JE (t:=t) (n:=n) (ds:=ds) (fs:=fs) (ps:=ps) a;rw[<- q] at b;have f:d.length-((k+1:Nat):Int).toNat<d.length-(k:Int).toNat:=by rw[aF,aF];omega
    rw[y,aS aa,A,aT];refine⟨⟨aa,aa⟩,a,D,fun r=>⟨ae,aa,aa,aa,au ⟨⟨k+1,a,rfl,?_,by show l.length+1=(l++[d[k]]).length;simp,fun h=>(by cases h)⟩,f⟩⟩,fun r=>au ⟨⟨k+1,a,rfl,?_,rfl,fun h=>(by cases h)⟩,f⟩⟩;rw[b,ak r];rfl;rw[b,ai (by rw[r];decide)];exact (bw l).symm
   ·have:k=d.length:=by have:=bX h;omega
    rw[this,aT] at q;exact⟨q,A,fun h=>(by cases h)⟩
 rintro⟨i,e,m,l⟩ R;revert i l;intro (i:Int) (l:List Int) ⟨H,r,I⟩;have E:l=gu d t n ds fs ps:=H;have N:m=l.length:=r;refine bJ s mixed _ _ ?_;cases e with
 | true =>have z:l=[]:=I rfl;refine aq (X:=(([],())=Ib ((d,t,n,o),ds,fs,ps,()))) ab ?_;show _=(gu d t n ds fs ps,());rw[<- E,z]
 | false =>refine aq (X:=(0+m<=m/\(take m l,())=Ib ((d,t,n,o),ds,fs,ps,()))) ab ?_;rw[N,aT];exact⟨aa,by show _=(gu d t n ds fs ps,());rw[E]⟩
end deal
namespace rite
open Go.IntKind(i64)
open Go.IntKind(i64 u8)
open Go.IntKind(i64 u64 u32)
open Go.IntKind(i64 u64 u8 u32)
set_option maxHeartbeats 4000000
open hub deal
def cX (R:Rt):List Int:=eR (gu R.dealers R.takers R.need R.deals R.faults R.proofs)
def fJ (R:Rt):List Pt × Int:=law22.rI R.dealers R.need R.old (cX R) R.deals
theorem aan:aO Tryz.prog 70 [dR,.sl cy,.sl cB,.sl cG] [.own iK] bB Du (fun ((d,t,n,_),a,b,c,_)=>(eR (gu d t n a b c),())):=aae.out fun ((d,t,n,_),a,b,c,_)=>by show (eR (gu d t n a b c),())=(gu d t n a b c,());rw[bm]
def aeY:Nat × Eng.Spec:=(70,aK [dR,.sl cy,.sl cB,.sl cG] [.own iK] Du (fun ((d,t,n,_),a,b,c,_)=>(eR (gu d t n a b c),())))
theorem V3:aO Tryz.prog 71 [dR,.sl iK,.sl cy] [.own aQ,.val iK] bB Dr (fun ((d,_,n,o),q,a,_)=>((law22.rI d n o q a).1,(law22.rI d n o q a).2,())):=VU.out fun ((d,t,n,o),q,a,_)=>by show ((law22.rI d n o q a).1,(law22.rI d n o q a).2,())=((nD d n o q a).1,(nD d n o q a).2,());rw[law22.rI,bm]
def abu:Nat × Eng.Spec:=(71,aK [dR,.sl iK,.sl cy] [.own aQ,.val iK] Dr (fun ((d,_,n,o),q,a,_)=>((law22.rI d n o q a).1,(law22.rI d n o q a).2,())))
theorem Ph (R:Rt):(cX R).length<=R.dealers.length:=by rw[cX,bm];exact oU _ _
theorem OM (R:Rt) (h:R.need<1000):(fJ R).1.length<1000:=by rw[fJ,law22.rI,bm,nD,xn];split;split;rename_i a;rcases Tn R.deals (cO R.dealers R.old (cX R)).1 (cO R.dealers R.old (cX R)).2.1 R.need _ (aI _) (fun x b=>List.all_eq_true.1 a x (by rw[aT] at b;exact b)) with k|k;show (jS _ _ _ _).length<_;omega;show (jS _ _ _ _).length<_;omega;exact mY _;exact mY _
def fg (R:Rt):Option (List Int × List Pt × Fr × List Int) × Int :=
 if (fJ R).2=0 then
  if R.me∈R.takers then
   if (gC R (cX R)).2=0 then (some (cX R,(fJ R).1,(gC R (cX R)).1,pX (cX R) (fJ R).1),0) else (none,(gC R (cX R)).2)
  else (some (cX R,(fJ R).1,0,pX (cX R) (fJ R).1),0)
 else (none,(fJ R).2)
def kq (R:Rt):Ob.aj:=match (fg R).1 with
 | some e=>p4 R e
 | none=>bA { R with fault:=(fg R).2 }
theorem FV:enters Tryz.prog 39 Tryz.f39:=ek
abbrev jJ:Func:=Tryz.f39
abbrev VP:=aU [aeY,abu,Xf]
theorem ir:aJ Tryz.prog VP:=aM (aR aan) (aM (aR V3) (aM (fgk SP) bD))
def fiA (p:Nat):St:=av jJ.ntmps 8 [(0,aB p)] []
def fiB (R:Rt):St:=av jJ.ntmps 14 [(0,ao 8 0)] (hU R (bn++[.v (.int .i64 R.fault)]))
def fiC (R:Rt) (n:Nat) (q:List Int):St:=av jJ.ntmps 143 [(0,ao 8 0),(3,ag (.sl 142 0 0 n 1))] ((142,[.ints .i64 n q])::hU R (bn++[.v (.int .i64 R.fault)]))
def fiD (R:Rt) (q:List Int):St:=av jJ.ntmps 143 [(0,ao 8 0),(3,ag (.ro iK q))] (hU R (bn++[.v (.int .i64 R.fault)]))
def SG (R:Rt) (q:List Int) (g:Nat × List Pt × Int) (a:List (Nat × SV)):St:=av jJ.ntmps 216 ([(0,ao 8 0),(3,ag (.ro iK q)),(4,ag (.sl 215 0 0 g.1 12)),(5,sI .i64 g.2.2)]++a) ((215,[.row aQ g.1 g.2.1])::hU R (bn++[.v (.int .i64 R.fault)]))
def fiG (R:Rt) (e:Int):St:=av jJ.ntmps 14 [(2,fM)] (hU R (bn++[.v (.int .i64 (e))]))
def fiN:St:=av jJ.ntmps 8 [(2,fM)] []
def fiH (R:Rt) (q:List Int) (c:List Pt) (e:Int):St:=av jJ.ntmps 217 [(0,ao 8 0),(3,ag (.ro iK q)),(4,ag (.ro aQ c)),(5,sI .i64 e),(6,ao 216 0)] ((216,[.row .fr 1 [(0:Fr)]])::hU R (bn++[.v (.int .i64 R.fault)]))
def B2 (p:Nat) (q:List Int) (c:List Pt) (s:Fr) (b i:Nat) (a:List (Nat × SV)):St:=av jJ.ntmps b ([(0,aB p),(3,ag (.ro iK q)),(4,ag (.ro aQ c)),(6,ao i 0)]++a) [(i,[.row .fr 1 [s]])]
def fiO (R:Rt) (q:List Int) (c:List Pt) (s:Fr) (a:List (Nat × SV)):St:=av jJ.ntmps 14 ([(0,ao 8 0),(3,ag (.ro iK q)),(4,ag (.ro aQ c)),(6,ao 0 0)]++a) ((0,[.row .fr 1 [s]])::hU R (bn++[.v (.int .i64 R.fault)]))
def fiZ (R:Rt) (e:List Int × List Pt × Fr × List Int):St:=av jJ.ntmps 14 [(2,fM)] (hU R (kL e++[.v (.int .i64 R.fault)]))
section
variable (w0:World) (M0:Mem) (F0:Nat->Prop)
abbrev vE:Ob.cf:=Ob.lj Tryz.prog VP sha.dZ w0 M0 F0
theorem SH (R:Rt) (q:List Int) (b:q.length<100000) (c:List Pt) (d:c.length<1000) (s:Fr) (G:Ob.aj) {Q:SV->Ob.aj->Prop} (a:Q fM (Ob.aj.sep (p4 R (q,c,s,pX q c)) G)) :
  Ob.aN Tryz.prog ((al jJ).drop 8) (Ob.GH (vE w0 M0 F0) jJ.ntmps (B2 R.p q c s 8 0 []) (Ob.aj.sep (bA R) G)) (Ob.c1 (vE w0 M0 F0) jJ Q) (Ob.c1 (vE w0 M0 F0) jJ Q) (fun _ _ _=>False):=by
 refine Ob.aP (G':=Ob.aj.obj (dE R (bn++[.v (.int .i64 R.fault)])) R.p G) (by unfold bA;exact (Ob.bF _ _ _).symm) ?_;refine Ob.gR [0] (fiO R q c s []) ?_;refine Ob.gcd ir 2 (fun _=>()) (fun _=>fiZ R (q,c,s,pX q c)) (fun _=>True) ?_ (fun _ _=>?_);intros;refine @aq ((∀ (g:Nat) (s:Sigma aH),sha.dZ g=some s->Decidable.rec (fun h=>(fun x=>if g=1 then some ⟨Kd.arr 64 sha.uK,sha.jz⟩ else none) h) (fun h=>(fun x=>some ⟨Kd.arr 8 sha.uK,sha.eh⟩) h) (instDecidableEqNat g 0)=some s)/\Ri (q,c,())/\(fiZ R (q,c,s,pX q c)).ah True) _ ?_ ?_;kernel_rfl;exact⟨fun g s h=>h,⟨b,by show c.length<_;omega⟩,au trivial⟩;refine Ob.fj (E:=(vE w0 M0 F0)) (bl:=dE R (kL (q,c,s,pX q c)++[.v (.int .i64 R.fault)])) [] [8,9,10,11,12,13] 9 (fiN) ?_;refine Ob.aP (G':=Ob.aj.sep (p4 R (q,c,s,pX q c)) G) (by unfold p4;exact Ob.bF _ _ _) ?_;exact Ob.sn ir fM a
theorem acv (R:Rt) (e:Int) (q:List Int) (g:Nat × List Pt × Int) (a:g.2.2=e) (G:Ob.aj) {Q:SV->Ob.aj->Prop} (b:Q fM (Ob.aj.sep (bA { R with fault:=e }) G)) :
  Ob.aN Tryz.prog (fX (ar (al jJ) 4)++(al jJ).drop 5) (Ob.GH ((vE w0 M0 F0).pinned 8 R.p) jJ.ntmps (SG R q g [(38,aA true)]) G) (Ob.c1 (vE w0 M0 F0) jJ Q) (Ob.c1 (vE w0 M0 F0) jJ Q) (fun _ _ _=>False):=by
 subst a;refine Ob.eK ir 2 (fiG R g.2.2) ?_;refine Ob.fj (E:=(vE w0 M0 F0)) (bl:=dE { R with fault:=g.2.2 } (bn++[.v (.int .i64 g.2.2)])) [] [8,9,10,11,12,13] 9 (fiN) ?_;refine Ob.aP (G':=Ob.aj.sep (bA { R with fault:=g.2.2 }) G) (by unfold bA;exact Ob.bF _ _ _) ?_;refine Ob.iu ir mixed fM ?_ b;intros;refine @aq (SV.is (TV.one (Cell.v (Value.slice none 0 0)))=fM) _ ?_ ?_;kernel_rfl;rfl
theorem ZX (R:Rt) (e:Int) (q:List Int) (c:List Pt) (s:Fr) (G:Ob.aj) {Q:SV->Ob.aj->Prop} (a:Q fM (Ob.aj.sep (bA { R with fault:=e }) G)) :
  Ob.aN Tryz.prog (fX (ar (fX (ar (al jJ) 7)) 2)++(al jJ).drop 8) (Ob.GH (vE w0 M0 F0) jJ.ntmps (B2 R.p q c s 8 0 [(5,sI .i64 e),(52,aA true)]) (Ob.aj.sep (bA R) G)) (Ob.c1 (vE w0 M0 F0) jJ Q) (Ob.c1 (vE w0 M0 F0) jJ Q) (fun _ _ _=>False):=by
 refine Ob.aP (G':=Ob.aj.obj (dE R (bn++[.v (.int .i64 R.fault)])) R.p G) (by unfold bA;exact (Ob.bF _ _ _).symm) ?_;refine Ob.gR [0] (fiO R q c s [(5,sI .i64 e)]) ?_;refine Ob.eK ir 2 (fiG R e) ?_;refine Ob.fj (E:=(vE w0 M0 F0)) (bl:=dE { R with fault:=e } (bn++[.v (.int .i64 e)])) [] [8,9,10,11,12,13] 9 (fiN) ?_;refine Ob.aP (G':=Ob.aj.sep (bA { R with fault:=e }) G) (by unfold bA;exact Ob.bF _ _ _) ?_;refine Ob.iu ir mixed fM ?_ a;intros;refine @aq (SV.is (TV.one (Cell.v (Value.slice none 0 0)))=fM) _ ?_ ?_;kernel_rfl;rfl
end
theorem TC:Ob.ez Tryz.prog sha.dZ 39 (fun z:c7=>[aB z.R.p]) c7.ok c7.cv (fun _ (_:Unit)=>fM) (fun z _=>Ob.aj.sep (kq z.R) (bz z.H)) (fun _ _=>True):=by
 refine Ob.c9 (sp:=VP) FV ab (fun z=>by show 1<=jJ.ntmps;exact Odt ab) (fun z _=>rfl) ?_;rintro⟨R,H⟩ ⟨r,t,a⟩ w0 M0 F0;have a:eF r R H:=a;have L:=a.dl;have I:=a.tk;have C:=a.old;have A:=a.need;have u:=a.deals;have x:=a.faults;have D:=a.proofs;have y:=a.frl;have q:=a.a5;have F:=Ph R;have m:=OM R A;have s:YT R:=⟨aa,q,aa,aa,a.me,a.pubs⟩;show Ob.aN _ _ (Ob.GH _ _ _ (Ob.aj.sep (bA R) (bz H))) _ _ _;generalize K:bz H=G;refine Ob.eK ir 1 (fiA R.p) ?_;refine Ob.aP (G':=Ob.aj.obj (dE R (bn++[.v (.int .i64 R.fault)])) R.p G) (by unfold bA;exact (Ob.bF _ _ _).symm) ?_;refine Ob.gR [0] (fiB R) ?_;refine Ob.gcd ir 1 (fun d=>(na 3 d,cT iK 142 d)) (fun g=>fiC R g.1 g.2) (fun g=>g=((cX R).length,cX R)) ?_ (fun g l=>?_);intros;refine @aq (0+R.deals.length<=R.deals.length/\0+R.faults.length<=R.faults.length/\0+R.proofs.length<=R.proofs.length/\Du ((R.dealers,R.takers,R.need,R.old),take R.deals.length R.deals,take R.faults.length R.faults,take R.proofs.length R.proofs,())/\(fiC R ((eR (gu R.dealers R.takers R.need (take R.deals.length R.deals) (take R.faults.length R.faults) (take R.proofs.length R.proofs)),()).fst.length,(eR (gu R.dealers R.takers R.need (take R.deals.length R.deals) (take R.faults.length R.faults) (take R.proofs.length R.proofs)),()).fst).fst ((eR (gu R.dealers R.takers R.need (take R.deals.length R.deals) (take R.faults.length R.faults) (take R.proofs.length R.proofs)),()).fst.length,(eR (gu R.dealers R.takers R.need (take R.deals.length R.deals) (take R.faults.length R.faults) (take R.proofs.length R.proofs)),()).fst).snd).ah (((eR (gu R.dealers R.takers R.need (take R.deals.length R.deals) (take R.faults.length R.faults) (take R.proofs.length R.proofs))).length,eR (gu R.dealers R.takers R.need (take R.deals.length R.deals) (take R.faults.length R.faults) (take R.proofs.length R.proofs)))=((cX R).length,cX R))) _ ?_ ?_;kernel_rfl;refine⟨aa,aa,aa,⟨by show R.dealers.length<_;omega,⟨by show R.takers.length<_;omega,by show (take _ _).length<_;rw[c5];omega,fun f w=>by have:=a.whom f (nm w);omega⟩,by show (take _ _).length<_;rw[c5];omega,by show (take _ _).length<_;rw[c5];omega,a.tI,by show R.need<_;omega⟩,au ?_⟩;rw[aT,aT,aT];rfl;subst l;refine Ob.sU 3 142 (cX R).length 1 .i64 (cX R) ab ab rfl ?_;refine Ob.fR (fiD R (cX R)) ?_;refine Ob.gcd ir 1 (fun d=>(na 4 d,cT aQ 215 d,bo iK 5 d)) (fun g=>SG R (cX R) g []) (fun g=>g=((fJ R).1.length,(fJ R).1,(fJ R).2)) ?_ (fun g l=>?_);intros;refine @aq (0+R.deals.length<=R.deals.length/\Dr ((R.dealers,R.takers,R.need,R.old),cX R,take R.deals.length R.deals,())/\(SG R (cX R) (((law22.rI R.dealers R.need R.old (cX R) (take R.deals.length R.deals)).fst,(law22.rI R.dealers R.need R.old (cX R) (take R.deals.length R.deals)).snd,()).fst.length,((law22.rI R.dealers R.need R.old (cX R) (take R.deals.length R.deals)).fst,(law22.rI R.dealers R.need R.old (cX R) (take R.deals.length R.deals)).snd,()).fst,(law22.rI R.dealers R.need R.old (cX R) (take R.deals.length R.deals)).snd) []).ah (((law22.rI R.dealers R.need R.old (cX R) (take R.deals.length R.deals)).fst.length,(law22.rI R.dealers R.need R.old (cX R) (take R.deals.length R.deals)).fst,(law22.rI R.dealers R.need R.old (cX R) (take R.deals.length R.deals)).snd)=((fJ R).fst.length,(fJ R).fst,(fJ R).snd))) _ ?_ ?_;kernel_rfl;refine⟨aa,⟨by show R.old.length<_;omega,by show (cX R).length<_;omega,by show (take _ _).length<_;rw[c5];omega,by show R.need<_;omega⟩,au ?_⟩;rw[aT];rfl;refine Ob.gcd ir 1 (fun d=>bo .bool 38 d) (fun b=>SG R (cX R) g [(38,aA b)]) (fun b=>b=!decide ((fJ R).2=0)) ?_ (fun b i=>?_);intros;refine @aq ((SG R (cX R) g [(38,aA (g.snd.snd != 0))]).ah ((g.snd.snd != 0)=!decide ((fJ R).snd=0))) _ ?_ ?_;kernel_rfl;exact au (by rw[l];rfl);cases b
 ·have o:(fJ R).2=0:=by
   by_cases h:(fJ R).2=0;exact h;rw[cp h] at i;cases i
  refine Ob.e5 (ar (al jJ) 4) ?_;subst l;refine Ob.OB 4 215 (fJ R).1.length 12 aQ (fJ R).1 ?_;refine Ob.eK ir 1 (fiH R (cX R) (fJ R).1 (fJ R).2) ?_;refine Ob.fj (E:=(vE w0 M0 F0)) (bl:=dE R (bn++[.v (.int .i64 R.fault)])) [216] [8,9,10,11,12,13] 9 (B2 R.p (cX R) (fJ R).1 0 217 216 []) ?_;refine Ob.aP (G':=Ob.aj.sep (bA R) G) (by unfold bA;exact Ob.bF _ _ _) ?_;refine Ob.xh ir 0 [(0,216)] (B2 R.p (cX R) (fJ R).1 0 8 0 []) ?_;refine Ob.ep 7 (bC (ar (al jJ) 6)) ?_;refine Ob.dT ir 1 (B2 R.p (cX R) (fJ R).1 0 8 0 [(43,aB R.p)]) ?_;refine Ob.kj (E:=(vE w0 M0 F0)) (Ob.b5 (fun _=>G) (LW sha.dZ)) R a.tk BX (fun _ _=>?_);refine Ob.ei ?_;by_cases n:R.me∈R.takers
  ·have j:decide (R.me∈R.takers)=true:=cg n;rw[j];refine Ob.je (ar (al jJ) 7) ?_;refine Ob.ep 8 (bC (ar (fX (ar (al jJ) 7)) 0)) ?_;refine Ob.dT ir 2 (B2 R.p (cX R) (fJ R).1 0 8 0 [(46,aB R.p),(47,ag (.ro iK (cX R)))]) ?_;refine Ob.kj (E:=(vE w0 M0 F0)) (Ob.b5 (fun _=>G) (WE sha.dZ)) (R,cX R) ⟨s,(by omega:(cX R).length<100000),C⟩ xf (fun _ _=>?_);refine Ob.dT ir 8 (B2 R.p (cX R) (fJ R).1 (gC R (cX R)).1 8 0 [(5,sI .i64 (gC R (cX R)).2)]) (Ob.ei ?_);refine Ob.gcd ir 1 (fun d=>bo .bool 52 d) (fun b=>B2 R.p (cX R) (fJ R).1 (gC R (cX R)).1 8 0 [(5,sI .i64 (gC R (cX R)).2),(52,aA b)]) (fun b=>b=!decide ((gC R (cX R)).2=0)) ?_ (fun b i=>?_);intros;refine @aq ((B2 R.p (cX R) (fJ R).fst (gC R (cX R)).fst 8 0 [(5,sI IntKind.i64 (gC R (cX R)).snd),(52,aA ((gC R (cX R)).snd != 0))]).ah (((gC R (cX R)).snd != 0)=!decide ((gC R (cX R)).snd=0))) _ ?_ ?_;kernel_rfl;exact au rfl;cases b
   ·have k:(gC R (cX R)).2=0:=by
     by_cases h:(gC R (cX R)).2=0;exact h;rw[cp h] at i;cases i
    refine Ob.e5 (ar (fX (ar (al jJ) 7)) 2) ?_;refine Ob.fR (B2 R.p (cX R) (fJ R).1 (gC R (cX R)).1 8 0 []) ?_;refine SH w0 M0 F0 R (cX R) aa (fJ R).1 m (gC R (cX R)).1 G ⟨(),trivial,Ob.br _,?_⟩;have e:(fg R).1=some (cX R,(fJ R).1,(gC R (cX R)).1,pX (cX R) (fJ R).1):=by rw[fg,ak o,ak n,ak k]
    show _=Ob.aj.sep (kq R) G;unfold kq;rw[e]
   ·have k:¬ (gC R (cX R)).2=0:=fun h=>by rw[cg h] at i;cases i
    refine Ob.je (ar (fX (ar (al jJ) 7)) 2) ?_;refine ZX w0 M0 F0 R (gC R (cX R)).2 (cX R) (fJ R).1 (gC R (cX R)).1 G ⟨(),trivial,Ob.br _,?_⟩;have e:fg R=(none,(gC R (cX R)).2):=by rw[fg,ak o,ak n,ai k]
    show _=Ob.aj.sep (kq R) G;unfold kq;rw[e]
  ·have j:decide (R.me∈R.takers)=false:=cp n;rw[j];refine Ob.e5 (ar (al jJ) 7) ?_;refine Ob.fR (B2 R.p (cX R) (fJ R).1 0 8 0 []) ?_;refine SH w0 M0 F0 R (cX R) aa (fJ R).1 m 0 G ⟨(),trivial,Ob.br _,?_⟩;have e:(fg R).1=some (cX R,(fJ R).1,0,pX (cX R) (fJ R).1):=by rw[fg,ak o,ai n]
   show _=Ob.aj.sep (kq R) G;unfold kq;rw[e]
 ·have o:¬ (fJ R).2=0:=fun h=>by rw[cg h] at i;cases i
  refine Ob.je (ar (al jJ) 4) ?_;refine acv w0 M0 F0 R (fJ R).2 (cX R) g (by rw[l]) G ⟨(),trivial,Ob.br _,?_⟩;have e:fg R=(none,(fJ R).2):=by rw[fg,ai o]
  show _=Ob.aj.sep (kq R) G;unfold kq;rw[e]
set_option maxHeartbeats 4000000
open Go.Hbn(Talk bb eG)
theorem zG:enters Tryz.prog 10 Tryz.f10:=ek
abbrev fY:Func:=Tryz.f10
abbrev Xs:=aU []
theorem da:aJ Tryz.prog Xs:=bD
abbrev nh:Code:=ar (al fY) 5
abbrev JO:List Code:=cV (ar (aV nh) 2)
abbrev aZ (R:Rt) (k:Int):Rt:={ R with phase:=k }
def j0 (R:Rt) (b:Int):Bool:=decide (R.phase<4)&&decide (b>=i64.wrap (R.start+i64.wrap (R.phase*R.span)))
abbrev QE:List Cell:=[.v (qV 36),.v (qV 37),.v (qV 38),.v (qV 39)]
def dK (p:Nat) (a:Int) (n:Nat) (l:List (Int × Hbm.aG)) (d i:Nat) (b:List (Nat × SV)):St:=av fY.ntmps d ([(0,aB p),(1,sI .i64 a),(5,ag (.sl 1 0 0 4 1)),(6,ag (.sl i 0 0 n 8))]++b) [(1,QE),(i,[.row bH n l])]
def oA (R:Rt) (a:Int) (n:Nat) (l:List (Int × Hbm.aG)) (b:List (Nat × SV)):St:=av fY.ntmps 15 ([(0,ao 9 0),(1,sI .i64 a),(5,ag (.sl 1 0 0 4 1)),(6,ag (.sl 8 0 0 n 8))]++b) ((1,QE)::(8,[.row bH n l])::CP R (bn++[.v (.int .i64 R.fault)]))
def RO (R:Rt) (e:List Int × List Pt × Fr × List Int) (a:Int) (n:Nat) (l:List (Int × Hbm.aG)) (b:List (Nat × SV)):St:=av fY.ntmps 15 ([(0,ao 9 0),(1,sI .i64 a),(5,ag (.sl 1 0 0 4 1)),(6,ag (.sl 8 0 0 n 8))]++b) ((1,QE)::(8,[.row bH n l])::CP R (kL e++[.v (.int .i64 R.fault)]))
section
variable (w0:World) (M0:Mem) (F0:Nat->Prop)
abbrev er:Ob.cf:=Ob.lj Tryz.prog Xs sha.dZ w0 M0 F0
theorem PC (R:Rt) (c:Int) (l:List (Int × Hbm.aG)) (n:Nat) (G:Ob.aj) {m r:ax} {x:Nat->ax}
  (g:j0 R c=true->Ob.aN Tryz.prog ((aV nh).drop 2) (Ob.GH (er w0 M0 F0) fY.ntmps (dK R.p c n l 9 8 [(33,aA true)]) (Ob.aj.sep (bA R) G)) m r x)
  (j:j0 R c=false->∀ a w,Ob.GH (er w0 M0 F0) fY.ntmps (dK R.p c n l 9 8 []) (Ob.aj.sep (bA R) G) a w->x (b7 nh) a w) :
  Ob.aN Tryz.prog (aV nh) (Ob.GH (er w0 M0 F0) fY.ntmps (dK R.p c n l 9 8 []) (Ob.aj.sep (bA R) G)) m r x:=by
 refine Ob.aP (G':=Ob.aj.obj (dE R (bn++[.v (.int .i64 R.fault)])) R.p G) (by unfold bA;exact (Ob.bF _ _ _).symm) ?_;refine Ob.gR [0] (oA R c n l []) ?_;refine Ob.kN da mixed 1 33 (fun o=>bo .bool 33 o) (fun b=>oA R c n l [(33,aA b)]) (fun b=>b=j0 R c) (fun _=>False) (fun _ _=>False) ?_ (fun b f=>?_) (fun _ _ _ h _=>h.elim) (fun _ _ _ _ h _=>h.elim);intros;refine @aq ((decide (R.phase<4)=true->(oA R c n l [(33,aA (decide (c>=i64.wrap (R.start+i64.wrap (R.phase*R.span)))))]).ah (decide (c>=i64.wrap (R.start+i64.wrap (R.phase*R.span)))=j0 R c))/\(decide (R.phase<4)=false->(oA R c n l [(33,aA false)]).ah (false=j0 R c))) _ ?_ ?_;kernel_rfl;exact⟨fun h=>au (by unfold j0;rw[h];rfl),fun h=>au (by unfold j0;rw[h];rfl)⟩;refine Ob.fj (E:=(er w0 M0 F0)) (bl:=dE R (bn++[.v (.int .i64 R.fault)])) [1,8] [9,10,11,12,13,14] 10 (dK R.p c n l 9 8 [(33,aA b)]) ?_;refine Ob.aP (G':=Ob.aj.sep (bA R) G) (by unfold bA;exact Ob.bF _ _ _) ?_;cases b;refine Ob.e5 (ar (aV nh) 1) ?_;refine Ob.ju da mixed (fun _=>False) (fun _=>False) (fun i d=>i=b7 nh/\d.le (Ob.cm (er w0 M0 F0)) (dK R.p c n l 9 8 []) True) ?_ (fun _ _ _ h _=>h.elim) (fun _ _ _ h _=>h.elim) (fun i d a w e k=>?_);intros;refine @aq (0=0/\(dK R.p c n l 9 8 []).ah True) _ ?_ ?_;kernel_rfl;exact⟨rfl,au trivial⟩;obtain⟨rfl,e⟩:=e;exact j f.symm a w (k.le e).2;refine Ob.je (ar (aV nh) 1) ?_;exact g f.symm
theorem Xx (R:Rt) (e:List Int × List Pt × Fr × List Int) (c:Int) (l:List (Int × Hbm.aG)) (n:Nat) (G:Ob.aj) {m r:ax} {x:Nat->ax}
  (j:j0 R c=true->Ob.aN Tryz.prog ((aV nh).drop 2) (Ob.GH (er w0 M0 F0) fY.ntmps (dK R.p c n l 9 8 [(33,aA true)]) (Ob.aj.sep (p4 R e) G)) m r x)
  (k:j0 R c=false->∀ a w,Ob.GH (er w0 M0 F0) fY.ntmps (dK R.p c n l 9 8 []) (Ob.aj.sep (p4 R e) G) a w->x (b7 nh) a w) :
  Ob.aN Tryz.prog (aV nh) (Ob.GH (er w0 M0 F0) fY.ntmps (dK R.p c n l 9 8 []) (Ob.aj.sep (p4 R e) G)) m r x:=by
 refine Ob.aP (G':=Ob.aj.obj (dE R (kL e++[.v (.int .i64 R.fault)])) R.p G) (by unfold p4;exact (Ob.bF _ _ _).symm) ?_;refine Ob.gR [0] (RO R e c n l []) ?_;refine Ob.kN da mixed 1 33 (fun q=>bo .bool 33 q) (fun b=>RO R e c n l [(33,aA b)]) (fun b=>b=j0 R c) (fun _=>False) (fun _ _=>False) ?_ (fun b g=>?_) (fun _ _ _ h _=>h.elim) (fun _ _ _ _ h _=>h.elim);intros;refine @aq ((decide (R.phase<4)=true->(RO R e c n l [(33,aA (decide (c>=i64.wrap (R.start+i64.wrap (R.phase*R.span)))))]).ah (decide (c>=i64.wrap (R.start+i64.wrap (R.phase*R.span)))=j0 R c))/\(decide (R.phase<4)=false->(RO R e c n l [(33,aA false)]).ah (false=j0 R c))) _ ?_ ?_;kernel_rfl;exact⟨fun h=>au (by unfold j0;rw[h];rfl),fun h=>au (by unfold j0;rw[h];rfl)⟩;refine Ob.fj (E:=(er w0 M0 F0)) (bl:=dE R (kL e++[.v (.int .i64 R.fault)])) [1,8] [9,10,11,12,13,14] 10 (dK R.p c n l 9 8 [(33,aA b)]) ?_;refine Ob.aP (G':=Ob.aj.sep (p4 R e) G) (by unfold p4;exact Ob.bF _ _ _) ?_;cases b;refine Ob.e5 (ar (aV nh) 1) ?_;refine Ob.ju da mixed (fun _=>False) (fun _=>False) (fun i d=>i=b7 nh/\d.le (Ob.cm (er w0 M0 F0)) (dK R.p c n l 9 8 []) True) ?_ (fun _ _ _ h _=>h.elim) (fun _ _ _ h _=>h.elim) (fun i d a w f o=>?_);intros;refine @aq (0=0/\(dK R.p c n l 9 8 []).ah True) _ ?_ ?_;kernel_rfl;exact⟨rfl,au trivial⟩;obtain⟨rfl,f⟩:=f;exact k g.symm a w (o.le f).2;refine Ob.je (ar (aV nh) 1) ?_;exact j g.symm
theorem Xt (R:Rt) (H:bb) (e:c7.ok (⟨(aZ R 1),H⟩:c7)) (d:Int) (l:List (Int × Hbm.aG)) (k:l.length<10000000) (i:∀ q,(dW (⟨(aZ R 1),H⟩:c7) q).length<2000000) {m r:ax} {x:Nat->ax}
  (h:∀ q,∀ a w,Ob.GH (er w0 M0 F0) fY.ntmps (dK R.p d (l++dW (⟨(aZ R 1),H⟩:c7) q).length (l++dW (⟨(aZ R 1),H⟩:c7) q) 9 8 []) (la (⟨(aZ R 1),H⟩:c7) q).cv a w->m a w) :
  Ob.aN Tryz.prog ((aV nh).drop 2) (Ob.GH (er w0 M0 F0) fY.ntmps (dK R.p d l.length l 9 8 [(33,aA true)]) (Ob.aj.sep (bA (aZ R 0)) (bz H))) m r x:=by
 refine Ob.dL (E:=(er w0 M0 F0)) (c:=ar (aV nh) 2) m ab ab ?_ (Ob.cr fun _ _ h=>h);refine Ob.aP (G':=Ob.aj.obj (dE (aZ R 0) (bn++[.v (.int .i64 R.fault)])) R.p (bz H)) (by unfold bA;exact (Ob.bF _ _ _).symm) ?_;refine Ob.gR [0] (oA (aZ R 0) d l.length l []) ?_;refine Ob.ep 6 (bC (ar JO 0)) ?_;refine Ob.gA da 6 (fun _=>()) (fun _=>oA (aZ R 0) d l.length l [(39,ag (.pe 1 0 0 1))]) (fun _=>True) ?_ (fun _ _=>?_);intros;refine @aq ((0<=(aZ R 0).phase/\(aZ R 0).phase<(↑(4:Nat):Int))/\(oA (aZ R 0) d l.length l [(39,SV.is (TV.one (Cell.pe 1 0 0 1)))]).ah True) _ ?_ ?_;kernel_rfl;exact⟨⟨by show (0:Int)<=0;decide,by show (0:Int)<4;decide⟩,au trivial⟩;refine Ob.F4 (E:=((er w0 M0 F0).pinned 9 R.p)) 39 1 0 0 1 0 ab rfl ?_;refine Ob.dT da 8 (oA (aZ R 0) d l.length l [(7,ag (.v (qV 36)))]) (Ob.ei ?_);refine Ob.eK da 1 (oA (aZ R 1) d l.length l [(7,ag (.v (qV 36)))]) ?_;refine Ob.fj (E:=(er w0 M0 F0)) (bl:=dE (aZ R 1) (bn++[.v (.int .i64 R.fault)])) [1,8] [9,10,11,12,13,14] 10 (dK R.p d l.length l 9 8 [(7,ag (.v (qV 36)))]) ?_;refine Ob.aP (G':=Ob.aj.sep (bA (aZ R 1)) (bz H)) (by unfold bA;exact Ob.bF _ _ _) ?_;refine Ob.ep 8 (bC (ar JO 2)) ?_;refine Ob.dT da 3 (dK R.p d l.length l 9 8 [(48,ag (.sl 8 0 0 l.length 8)),(49,ag (.v (qV 36))),(50,aB R.p)]) ?_;refine Ob.kj (E:=(er w0 M0 F0)) (aaT sha.dZ) (⟨(aZ R 1),H⟩:c7) e KS (fun q _=>?_);have n:=i q;refine Ob.gA da 6 (fun j=>cT bH 41 j) (fun b=>dK R.p d (l.length+(dW (⟨(aZ R 1),H⟩:c7) q).length) b 42 41 []) (fun b=>b=l++(dW (⟨(aZ R 1),H⟩:c7) q)) ?_ (fun b f=>Ob.ei ?_);intros;refine @aq (l.length<=l.length/\(l.length+(dW { R:=aZ R 1,H:=H } q).length)*80<=140737488355328/\l.length+(dW { R:=aZ R 1,H:=H } q).length<=4611686018427387904/\(dK R.p d (l.length+(dW { R:=aZ R 1,H:=H } q).length) (take l.length l++dW { R:=aZ R 1,H:=H } q) 42 41 []).ah (take l.length l++dW { R:=aZ R 1,H:=H } q=l++dW { R:=aZ R 1,H:=H } q)) _ ?_ ?_;kernel_rfl;refine⟨aI _,aa,aa,au ?_⟩;rw[aT];subst f;refine Ob.xh da 0 [(8,41)] (dK R.p d (l.length+(dW (⟨(aZ R 1),H⟩:c7) q).length) (l++(dW (⟨(aZ R 1),H⟩:c7) q)) 9 8 []) ?_;refine Ob.cr fun a w g=>h q a w ?_;rw[a7];exact g
theorem Xu (R:Rt) (H:bb) (e:c7.ok (⟨(aZ R 2),H⟩:c7)) (d:Int) (l:List (Int × Hbm.aG)) (k:l.length<10000000) (i:∀ q,(eS (⟨(aZ R 2),H⟩:c7) q).length<2000000) {m r:ax} {x:Nat->ax}
  (h:∀ q,∀ a w,Ob.GH (er w0 M0 F0) fY.ntmps (dK R.p d (l++eS (⟨(aZ R 2),H⟩:c7) q).length (l++eS (⟨(aZ R 2),H⟩:c7) q) 9 8 []) (nt (⟨(aZ R 2),H⟩:c7) q).cv a w->m a w) :
  Ob.aN Tryz.prog ((aV nh).drop 2) (Ob.GH (er w0 M0 F0) fY.ntmps (dK R.p d l.length l 9 8 [(33,aA true)]) (Ob.aj.sep (bA (aZ R 1)) (bz H))) m r x:=by
 refine Ob.dL (E:=(er w0 M0 F0)) (c:=ar (aV nh) 2) m ab ab ?_ (Ob.cr fun _ _ h=>h);refine Ob.aP (G':=Ob.aj.obj (dE (aZ R 1) (bn++[.v (.int .i64 R.fault)])) R.p (bz H)) (by unfold bA;exact (Ob.bF _ _ _).symm) ?_;refine Ob.gR [0] (oA (aZ R 1) d l.length l []) ?_;refine Ob.ep 6 (bC (ar JO 0)) ?_;refine Ob.gA da 6 (fun _=>()) (fun _=>oA (aZ R 1) d l.length l [(39,ag (.pe 1 0 1 1))]) (fun _=>True) ?_ (fun _ _=>?_);intros;refine @aq ((0<=(aZ R 1).phase/\(aZ R 1).phase<(↑(4:Nat):Int))/\(oA (aZ R 1) d l.length l [(39,SV.is (TV.one (Cell.pe 1 0 1 1)))]).ah True) _ ?_ ?_;kernel_rfl;exact⟨⟨by show (0:Int)<=1;decide,by show (1:Int)<4;decide⟩,au trivial⟩;refine Ob.F4 (E:=((er w0 M0 F0).pinned 9 R.p)) 39 1 0 1 1 1 ab rfl ?_;refine Ob.dT da 8 (oA (aZ R 1) d l.length l [(7,ag (.v (qV 37)))]) (Ob.ei ?_);refine Ob.eK da 1 (oA (aZ R 2) d l.length l [(7,ag (.v (qV 37)))]) ?_;refine Ob.fj (E:=(er w0 M0 F0)) (bl:=dE (aZ R 2) (bn++[.v (.int .i64 R.fault)])) [1,8] [9,10,11,12,13,14] 10 (dK R.p d l.length l 9 8 [(7,ag (.v (qV 37)))]) ?_;refine Ob.aP (G':=Ob.aj.sep (bA (aZ R 2)) (bz H)) (by unfold bA;exact Ob.bF _ _ _) ?_;refine Ob.ep 8 (bC (ar JO 2)) ?_;refine Ob.dT da 3 (dK R.p d l.length l 9 8 [(48,ag (.sl 8 0 0 l.length 8)),(49,ag (.v (qV 37))),(50,aB R.p)]) ?_;refine Ob.kj (E:=(er w0 M0 F0)) (TA sha.dZ) (⟨(aZ R 2),H⟩:c7) e FT (fun q _=>?_);have n:=i q;refine Ob.gA da 6 (fun j=>cT bH 41 j) (fun b=>dK R.p d (l.length+(eS (⟨(aZ R 2),H⟩:c7) q).length) b 42 41 []) (fun b=>b=l++(eS (⟨(aZ R 2),H⟩:c7) q)) ?_ (fun b f=>Ob.ei ?_);intros;refine @aq (l.length<=l.length/\(l.length+(eS { R:=aZ R 2,H:=H } q).length)*80<=140737488355328/\l.length+(eS { R:=aZ R 2,H:=H } q).length<=4611686018427387904/\(dK R.p d (l.length+(eS { R:=aZ R 2,H:=H } q).length) (take l.length l++eS { R:=aZ R 2,H:=H } q) 42 41 []).ah (take l.length l++eS { R:=aZ R 2,H:=H } q=l++eS { R:=aZ R 2,H:=H } q)) _ ?_ ?_;kernel_rfl;refine⟨aI _,aa,aa,au ?_⟩;rw[aT];subst f;refine Ob.xh da 0 [(8,41)] (dK R.p d (l.length+(eS (⟨(aZ R 2),H⟩:c7) q).length) (l++(eS (⟨(aZ R 2),H⟩:c7) q)) 9 8 []) ?_;refine Ob.cr fun a w g=>h q a w ?_;rw[a7];exact g
theorem Xv (R:Rt) (H:bb) (e:c7.ok (⟨(aZ R 3),H⟩:c7)) (d:Int) (l:List (Int × Hbm.aG)) (k:l.length<10000000) (i:∀ q,(gr (⟨(aZ R 3),H⟩:c7) q).length<2000000) {m r:ax} {x:Nat->ax}
  (h:∀ q,∀ a w,Ob.GH (er w0 M0 F0) fY.ntmps (dK R.p d (l++gr (⟨(aZ R 3),H⟩:c7) q).length (l++gr (⟨(aZ R 3),H⟩:c7) q) 9 8 []) (r5 (⟨(aZ R 3),H⟩:c7) q).cv a w->m a w) :
  Ob.aN Tryz.prog ((aV nh).drop 2) (Ob.GH (er w0 M0 F0) fY.ntmps (dK R.p d l.length l 9 8 [(33,aA true)]) (Ob.aj.sep (bA (aZ R 2)) (bz H))) m r x:=by
 refine Ob.dL (E:=(er w0 M0 F0)) (c:=ar (aV nh) 2) m ab ab ?_ (Ob.cr fun _ _ h=>h);refine Ob.aP (G':=Ob.aj.obj (dE (aZ R 2) (bn++[.v (.int .i64 R.fault)])) R.p (bz H)) (by unfold bA;exact (Ob.bF _ _ _).symm) ?_;refine Ob.gR [0] (oA (aZ R 2) d l.length l []) ?_;refine Ob.ep 6 (bC (ar JO 0)) ?_;refine Ob.gA da 6 (fun _=>()) (fun _=>oA (aZ R 2) d l.length l [(39,ag (.pe 1 0 2 1))]) (fun _=>True) ?_ (fun _ _=>?_);intros;refine @aq ((0<=(aZ R 2).phase/\(aZ R 2).phase<(↑(4:Nat):Int))/\(oA (aZ R 2) d l.length l [(39,SV.is (TV.one (Cell.pe 1 0 2 1)))]).ah True) _ ?_ ?_;kernel_rfl;exact⟨⟨by show (0:Int)<=2;decide,by show (2:Int)<4;decide⟩,au trivial⟩;refine Ob.F4 (E:=((er w0 M0 F0).pinned 9 R.p)) 39 1 0 2 1 2 ab rfl ?_;refine Ob.dT da 8 (oA (aZ R 2) d l.length l [(7,ag (.v (qV 38)))]) (Ob.ei ?_);refine Ob.eK da 1 (oA (aZ R 3) d l.length l [(7,ag (.v (qV 38)))]) ?_;refine Ob.fj (E:=(er w0 M0 F0)) (bl:=dE (aZ R 3) (bn++[.v (.int .i64 R.fault)])) [1,8] [9,10,11,12,13,14] 10 (dK R.p d l.length l 9 8 [(7,ag (.v (qV 38)))]) ?_;refine Ob.aP (G':=Ob.aj.sep (bA (aZ R 3)) (bz H)) (by unfold bA;exact Ob.bF _ _ _) ?_;refine Ob.ep 8 (bC (ar JO 2)) ?_;refine Ob.dT da 3 (dK R.p d l.length l 9 8 [(48,ag (.sl 8 0 0 l.length 8)),(49,ag (.v (qV 38))),(50,aB R.p)]) ?_;refine Ob.kj (E:=(er w0 M0 F0)) (WD sha.dZ) (⟨(aZ R 3),H⟩:c7) e I7 (fun q _=>?_);have n:=i q;refine Ob.gA da 6 (fun j=>cT bH 41 j) (fun b=>dK R.p d (l.length+(gr (⟨(aZ R 3),H⟩:c7) q).length) b 42 41 []) (fun b=>b=l++(gr (⟨(aZ R 3),H⟩:c7) q)) ?_ (fun b f=>Ob.ei ?_);intros;refine @aq (l.length<=l.length/\(l.length+(gr { R:=aZ R 3,H:=H } q).length)*80<=140737488355328/\l.length+(gr { R:=aZ R 3,H:=H } q).length<=4611686018427387904/\(dK R.p d (l.length+(gr { R:=aZ R 3,H:=H } q).length) (take l.length l++gr { R:=aZ R 3,H:=H } q) 42 41 []).ah (take l.length l++gr { R:=aZ R 3,H:=H } q=l++gr { R:=aZ R 3,H:=H } q)) _ ?_ ?_;kernel_rfl;refine⟨aI _,aa,aa,au ?_⟩;rw[aT];subst f;refine Ob.xh da 0 [(8,41)] (dK R.p d (l.length+(gr (⟨(aZ R 3),H⟩:c7) q).length) (l++(gr (⟨(aZ R 3),H⟩:c7) q)) 9 8 []) ?_;refine Ob.cr fun a w g=>h q a w ?_;rw[a7];exact g
theorem Xw (R:Rt) (H:bb) (f:c7.ok (⟨(aZ R 4),H⟩:c7)) (d:Int) (l:List (Int × Hbm.aG)) (j:l.length<10000000) {m r:ax} {x:Nat->ax}
  (h:∀ a w,Ob.GH (er w0 M0 F0) fY.ntmps (dK R.p d l.length l 9 8 []) (Ob.aj.sep (kq (aZ R 4)) (bz H)) a w->m a w) :
  Ob.aN Tryz.prog ((aV nh).drop 2) (Ob.GH (er w0 M0 F0) fY.ntmps (dK R.p d l.length l 9 8 [(33,aA true)]) (Ob.aj.sep (bA (aZ R 3)) (bz H))) m r x:=by
 refine Ob.dL (E:=(er w0 M0 F0)) (c:=ar (aV nh) 2) m ab ab ?_ (Ob.cr fun _ _ h=>h);refine Ob.aP (G':=Ob.aj.obj (dE (aZ R 3) (bn++[.v (.int .i64 R.fault)])) R.p (bz H)) (by unfold bA;exact (Ob.bF _ _ _).symm) ?_;refine Ob.gR [0] (oA (aZ R 3) d l.length l []) ?_;refine Ob.ep 6 (bC (ar JO 0)) ?_;refine Ob.gA da 6 (fun _=>()) (fun _=>oA (aZ R 3) d l.length l [(39,ag (.pe 1 0 3 1))]) (fun _=>True) ?_ (fun _ _=>?_);intros;refine @aq ((0<=(aZ R 3).phase/\(aZ R 3).phase<(↑(4:Nat):Int))/\(oA (aZ R 3) d l.length l [(39,SV.is (TV.one (Cell.pe 1 0 3 1)))]).ah True) _ ?_ ?_;kernel_rfl;exact⟨⟨by show (0:Int)<=3;decide,by show (3:Int)<4;decide⟩,au trivial⟩;refine Ob.F4 (E:=((er w0 M0 F0).pinned 9 R.p)) 39 1 0 3 1 3 ab rfl ?_;refine Ob.dT da 8 (oA (aZ R 3) d l.length l [(7,ag (.v (qV 39)))]) (Ob.ei ?_);refine Ob.eK da 1 (oA (aZ R 4) d l.length l [(7,ag (.v (qV 39)))]) ?_;refine Ob.fj (E:=(er w0 M0 F0)) (bl:=dE (aZ R 4) (bn++[.v (.int .i64 R.fault)])) [1,8] [9,10,11,12,13,14] 10 (dK R.p d l.length l 9 8 [(7,ag (.v (qV 39)))]) ?_;refine Ob.aP (G':=Ob.aj.sep (bA (aZ R 4)) (bz H)) (by unfold bA;exact Ob.bF _ _ _) ?_;refine Ob.ep 8 (bC (ar JO 2)) ?_;refine Ob.dT da 3 (dK R.p d l.length l 9 8 [(48,ag (.sl 8 0 0 l.length 8)),(49,ag (.v (qV 39))),(50,aB R.p)]) ?_;refine Ob.kj (E:=(er w0 M0 F0)) TC (⟨(aZ R 4),H⟩:c7) f FV (fun q _=>?_);refine Ob.gA da 6 (fun i=>cT bH 41 i) (fun b=>dK R.p d l.length b 42 41 []) (fun b=>b=l) ?_ (fun b e=>Ob.ei ?_);intros;refine @aq (l.length<=l.length/\(l.length+0)*80<=140737488355328/\l.length+0<=4611686018427387904/\(dK R.p d l.length (take l.length l++[]) 42 41 []).ah (take l.length l++[]=l)) _ ?_ ?_;kernel_rfl;refine⟨aI _,aa,aa,au ?_⟩;rw[aT,bw];have e:=e.symm;subst e;refine Ob.xh da 0 [(8,41)] (dK R.p d l.length l 9 8 []) ?_;exact Ob.cr fun a w g=>h a w g
end
set_option maxHeartbeats 4000000
theorem eF.ph {c:Nat} {R:Rt} {H:bb} (h:eF c R H) (k:Int):eF c (aZ R k) H:=⟨h.hub,h.hp,h.me,h.dl,h.tk,h.dI,h.tI,h.old,h.a6,h.need,h.deals,h.pubs,h.faults,h.whom,h.proofs,h.a5,h.frl⟩
structure iH (z y:c7):Prop where
 p:y.R.p=z.R.p
 me:y.R.me=z.R.me
 phase:y.R.phase=z.R.phase
 start:y.R.start=z.R.start
 span:y.R.span=z.R.span
theorem Nv (R:Rt) (d:Int) (x:Fr):(eX R d x).phase=R.phase/\(eX R d x).start=R.start/\(eX R d x).span=R.span:=by unfold eX;split<;>exact⟨rfl,rfl,rfl⟩
theorem Fb (z:SayIn) (q:Nat × Nat × Nat):iH ⟨z.R,z.H⟩ ⟨pS z q,qC z q⟩:=by have k:=uS (Hbn.iS z.H z.tp (eD z.b) q).2.2 z.R;exact⟨k.p,k.me,k.phase,k.start,k.span⟩
theorem xj (z:c7) (q:Nat × Nat × Nat):iH z (la z q):=by
 unfold la;split
 ·have k:=Fb (oq z) q;have e:(dm z.R z.R.takers).p=z.R.p/\(dm z.R z.R.takers).me=z.R.me/\(dm z.R z.R.takers).phase=z.R.phase/\(dm z.R z.R.takers).start=z.R.start/\(dm z.R z.R.takers).span=z.R.span:=by
   unfold dm;split;have a:=Gc z.R z.R.me (poly.pat z.R.a6 z.R.me);have b:=Nv z.R z.R.me (poly.pat z.R.a6 z.R.me);exact⟨a.1,a.2.1,b.1,b.2.1,b.2.2⟩;exact⟨rfl,rfl,rfl,rfl,rfl⟩
  exact⟨k.p.trans e.1,k.me.trans e.2.1,k.phase.trans e.2.2.1,k.start.trans e.2.2.2.1,k.span.trans e.2.2.2.2⟩
 exact⟨rfl,rfl,rfl,rfl,rfl⟩
theorem zy (z:c7) (q:Nat × Nat × Nat):iH z (nt z q):=by unfold nt;split;exact Fb (ry z) q;exact⟨rfl,rfl,rfl,rfl,rfl⟩
theorem Dy (z:c7) (q:Nat × Nat × Nat):iH z (r5 z q):=by unfold r5;split;exact Fb (xz z) q;exact⟨rfl,rfl,rfl,rfl,rfl⟩
theorem Lk {c:Nat} {z:c7} (h:eF c z.R z.H) (q:Nat × Nat × Nat):eF (c+2) (la z q).R (la z q).H:=by unfold la;split;exact eF.said (z:=oq z) (h.handed _) (Hm _) q;exact h.mono aa
theorem NP {c:Nat} {z:c7} (h:eF c z.R z.H) (q:Nat × Nat × Nat):eF (c+2) (nt z q).R (nt z q).H:=by unfold nt;split;exact (eF.said (z:=ry z) h (Hu _ _) q).mono aa;exact h.mono aa
theorem TY {c:Nat} {z:c7} (h:eF c z.R z.H) (q:Nat × Nat × Nat):eF (c+2) (r5 z q).R (r5 z q).H:=by unfold r5;split;exact (eF.said (z:=xz z) h (Mm _ _) q).mono aa;exact h.mono aa
theorem Ll {c:Nat} {z:c7} (h:eF c z.R z.H) (q:Nat × Nat × Nat):(dW z q).length<2000000:=by unfold dW;split;have a:=xi z.R z.R.takers;have b:=Au (z:=oq z) h.hub (Hm _) q;have c:=h.tk;rw[a7];omega;exact mY _
theorem yu {c:Nat} {z:c7} (h:eF c z.R z.H) (q:Nat × Nat × Nat):(eS z q).length<2000000:=by unfold eS;split;have b:=Au (z:=ry z) h.hub (Hu _ _) q;omega;exact mY _
theorem TZ {c:Nat} {z:c7} (h:eF c z.R z.H) (q:Nat × Nat × Nat):(gr z q).length<2000000:=by unfold gr;split;have b:=Au (z:=xz z) h.hub (Mm _ _) q;omega;exact mY _
structure dF where
 z:c7
 fin:Bool
def dF.rt (t:dF):Ob.aj:=match t.fin with
 | true=>kq t.z.R
 | false=>bA t.z.R
abbrev dF.cv (t:dF):Ob.aj:=Ob.aj.sep t.rt (bz t.z.H)
def dp (t:dF) (q:Nat × Nat × Nat):dF × List (Int × Hbm.aG) :=
 if t.z.R.phase=0 then (⟨la ⟨aZ t.z.R 1,t.z.H⟩ q,false⟩,dW ⟨aZ t.z.R 1,t.z.H⟩ q)
 else if t.z.R.phase=1 then (⟨nt ⟨aZ t.z.R 2,t.z.H⟩ q,false⟩,eS ⟨aZ t.z.R 2,t.z.H⟩ q)
 else if t.z.R.phase=2 then (⟨r5 ⟨aZ t.z.R 3,t.z.H⟩ q,false⟩,gr ⟨aZ t.z.R 3,t.z.H⟩ q)
 else (⟨⟨aZ t.z.R 4,t.z.H⟩,true⟩,[])
inductive Ticks (now:Int):dF->dF->List (Int × Hbm.aG)->Prop
 | stop (t:dF):j0 t.z.R now=false->Ticks now t t []
 | step (t:dF) (q:Nat × Nat × Nat) (u:dF) (o:List (Int × Hbm.aG)):j0 t.z.R now=true->Ticks now (dp t q).1 u o->Ticks now t u ((dp t q).2++o)
structure TOk (t:dF):Prop where
 inv:∃ c,c<=28000+2*t.z.R.phase.toNat/\eF c t.z.R t.z.H
 lo:0<=t.z.R.phase
 hi:t.z.R.phase<=4
 fin:t.fin=true->t.z.R.phase=4
theorem KN {R:Rt} {a:Int} (h:j0 R a=true):R.phase<4:=by unfold j0 at h;rw[aX] at h;exact Odt h.1
theorem Ah {R:Rt} {k:Int} (h:R.phase=k):R=aZ R k:=by cases R;subst h;rfl
theorem WC (a:Nat->Option (Sigma aH)):Ob.ez Tryz.prog a 35 (fun t:dF=>[aB t.z.R.p]) (fun _=>True) dF.cv (fun _ (_:Unit)=>aA false) (fun t _=>t.cv) (fun _ _=>True):=by
 rintro⟨⟨R,H⟩,f⟩ _;cases f;exact Ob.b5 (fun _=>bz H) (Aa a) R trivial
 ·cases b:(fg R).1 with
  | none =>
   have e:dF.cv ⟨⟨R,H⟩,true⟩=Ob.aj.sep (bA { R with fault:=(fg R).2 }) (bz H):=by show Ob.aj.sep (kq R) _=_;unfold kq;rw[b]
   simp only[e];exact Ob.b5 (fun _=>bz H) (Aa a) { R with fault:=(fg R).2 } trivial
  | some y =>
   have e:dF.cv ⟨⟨R,H⟩,true⟩=Ob.aj.sep (p4 R y) (bz H):=by show Ob.aj.sep (kq R) _=_;unfold kq;rw[b]
   simp only[e];exact Ob.b5 (fun _=>bz H) (ER a y) R trivial
section
variable (w0:World) (M0:Mem) (F0:Nat->Prop)
theorem Xy (t:dF) (b:Int) (l:List (Int × Hbm.aG)) (n:Nat) {m r:ax} {x:Nat->ax}
  (d:j0 t.z.R b=true->Ob.aN Tryz.prog ((aV nh).drop 2) (Ob.GH (er w0 M0 F0) fY.ntmps (dK t.z.R.p b n l 9 8 [(33,aA true)]) t.cv) m r x)
  (g:j0 t.z.R b=false->∀ a w,Ob.GH (er w0 M0 F0) fY.ntmps (dK t.z.R.p b n l 9 8 []) t.cv a w->x (b7 nh) a w) :
  Ob.aN Tryz.prog (aV nh) (Ob.GH (er w0 M0 F0) fY.ntmps (dK t.z.R.p b n l 9 8 []) t.cv) m r x:=by
 obtain⟨⟨R,H⟩,f⟩:=t;cases f;exact PC w0 M0 F0 R b l n (bz H) d g
 ·cases h:(fg R).1 with
  | none =>
   have e:dF.cv ⟨⟨R,H⟩,true⟩=Ob.aj.sep (bA { R with fault:=(fg R).2 }) (bz H):=by show Ob.aj.sep (kq R) _=_;unfold kq;rw[h]
   rw[e] at d g ⊢;exact PC w0 M0 F0 { R with fault:=(fg R).2 } b l n (bz H) d g
  | some y =>
   have e:dF.cv ⟨⟨R,H⟩,true⟩=Ob.aj.sep (p4 R y) (bz H):=by show Ob.aj.sep (kq R) _=_;unfold kq;rw[h]
   rw[e] at d g ⊢;exact Xx w0 M0 F0 R y b l n (bz H) d g
theorem abF (t:dF) (y:TOk t) (b:Int) (C:j0 t.z.R b=true) (l:List (Int × Hbm.aG)) (u:l.length<10000000) {m r:ax} {x:Nat->ax}
  (h:∀ q,TOk (dp t q).1->(dp t q).1.z.R.p=t.z.R.p->(dp t q).1.z.R.phase=t.z.R.phase+1->(dp t q).2.length<2000000->∀ a w,Ob.GH (er w0 M0 F0) fY.ntmps (dK t.z.R.p b (l++(dp t q).2).length (l++(dp t q).2) 9 8 []) (dp t q).1.cv a w->m a w) :
  Ob.aN Tryz.prog ((aV nh).drop 2) (Ob.GH (er w0 M0 F0) fY.ntmps (dK t.z.R.p b l.length l 9 8 [(33,aA true)]) t.cv) m r x:=by
 obtain⟨⟨R,H⟩,f⟩:=t;have G:R.phase<4:=KN C;have F:0<=R.phase:=y.lo;have D:f=false:=by cases f;rfl;have:R.phase=4:=y.fin rfl;omega
 subst D;obtain⟨c,i,o⟩:=y.inv;have o:eF c R H:=o;have i:c<=28000+2*R.phase.toNat:=i;have A:R.phase=0\/R.phase=1\/R.phase=2\/R.phase=3:=aa;rcases A with k|k|k|k
 ·have e:∀ q,dp ⟨⟨R,H⟩,false⟩ q=(⟨la ⟨aZ R 1,H⟩ q,false⟩,dW ⟨aZ R 1,H⟩ q):=fun q=>by
   unfold dp;rw[ak k]
  have j:Ob.GH (er w0 M0 F0) fY.ntmps (dK R.p b l.length l 9 8 [(33,aA true)]) (dF.cv ⟨⟨R,H⟩,false⟩)=Ob.GH (er w0 M0 F0) fY.ntmps (dK R.p b l.length l 9 8 [(33,aA true)]) (Ob.aj.sep (bA (aZ R 0)) (bz H)):=by rw[<- Ah k];rfl
  show Ob.aN _ _ (Ob.GH (er w0 M0 F0) fY.ntmps (dK R.p b l.length l 9 8 [(33,aA true)]) (dF.cv ⟨⟨R,H⟩,false⟩)) m r x;rw[j];have d:=o.ph 1;refine Xt w0 M0 F0 R H ⟨c,by rw[k] at i;have:(0:Int).toNat=0:=rfl;omega,d⟩ b l u (fun q=>Ll d q) (fun q a w n=>h q ?_ ?_ ?_ ?_ a w ?_);rw[e];have s:=xj ⟨aZ R 1,H⟩ q;have g:(la ⟨aZ R 1,H⟩ q).R.phase=1:=s.phase;exact⟨⟨c+2,by rw[k] at i;rw[g];have:(0:Int).toNat=0:=rfl;have:(1:Int).toNat=1:=rfl;omega,Lk d q⟩,by show (0:Int)<=_;rw[g];decide,by show _<=(4:Int);rw[g];decide,fun h=>by cases h⟩;rw[e];exact (xj ⟨aZ R 1,H⟩ q).p;rw[e];show _=R.phase+1;rw[k];exact (xj ⟨aZ R 1,H⟩ q).phase;rw[e];exact Ll d q;rw[e];exact n
 ·have e:∀ q,dp ⟨⟨R,H⟩,false⟩ q=(⟨nt ⟨aZ R 2,H⟩ q,false⟩,eS ⟨aZ R 2,H⟩ q):=fun q=>by
   unfold dp;rw[ai (by rw[k];decide),ak k]
  have j:Ob.GH (er w0 M0 F0) fY.ntmps (dK R.p b l.length l 9 8 [(33,aA true)]) (dF.cv ⟨⟨R,H⟩,false⟩)=Ob.GH (er w0 M0 F0) fY.ntmps (dK R.p b l.length l 9 8 [(33,aA true)]) (Ob.aj.sep (bA (aZ R 1)) (bz H)):=by rw[<- Ah k];rfl
  show Ob.aN _ _ (Ob.GH (er w0 M0 F0) fY.ntmps (dK R.p b l.length l 9 8 [(33,aA true)]) (dF.cv ⟨⟨R,H⟩,false⟩)) m r x;rw[j];have d:=o.ph 2;refine Xu w0 M0 F0 R H ⟨c,by rw[k] at i;have:(1:Int).toNat=1:=rfl;omega,d⟩ b l u (fun q=>yu d q) (fun q a w n=>h q ?_ ?_ ?_ ?_ a w ?_);rw[e];have s:=zy ⟨aZ R 2,H⟩ q;have g:(nt ⟨aZ R 2,H⟩ q).R.phase=2:=s.phase;exact⟨⟨c+2,by rw[k] at i;rw[g];have:(1:Int).toNat=1:=rfl;have:(2:Int).toNat=2:=rfl;omega,NP d q⟩,by show (0:Int)<=_;rw[g];decide,by show _<=(4:Int);rw[g];decide,fun h=>by cases h⟩;rw[e];exact (zy ⟨aZ R 2,H⟩ q).p;rw[e];show _=R.phase+1;rw[k];exact (zy ⟨aZ R 2,H⟩ q).phase;rw[e];exact yu d q;rw[e];exact n
 ·have e:∀ q,dp ⟨⟨R,H⟩,false⟩ q=(⟨r5 ⟨aZ R 3,H⟩ q,false⟩,gr ⟨aZ R 3,H⟩ q):=fun q=>by
   unfold dp;rw[ai (by rw[k];decide),ai (by rw[k];decide),ak k]
  have j:Ob.GH (er w0 M0 F0) fY.ntmps (dK R.p b l.length l 9 8 [(33,aA true)]) (dF.cv ⟨⟨R,H⟩,false⟩)=Ob.GH (er w0 M0 F0) fY.ntmps (dK R.p b l.length l 9 8 [(33,aA true)]) (Ob.aj.sep (bA (aZ R 2)) (bz H)):=by rw[<- Ah k];rfl
  show Ob.aN _ _ (Ob.GH (er w0 M0 F0) fY.ntmps (dK R.p b l.length l 9 8 [(33,aA true)]) (dF.cv ⟨⟨R,H⟩,false⟩)) m r x;rw[j];have d:=o.ph 3;refine Xv w0 M0 F0 R H ⟨c,by rw[k] at i;have:(2:Int).toNat=2:=rfl;omega,d⟩ b l u (fun q=>TZ d q) (fun q a w n=>h q ?_ ?_ ?_ ?_ a w ?_);rw[e];have s:=Dy ⟨aZ R 3,H⟩ q;have g:(r5 ⟨aZ R 3,H⟩ q).R.phase=3:=s.phase;exact⟨⟨c+2,by rw[k] at i;rw[g];have:(2:Int).toNat=2:=rfl;have:(3:Int).toNat=3:=rfl;omega,TY d q⟩,by show (0:Int)<=_;rw[g];decide,by show _<=(4:Int);rw[g];decide,fun h=>by cases h⟩;rw[e];exact (Dy ⟨aZ R 3,H⟩ q).p;rw[e];show _=R.phase+1;rw[k];exact (Dy ⟨aZ R 3,H⟩ q).phase;rw[e];exact TZ d q;rw[e];exact n
 ·have e:∀ q,dp ⟨⟨R,H⟩,false⟩ q=(⟨⟨aZ R 4,H⟩,true⟩,[]):=fun q=>by
   unfold dp;rw[ai (by rw[k];decide),ai (by rw[k];decide),ai (by rw[k];decide)]
  have j:Ob.GH (er w0 M0 F0) fY.ntmps (dK R.p b l.length l 9 8 [(33,aA true)]) (dF.cv ⟨⟨R,H⟩,false⟩)=Ob.GH (er w0 M0 F0) fY.ntmps (dK R.p b l.length l 9 8 [(33,aA true)]) (Ob.aj.sep (bA (aZ R 3)) (bz H)):=by rw[<- Ah k];rfl
  show Ob.aN _ _ (Ob.GH (er w0 M0 F0) fY.ntmps (dK R.p b l.length l 9 8 [(33,aA true)]) (dF.cv ⟨⟨R,H⟩,false⟩)) m r x;rw[j];have d:=o.ph 4;refine Xw w0 M0 F0 R H ⟨c,by rw[k] at i;have:(3:Int).toNat=3:=rfl;omega,d⟩ b l u (fun a w n=>h (0,0,0) ?_ ?_ ?_ ?_ a w ?_);rw[e];exact⟨⟨c,by rw[k] at i;have:(3:Int).toNat=3:=rfl;show c<=28000+2*(4:Int).toNat;have:(4:Int).toNat=4:=rfl;omega,d⟩,by show (0:Int)<=4;decide,by show (4:Int)<=4;decide,fun _=>rfl⟩;rw[e];rw[e];show (4:Int)=R.phase+1;rw[k];rfl;rw[e];exact mY _;rw[e];show Ob.GH (er w0 M0 F0) fY.ntmps (dK R.p b (l++[]).length (l++[]) 9 8 []) (Ob.aj.sep (kq (aZ R 4)) (bz H)) a w;rw[bw];exact n
end
set_option maxHeartbeats 4000000
def tiA (p:Nat) (a:Int) (b:List (Nat × SV)):St:=av fY.ntmps 8 ([(0,aB p),(1,sI .i64 a)]++b) []
def ajq (p:Nat) (a:Int):St:=av fY.ntmps 8 [(0,aB p),(1,sI .i64 a),(5,ag (.sl 1 0 0 4 1)),(6,fM)] [(1,QE)]
structure TVal (t:dF) (now:Int) (g:dF × List (Int × Hbm.aG)):Prop where
 ok:TOk g.1
 p:g.1.z.R.p=t.z.R.p
 len:g.2.length<=2000000*g.1.z.R.phase.toNat
 far:∀ u o,Ticks now g.1 u o->Ticks now t u (g.2++o)
theorem H7:Ob.ez Tryz.prog sha.dZ 10 (fun z:dF × Int=>[aB z.1.z.R.p,sI .i64 z.2]) (fun z=>TOk z.1) (fun z=>z.1.cv) (fun _ (y:dF × List (Int × Hbm.aG))=>ag (.ro bH y.2)) (fun _ y=>y.1.cv) (fun z y=>Ticks z.2 z.1 y.1 y.2):=by refine Ob.c9 (sp:=Xs) zG ab (fun z=>by show 2<=fY.ntmps;exact Odt ab) (fun z _=>rfl) ?_;rintro⟨t,b⟩ C k f e;have C:TOk t:=C;refine Ob.eK da 1 (tiA t.z.R.p b []) ?_;refine Ob.ep 1 (bC (ar (al fY) 1)) ?_;refine Ob.dT da 1 (tiA t.z.R.p b [(8,aB t.z.R.p)]) ?_;refine Ob.kj (E:=er k f e) (WC sha.dZ) t trivial kM (fun _ _=>?_);refine Ob.ei ?_;refine Ob.e5 (ar (al fY) 2) ?_;refine Ob.fR (tiA t.z.R.p b []) ?_;refine Ob.xh da 2 [(1,8)] (ajq t.z.R.p b) ?_;refine Ob.qY 6 8 (.row bH 0 []) ab ?_;refine Ob.fR (dK t.z.R.p b 0 [] 9 8 []) ?_;refine Ob.sV (α:=dF × List (Int × Hbm.aG)) (β:=dF × List (Int × Hbm.aG)) (c:=nh) (fun g a w=>TVal t b g/\Ob.GH (er k f e) fY.ntmps (dK t.z.R.p b g.2.length g.2 9 8 []) g.1.cv a w) (fun g=>(4-g.1.z.R.phase).toNat) (fun o a w=>Ticks b t o.1 o.2/\Ob.GH (er k f e) fY.ntmps (dK t.z.R.p b o.2.length o.2 9 8 []) o.1.cv a w) ab ab (fun a w h=>⟨(t,[]),⟨C,rfl,a8 _,fun _ _ h=>h⟩,h⟩) (fun g=>?_) (fun o=>?_);obtain⟨g,l⟩:=g;intro a w Q j s x A;obtain⟨⟨d,m,D,r⟩,i⟩:=j;have d:TOk g:=d;have m:g.z.R.p=t.z.R.p:=m;have D:l.length<=2000000*g.z.R.phase.toNat:=D;have r:∀ u o,Ticks b g u o->Ticks b t u (l++o):=r;have H:=d.lo;have G:=d.hi;have i:Ob.GH (er k f e) fY.ntmps (dK t.z.R.p b l.length l 9 8 []) g.cv a w:=i;rw[<- m] at i;refine Xy k f e g b l l.length (fun n=>?_) (fun n=>?_) a w Q i s x A;have L:=KN n;refine abF k f e g d b n l aa (fun q I K F N a w j=>⟨((dp g q).1,l++(dp g q).2),⟨⟨I,K.trans m,?_,fun u o h=>?_⟩,?_⟩,?_⟩);show (l++(dp g q).2).length<=2000000*(dp g q).1.z.R.phase.toNat;rw[a7,F];omega;show Ticks b t u ((l++(dp g q).2)++o);rw[cH];exact r u _ (.step g q u o n h);rw[<- m];exact j;show (4-(dp g q).1.z.R.phase).toNat<(4-g.z.R.phase).toNat;rw[F];omega;intro a w j;rw[gi];refine⟨(g,l),?_,?_⟩;have:=r g [] (.stop g n);rw[bw] at this;exact this;rw[<- m];exact j;obtain⟨u,o⟩:=o;intro a w Q j s x A;obtain⟨d,i⟩:=j;have d:Ticks b t u o:=d;revert a w Q;refine fun a w Q s x A i=>(?_:Ob.aN _ _ (Ob.GH (er k f e) fY.ntmps (dK t.z.R.p b o.length o 9 8 []) u.cv) _ _ _) a w Q i s x A;refine Ob.OB 6 8 o.length 8 bH o ?_;exact Ob.sn da _ ⟨(u,o),d,Ob.br _,rfl⟩
set_option maxHeartbeats 4000000
theorem ZE:enters Tryz.prog 30 Tryz.f30:=ek
abbrev r3:HL [.sl iK]->Prop:=fun (c,_)=>length c<1048576
theorem KZ:aO Tryz.prog 30 [.sl iK] [.own iK] bB r3 (fun (c,_)=>(c,())):=by have a:aJ Tryz.prog (aU []):=bD;refine xg (sp:=aU []) ZE ae ae ab ?_ ?_;rintro w M0 ⟨⟩ _ b;show Tr _ _ _ _ _ _ _;refine bJ a mixed _ _ ?_;refine aq (X:=((([]:List (Int)),())=(([]:List (Int)),()))) ab rfl;rintro w M0 c ⟨⟩ _ _ b;revert c;intro (c:List (Int)) _ b;have b:c.length<1048576:=b;show Tr _ _ _ _ _ _ _;refine bJ a mixed _ _ ?_;refine @aq (0<=0/\(0+c.length)*8<=140737488355328/\0+c.length<=4611686018427387904/\0+(0+c.length)<=0+c.length/\(take (0+c.length) (take 0 []++c),())=(c,())) _ ?_ ?_;kernel_rfl;rw[tR,dG,bO,aT];exact⟨aI _,aa,aa,aa,rfl⟩
def YW:Nat × Eng.Spec:=(30,aK [.sl iK] [.own iK] r3 (fun (c,_)=>(c,())))
theorem ZD:enters Tryz.prog 32 Tryz.f32:=ek
abbrev GC:HL [.sl .fr]->Prop:=fun (c,_)=>length c<1048576
theorem acy:aO Tryz.prog 32 [.sl .fr] [.own .fr] bB GC (fun (c,_)=>(c,())):=by have a:aJ Tryz.prog (aU []):=bD;refine xg (sp:=aU []) ZD ae ae ab ?_ ?_;rintro w M0 ⟨⟩ _ b;show Tr _ _ _ _ _ _ _;refine bJ a mixed _ _ ?_;refine aq (X:=((([]:List (Fr)),())=(([]:List (Fr)),()))) ab rfl;rintro w M0 c ⟨⟩ _ _ b;revert c;intro (c:List (Fr)) _ b;have b:c.length<1048576:=b;show Tr _ _ _ _ _ _ _;refine bJ a mixed _ _ ?_;refine @aq (0<=0/\(0+c.length)*32<=140737488355328/\0+c.length<=4611686018427387904/\0+(0+c.length)<=0+c.length/\(take (0+c.length) (take 0 []++c),())=(c,())) _ ?_ ?_;kernel_rfl;rw[tR,dG,bO,aT];exact⟨aI _,aa,aa,aa,rfl⟩
theorem Yl {E:Ob.cf} {N:Nat} {l:List Code} {a:Array Oper} {j:Nat} {n r:ax} {x:Nat->ax} {b:St} {G:Ob.aj} (t:Nat) (d:b.S t=aA false) (c:Ob.kz E.P a j l (Ob.GH E N ⟨b.slots.set t (ag .F),b.blks,b.next⟩ G) n r x):Ob.kz E.P a j l (Ob.GH E N b G) n r x :=
 Ob.kJ (E:=E) (fun _ _ e=>e.ref t _ (by rw[d];exact fun _ _ h=>h.1)) c
theorem sJ:enters Tryz.prog 13 Tryz.f13:=ek
abbrev yG:Func:=Tryz.f13
abbrev Qn:=aU [YW,IA]
theorem gQ:aJ Tryz.prog Qn:=aM (aR KZ) (aM (aR EA) bD)
abbrev UQ:List Cell:=[.v (.slice none 0 0),.v (.slice none 0 0),.row .fr 1 [(0:Fr)],.ints .u8 32 (replicate 32 0)]
abbrev enS:List (Nat × SV):=[(2,ao 0 0),(3,sI .i64 0),(4,ag .F)]
def Yd (p:Nat) (a:List (Nat × SV)):St:=av yG.ntmps 8 ([(0,aB p)]++enS++a) [(0,UQ)]
def Oe (R:Rt) (t:List Cell) (a:List (Nat × SV)):St:=av yG.ntmps 14 ([(0,ao 8 0)]++enS++a) ((0,UQ)::hU R (t++[.v (.int .i64 R.fault)]))
def enT:St:=av yG.ntmps 8 enS [(0,UQ)]
def DZ (R:Rt) (t:List Cell) (a b c d:Cell) (f:Nat) (e:List (Nat × List Cell)):St:=av yG.ntmps f [(0,ao 8 0),(2,ao 0 0),(5,ao 46 0)] ((0,UQ)::(46,[a,b,c,d])::e++hU R (t++[.v (.int .i64 R.fault)]))
def enG (R:Rt) (t:List Cell) (a b c d:Cell):St:=av yG.ntmps 14 [(2,ao 0 0),(3,sI .i64 R.fault),(4,ag .T)] ((0,[a,b,c,d])::hU R (t++[.v (.int .i64 R.fault)]))
def enN (a b c d:Cell) (f:Int):St:=av yG.ntmps 8 [(2,ao 0 0),(3,sI .i64 f),(4,ag .T)] [(0,[a,b,c,d])]
abbrev xc (q:List Int) (c:List Pt) (s d:Cell) (f:Int):SV:=.tup [.agg [.ro iK q,.ro aQ c,s,d],.one (.v (.int .i64 f)),.one .T]
abbrev KP:SV:=.tup [.agg UQ,.one (.v (.int .i64 0)),.one .F]
abbrev zF:Cell:=.ints .u64 4 [0,0,0,0]
abbrev zD:Cell:=.ints .u8 32 (replicate 32 0)
section
variable (gl:Nat->Option (Sigma aH)) (w0:World) (M0:Mem) (F0:Nat->Prop)
abbrev FQ:Ob.cf:=Ob.lj Tryz.prog Qn gl w0 M0 F0
end
theorem OX (gl:Nat->Option (Sigma aH)):Ob.ez Tryz.prog gl 13 (fun R:Rt=>[aB R.p]) (fun R=>True) (fun R=>bA R) (fun R (_:Unit)=>(if R.phase<4 then KP else xc [] [] zF zD R.fault)) (fun R _=>bA R) (fun _ _=>True):=by refine Ob.c9 (sp:=Qn) sJ ab (fun z=>by show 1<=yG.ntmps;exact Odt ab) (fun z _=>by show SV.ids (if z.phase<4 then KP else _)=[];split<;>rfl) ?_;intro R d w0 M0 F0;refine Ob.eK gQ 1 (Yd R.p []) ?_;refine Ob.ep 1 (bC (ar (al yG) 1)) ?_;refine Ob.dT gQ 1 (Yd R.p [(6,aB R.p)]) ?_;refine Ob.kj (E:=(FQ gl w0 M0 F0)) (Aa gl) R trivial kM (fun _ _=>?_);refine Yl (E:=(FQ gl w0 M0 F0)) 7 ab ?_;unfold bA;refine Ob.sQ (E:=(FQ gl w0 M0 F0)) [0] ab (Oe R bn [(7,ag .F)]) (ay ab ab trivial) ?_;refine Ob.gA gQ 9 (fun c=>bo .bool 14 c) (fun q=>Oe R bn [(14,aA q)]) (fun q=>q=decide (R.phase<4)) ?_ (fun q b=>Ob.ei ?_);intros;refine @aq ((Oe R bn [(14,aA (decide (R.phase<4)))]).ah (decide (R.phase<4)=decide (R.phase<4))) _ ?_ ?_;kernel_rfl;exact au rfl;cases q;have a:¬ R.phase<4:=Odf b.symm;refine Ob.e5 (ar (al yG) 2) ?_;refine Ob.eK gQ 1 (DZ R bn (.v (.slice none 0 0)) (.v (.slice none 0 0)) zF zD 47 []) ?_;refine Ob.gcd gQ 1 (fun _=>()) (fun _=>DZ R bn (.sl 63 0 0 0 1) (.v (.slice none 0 0)) zF zD 64 [(63,[.ints .i64 0 ([]:List Int)])]) (fun _=>True) ?_ (fun _ _=>?_);intros;refine @aq (r3 ([],())/\(DZ R bn (Cell.sl 63 0 0 0 1) (Cell.v (Value.slice none 0 0)) zF zD 64 [(63,[Cell.ints i64 0 []])]).ah True) _ ?_ ?_;kernel_rfl;exact⟨mY _,au trivial⟩;refine Ob.gcd gQ 1 (fun _=>()) (fun _=>DZ R bn (.sl 63 0 0 0 1) (.sl 80 0 0 0 12) zF zD 81 [(80,[.row aQ 0 ([]:List Pt)]),(63,[.ints .i64 0 ([]:List Int)])]) (fun _=>True) ?_ (fun _ _=>?_);intros;refine @aq (pb ([],())/\(DZ R bn (Cell.sl 63 0 0 0 1) (Cell.sl 80 0 0 0 12) zF zD 81 [(80,[Cell.row aQ 0 []]),(63,[Cell.ints i64 0 []])]).ah True) _ ?_ ?_;kernel_rfl;exact⟨mY _,au trivial⟩;refine Ob.sS [] 46 63 0 1 (.int .i64) ([]:List Int) (.ints .i64 0 ([]:List Int)) [.sl 80 0 0 0 12,zF,zD] ae Ob.xm rfl rfl rfl ?_;refine Ob.sS [.ro iK ([]:List Int)] 46 80 0 12 aQ ([]:List Pt) (.row aQ 0 ([]:List Pt)) [zF,zD] ae (fun _ _ h=>h) rfl rfl rfl ?_;refine Ob.eK gQ 1 (enG R bn (.ro iK ([]:List Int)) (.ro aQ ([]:List Pt)) zF zD) ?_;refine Ob.fj (E:=(FQ gl w0 M0 F0)) (bl:=dE R (bn++[.v (.int .i64 R.fault)])) [0] [8,9,10,11,12,13] 9 (enN (.ro iK ([]:List Int)) (.ro aQ ([]:List Pt)) zF zD R.fault) ?_;exact Ob.sn gQ (xc ([]:List Int) ([]:List Pt) zF zD R.fault) ⟨(),trivial,by rw[ai a];exact Ob.br _,rfl⟩;have a:R.phase<4:=Odt b.symm;refine Ob.je (ar (al yG) 2) ?_;refine Ob.fj (E:=(FQ gl w0 M0 F0)) (bl:=dE R (bn++[.v (.int .i64 R.fault)])) [0] [8,9,10,11,12,13] 9 enT ?_;refine Ob.iu gQ mixed KP ?_ ⟨(),trivial,by rw[ak a];exact Ob.br _,rfl⟩;intros;refine @aq (SV.tup [TV.agg [Cell.v (Value.slice none 0 0),Cell.v (Value.slice none 0 0),Cell.row Kd.fr 1 [(0:Fr)],Cell.ints u8 32 (replicate 32 (zeroOf (Kd.int u8)))],TV.one (Cell.v (Value.int i64 0)),TV.one Cell.F]=KP) _ ?_ ?_;kernel_rfl;rfl
theorem aaS (gl:Nat->Option (Sigma aH)) (e:List Int × List Pt × Fr × List Int):Ob.ez Tryz.prog gl 13 (fun R:Rt=>[aB R.p]) (fun R=>¬ R.phase<4/\e.1.length<1048576/\e.2.1.length<1048576) (fun R=>p4 R e) (fun R (_:Unit)=>xc e.1 e.2.1 (.row .fr 1 [e.2.2.1]) (.ints .u8 32 e.2.2.2) R.fault) (fun R _=>p4 R e) (fun _ _=>True):=by refine Ob.c9 (sp:=Qn) sJ ab (fun z=>by show 1<=yG.ntmps;exact Odt ab) (fun z _=>rfl) ?_;intro R a w0 M0 F0;refine Ob.eK gQ 1 (Yd R.p []) ?_;refine Ob.ep 1 (bC (ar (al yG) 1)) ?_;refine Ob.dT gQ 1 (Yd R.p [(6,aB R.p)]) ?_;refine Ob.kj (E:=(FQ gl w0 M0 F0)) (ER gl e) R trivial kM (fun _ _=>?_);refine Yl (E:=(FQ gl w0 M0 F0)) 7 ab ?_;unfold p4;refine Ob.sQ (E:=(FQ gl w0 M0 F0)) [0] ab (Oe R (kL e) [(7,ag .F)]) (ay ab ab trivial) ?_;refine Ob.gA gQ 9 (fun c=>bo .bool 14 c) (fun q=>Oe R (kL e) [(14,aA q)]) (fun q=>q=decide (R.phase<4)) ?_ (fun q b=>Ob.ei ?_);intros;refine @aq ((Oe R (kL e) [(14,aA (decide (R.phase<4)))]).ah (decide (R.phase<4)=decide (R.phase<4))) _ ?_ ?_;kernel_rfl;exact au rfl;cases q;have d:¬ R.phase<4:=Odf b.symm;refine Ob.e5 (ar (al yG) 2) ?_;refine Ob.eK gQ 1 (DZ R (kL e) (.ro iK e.1) (.ro aQ e.2.1) (.row .fr 1 [e.2.2.1]) (.ints .u8 32 e.2.2.2) 47 []) ?_;refine Ob.gcd gQ 1 (fun _=>()) (fun _=>DZ R (kL e) (.sl 63 0 0 e.1.length 1) (.ro aQ e.2.1) (.row .fr 1 [e.2.2.1]) (.ints .u8 32 e.2.2.2) 64 [(63,[.ints .i64 e.1.length e.1])]) (fun _=>True) ?_ (fun _ _=>?_);intros;refine @aq (r3 (e.fst,())/\(DZ R (kL e) (Cell.sl 63 0 0 e.fst.length 1) (Cell.ro aQ e.snd.fst) (Cell.row Kd.fr 1 [e.snd.snd.fst]) (Cell.ints u8 32 e.snd.snd.snd) 64 [(63,[Cell.ints i64 e.fst.length e.fst])]).ah True) _ ?_ ?_;kernel_rfl;exact⟨a.2.1,au trivial⟩;refine Ob.gcd gQ 1 (fun _=>()) (fun _=>DZ R (kL e) (.sl 63 0 0 e.1.length 1) (.sl 80 0 0 e.2.1.length 12) (.row .fr 1 [e.2.2.1]) (.ints .u8 32 e.2.2.2) 81 [(80,[.row aQ e.2.1.length e.2.1]),(63,[.ints .i64 e.1.length e.1])]) (fun _=>True) ?_ (fun _ _=>?_);intros;refine @aq (pb (e.snd.fst,())/\(DZ R (kL e) (Cell.sl 63 0 0 e.fst.length 1) (Cell.sl 80 0 0 e.snd.fst.length 12) (Cell.row Kd.fr 1 [e.snd.snd.fst]) (Cell.ints u8 32 e.snd.snd.snd) 81 [(80,[Cell.row aQ e.snd.fst.length e.snd.fst]),(63,[Cell.ints i64 e.fst.length e.fst])]).ah True) _ ?_ ?_;kernel_rfl;exact⟨a.2.2,au trivial⟩;refine Ob.sS [] 46 63 e.1.length 1 (.int .i64) e.1 (.ints .i64 e.1.length e.1) [.sl 80 0 0 e.2.1.length 12,(.row .fr 1 [e.2.2.1]),(.ints .u8 32 e.2.2.2)] ae Ob.xm rfl rfl rfl ?_;refine Ob.sS [.ro iK e.1] 46 80 e.2.1.length 12 aQ e.2.1 (.row aQ e.2.1.length e.2.1) [(.row .fr 1 [e.2.2.1]),(.ints .u8 32 e.2.2.2)] ae (fun _ _ h=>h) rfl rfl rfl ?_;refine Ob.eK gQ 1 (enG R (kL e) (.ro iK e.1) (.ro aQ e.2.1) (.row .fr 1 [e.2.2.1]) (.ints .u8 32 e.2.2.2)) ?_;refine Ob.fj (E:=(FQ gl w0 M0 F0)) (bl:=dE R ((kL e)++[.v (.int .i64 R.fault)])) [0] [8,9,10,11,12,13] 9 (enN (.ro iK e.1) (.ro aQ e.2.1) (.row .fr 1 [e.2.2.1]) (.ints .u8 32 e.2.2.2) R.fault) ?_;exact Ob.sn gQ (xc e.1 e.2.1 (.row .fr 1 [e.2.2.1]) (.ints .u8 32 e.2.2.2) R.fault) ⟨(),trivial,Ob.br _,rfl⟩;exact absurd (Odt b.symm) a.1
set_option maxHeartbeats 4000000
abbrev s6:SV:=ag (.v (.pointer none))
set_option maxHeartbeats 4000000
theorem Le {R:Rt} {H:Hbn.bb} (a:(fg R).1=none):dF.cv ⟨⟨R,H⟩,true⟩=Ob.aj.sep (bA { R with fault:=(fg R).2 }) (bz H):=by show Ob.aj.sep (kq R) _=_;unfold kq;rw[a]
theorem Lf {R:Rt} {H:Hbn.bb} {y:List Int × List Pt × Fr × List Int} (a:(fg R).1=some y):dF.cv ⟨⟨R,H⟩,true⟩=Ob.aj.sep (p4 R y) (bz H):=by show Ob.aj.sep (kq R) _=_;unfold kq;rw[a]
theorem Jv (a:Nat->Option (Sigma aH)):Ob.ez Tryz.prog a 11 (fun t:dF=>[aB t.z.R.p]) (fun _=>True) dF.cv (fun t (_:Unit)=>sI .i64 t.z.R.phase) (fun t _=>t.cv) (fun _ _=>True):=by
 rintro⟨⟨R,H⟩,f⟩ _;cases f;exact Ob.b5 (fun _=>bz H) (Jw a) R trivial
 ·cases b:(fg R).1 with
  | none =>simp only[Le b];exact Ob.b5 (fun _=>bz H) (Jw a) { R with fault:=(fg R).2 } trivial
  | some y =>simp only[Lf b];exact Ob.b5 (fun _=>bz H) (TD a y) R trivial
def mH (t:dF):SV:=match t.fin,(fg t.z.R).1 with
 | true,some e=>xc e.1 e.2.1 (.row .fr 1 [e.2.2.1]) (.ints .u8 32 e.2.2.2) t.z.R.fault
 | true,none=>if t.z.R.phase<4 then KP else xc [] [] zF zD (fg t.z.R).2
 | false,_=>if t.z.R.phase<4 then KP else xc [] [] zF zD t.z.R.fault
theorem ZY {R:Rt} (e:R.dealers.length<1000) (d:R.need<1000) {y:List Int × List Pt × Fr × List Int} (c:(fg R).1=some y):y.1.length<1048576/\y.2.1.length<1048576:=by have a:=Ph R;have b:=OM R d;unfold fg at c;split at c;split at c;split at c;cases c;exact⟨by show (cX R).length<_;omega,by show (fJ R).1.length<_;omega⟩;cases c;cases c;exact⟨by show (cX R).length<_;omega,by show (fJ R).1.length<_;omega⟩;cases c
theorem yS (b:Nat->Option (Sigma aH)):Ob.ez Tryz.prog b 13 (fun t:dF=>[aB t.z.R.p]) TOk dF.cv (fun t (_:Unit)=>mH t) (fun t _=>t.cv) (fun _ _=>True):=by
 rintro⟨⟨R,H⟩,f⟩ g;cases f;exact Ob.b5 (fun _=>bz H) (OX b) R trivial
 ·obtain⟨c,i,d⟩:=g.inv;have d:eF c R H:=d;have h:R.phase=4:=g.fin rfl;cases a:(fg R).1 with
  | none =>
   have e:mH ⟨⟨R,H⟩,true⟩=(if R.phase<4 then KP else xc [] [] zF zD (fg R).2):=by unfold mH;simp only[a]
   simp only[Le a,e];exact Ob.b5 (fun _=>bz H) (OX b) { R with fault:=(fg R).2 } trivial
  | some y =>
   have e:mH ⟨⟨R,H⟩,true⟩=xc y.1 y.2.1 (.row .fr 1 [y.2.2.1]) (.ints .u8 32 y.2.2.2) R.fault:=by unfold mH;simp only[a]
   simp only[Lf a,e];exact Ob.b5 (fun _=>bz H) (aaS b y) R ⟨by rw[h];decide,ZY d.dl d.need a⟩
end rite
end Go.Proofs.YtofofalgjibokaaGreatDoor
namespace Go.Hbn
open Go.IntKind(i64)
open Go.IntKind(i64 u8)
open Go.IntKind(i64 u64 u32)
open Go.IntKind(i64 u64 u8 u32)
open Go.Hbm(aG Told gw UT kf dk)
def bb.pO (H:bb) (t:Talk):bb:={ H with talks:=H.talks++[t] }
theorem TL (H:bb) (t:Talk):(H.pO t).get H.talks.length=t:=by unfold bb.get bb.pO;simp[a2]
theorem TN (H:bb) (t u:Talk):(H.pO t).set H.talks.length u=H.pO u:=by unfold bb.set bb.pO;simp
theorem O6 (H:bb) (t:Talk):(H.pO t).qy=H.qy:=rfl
theorem O5 (H:bb) (t:Talk):(H.pO t).half=H.half:=rfl
theorem TM (H:bb) (t:Talk):(H.pO t).mem=H.mem:=rfl
theorem YI (H:bb) (t:Talk):(H.pO t).me=H.me:=rfl
def bb.none (H:bb) (tp bU:Int):Prop:=∀ t∈H.talks,¬ (t.bI=tp/\t.bU=bU)
theorem afW {H:bb} {m:aG} (h:H.none m.bI m.bU) (t:Talk) (e:ma m t=true):(H.pO t).at m=H.talks.length:=by
 have b:H.talks.findIdx (ma m)=H.talks.length:=by
  refine IU fun x c=>?_;have:=h x c;unfold ma;cases a:(x.bI==m.bI&&x.bU==m.bU) with
  | false=>rfl
  | true =>simp only[aX,beq_iff_eq] at a;exact (this a).elim
 show (H.talks++[t]).findIdx (ma m)=_;rw[List.findIdx_append,b];simp[e]
theorem aaR {H:bb} {m:aG} (h:H.none m.bI m.bU):H.at m=H.talks.length:=by
 refine IU fun x b=>?_;have:=h x b;unfold ma;cases a:(x.bI==m.bI&&x.bU==m.bU) with
 | false=>rfl
 | true =>simp only[aX,beq_iff_eq] at a;exact (this a).elim
def Hw (H:bb) (tp:Int) (b:List Int) (q:Nat × Nat × Nat):Talk :=
 if H.mem.length=1 then ⟨q.1,q.2.1,q.2.2,tp,H.me,true,true,true,[(H.me,b)],[(H.me,b)]⟩ else ⟨q.1,q.2.1,q.2.2,tp,H.me,true,false,false,[(H.me,b)],[]⟩
def KA (H:bb) (tp:Int) (b:List Int):List aG:=[(1,0,H.me,H.me,tp,0,b),(2,0,H.me,H.me,tp,0,b)]++if H.mem.length=1 then [(3,0,H.me,H.me,tp,0,b)] else []
def Kz (H:bb) (tp:Int) (b:List Int):List Hbm.Told:=if H.mem.length=1 then [(tp,H.me,b)] else []
theorem alone {H:bb} {tp:Int} {b:List Int} (a:H.me∈H.mem) (n:1<=tp/\tp<=3) (u:b.length<=4096) (l:H.none tp H.me) (x:H.mem.length<=4) (q:Nat × Nat × Nat) :
  iS H tp b q=(H.pO (Hw H tp b q),KA H tp b,Kz H tp b):=by
 have m:1<=H.mem.length:=List.length_pos_of_mem a;have i:∀ k:Int,(k=1\/k=2\/k=3)->counts H.mem (k,0,H.me,H.me,tp,0,b)=true:=fun k w=>by unfold counts;simp only[aX,lZ];exact⟨w,⟨n.1,n.2,u⟩,a,a⟩
 have j:H.of (1,0,H.me,H.me,tp,0,b) q=H.pO ⟨q.1,q.2.1,q.2.2,tp,H.me,false,false,false,[],[]⟩:=by unfold bb.of;rw[aaR l,ai (Nat.lt_irrefl _)];rfl
 have d:∀ (k:Int) (t:Talk),t.bI=tp->t.bU=H.me->(H.pO t).at (k,0,H.me,H.me,tp,0,b)=H.talks.length:=fun k t c g=>afW l t (by unfold ma;rw[c,g];simp);have f:H.qy=((H.mem.length:Int)-1)/3:=rfl;have e:H.half=((H.mem.length:Int)+H.qy)/2:=rfl;unfold iS iX;rw[ak (i 1 (.inl rfl)),j];by_cases h:H.mem.length=1
 ·have c:H.qy=0:=by rw[f,h];rfl
  have g:H.half=0:=by rw[e,c,h];rfl
  simp[aG.kind,aG.a5,aG.bU,aG.bI,aG.body,kt,ji,mK,dJ,kh,mg,andThen,plus,own,TL,TN,O6,O5,TM,YI,i,d,c,g,dk,kf,h,Hw,KA,Kz]
 ·have c:0<=H.qy:=by rw[f];omega
  have g:1<=H.half:=by rw[e];omega
  have o:¬ (H.half<1):=aa;have r:¬ (H.qy<0):=aa;have s:¬ (2*H.qy<0):=aa;simp[aG.kind,aG.a5,aG.bU,aG.bI,aG.body,kt,ji,mK,dJ,kh,mg,andThen,plus,own,TL,TN,O6,O5,TM,YI,i,d,o,r,s,dk,kf,h,Hw,KA,Kz]
end Go.Hbn
namespace Go.Proofs.YtofofalgjibokaaGreatDoor
namespace law23
open law14
open Go.IntKind(i64)
open Go.IntKind(i64 u8)
open Go.IntKind(i64 u64 u32)
open Go.IntKind(i64 u64 u8 u32)
theorem Vy:enters Tryz.prog 9 Tryz.f9:=ek
def OT (b:List Int) (a n:Int) (g:Int × Nat × List Fr):St:=av Tryz.f9.ntmps 32 [(0,ag (.ro (.int .u8) b)),(1,sI .i64 a),(2,sI .i64 n),(7,ag (.sl 8 0 0 g.2.1 4)),(8,sI .i64 g.1)] [(8,[.row .fr g.2.1 g.2.2])]
def mdE (b:List Int) (a:Int) (i:Nat):Fr:=scw (b++[u8.wrap a,u8.wrap (i:Int),78])
def rP (b:List Int) (a:Int) (n:Nat):List Fr:=(range n).map (mdE b a)
abbrev tg:HL [DS,.int .i64,.int .i64]->Prop:=fun (b,_,n,_)=>(Bs b/\length b<=1000)/\0<=(n:Int)/\(n:Int)<=1000
abbrev Ae:HL [DS,.int .i64,.int .i64]->HO [.own .fr]:=fun (b,a,n,_)=>(rP b a (n:Int).toNat,())
def maJ (b:List Int) (a n:Int) (g:Int × Nat × List Fr):Prop:=g.2.1<=n.toNat/\g.1=(g.2.1:Int)/\g.2.2=rP b a g.2.1
theorem aaa:aO Tryz.prog 9 [DS,.int .i64,.int .i64] [.own .fr] bB tg Ae:=by
 have e:aJ Tryz.prog (aU [ref01.Up,fr.UA]):=(aM (aR ref01.Z1) (aM (aR fr.aak) bD));refine bL (sp:=aU [ref01.Up,fr.UA]) Vy ae ae ab ?_;rintro w H ⟨b,a,n,⟨⟩⟩;revert b a n;intro (b:List Int) (a:Int) (n:Int) _ G;obtain⟨⟨D,s⟩,f,u⟩:=G;have s:b.length<=1000:=s;have f:0<=n:=f;have u:n<=1000:=u;show Tr _ _ _ _ _ _ _;refine bh e mixed 3 (OT b a n (0,0,[])) True ?_ (fun _=>?_);refine aq (X:=((OT b a n (0,0,[])).ah True)) ab ?_;exact au trivial;refine cl e mixed (fun d=>[(8,Mn 7 d)]) (fun d=>(bo (.int .i64) 8 d,na 7 d,cT .fr 8 d)) (OT b a n) (maJ b a n) (fun g=>n.toNat-g.1.toNat)
  (fun d=>(bo (.int .i64) 8 d,na 7 d,cT .fr 8 d)) (OT b a n) (fun g=>g.2.1=n.toNat/\g.2.2=rP b a n.toNat) (0,0,[]) (c:=ar (al Tryz.f9) 3) ab ab (ay ab ab ?_) ?_ ?_
 exact⟨a8 _,rfl,rfl⟩
 ·rintro⟨i,m,l⟩ E;revert i l;intro (i:Int) (l:List Fr) ⟨t,o,A⟩;have o:i=(m:Int):=o;have kl:l=rP b a m:=A;have t:m<=n.toNat:=t;subst o;have F:l.length=m:=by rw[kl,rP];simp
  refine @aq ((decide ((m:Int)<n)=true->ref01.Ij (b,())/\0+3<=3/\b.length<=b.length/\(b.length+3)*1<=140737488355328/\b.length+3<=4611686018427387904/\0+(b.length+3)<=b.length+3/\fr.Il (take (b.length+3) (take b.length b++take 3 [u8.wrap a,u8.wrap (m:Int),78]),())/\0+1<=1/\m<=m/\(m+1)*32<=140737488355328/\m+1<=4611686018427387904/\(OT b a n (i64.wrap ((m:Int)+1),m+1,take m l++take 1 [jg (num (take (b.length+3) (take b.length b++take 3 [u8.wrap a,u8.wrap (m:Int),78])))])).ah (maJ b a n (i64.wrap ((m:Int)+1),m+1,take m l++take 1 [jg (num (take (b.length+3) (take b.length b++take 3 [u8.wrap a,u8.wrap (m:Int),78])))])/\n.toNat-(i64.wrap ((m:Int)+1)).toNat<n.toNat-(m:Int).toNat))/\(decide ((m:Int)<n)=false->(OT b a n ((m:Int),m,l)).ah (m=n.toNat/\l=rP b a n.toNat))) _ ?_ ?_;kernel_rfl;have z:take 3 [u8.wrap a,u8.wrap (m:Int),(78:Int)]=[u8.wrap a,u8.wrap (m:Int),(78:Int)]:=rfl;have C:take (b.length+3) (b++[u8.wrap a,u8.wrap (m:Int),(78:Int)])=b++[u8.wrap a,u8.wrap (m:Int),(78:Int)]:=bW aw;rw[z,aT,C,aS aa];have y:∀ x:Int,0<=u8.wrap x/\u8.wrap x<256:=fun x=>by simp only[IntKind.wrap,IntKind.signed,IntKind.bits];simp;omega
  have q:Bs (b++[u8.wrap a,u8.wrap (m:Int),(78:Int)]):=by intro x k;simp only[lA,tT,List.not_mem_nil,or_false] at k;rcases k with k|rfl|rfl|rfl;exact D x k;exact y _;exact y _;decide
  refine⟨fun h=>⟨by show b.length<=_;omega,ae,aa,aa,aa,aa,⟨q,by simp;omega⟩,ae,aa,aa,aa,au ⟨⟨?_,rfl,?_⟩,?_⟩⟩,fun h=>au ?_⟩;have:=Odt h;show m+1<=n.toNat;omega;show take m l++[zm (num _)]=rP b a (m+1);rw[bW aa,kl,rP,rP,qK,di];congr 1;show _=[mdE b a m];rw[mdE,scw,bm];have:=Odt h;rw[aF];omega
  ·have:m=n.toNat:=by have:=Odf h;omega
   exact⟨this,by rw[<- this];exact kl⟩
 rintro⟨i,m,l⟩ E;revert i l;intro (i:Int) (l:List Fr) ⟨r,j⟩;have r:m=n.toNat:=r;have j:l=rP b a n.toNat:=j;refine bJ e mixed _ _ ?_;refine @aq (0+m<=m/\(take m l,())=Ae (b,a,n,())) _ ?_ ?_;kernel_rfl;refine⟨aa,?_⟩;show _=(rP b a n.toNat,());rw[bW (by rw[j,rP];simp;omega),j]
theorem VL:enters Tryz.prog 7 Tryz.f7:=ek
def Zc (n:Int) (g:Int × Nat × List Int):St:=av Tryz.f7.ntmps 32 [(0,sI .i64 n),(3,ag (.sl 8 0 0 g.2.1 1)),(4,sI .i64 g.1)] [(8,[.ints .i64 g.2.1 g.2.2])]
def jC (n:Nat):List Int:=(range n).map fun i:Nat=>(i:Int)+1
theorem XI (n:Nat):jC (n+1)=jC n++[(n:Int)+1]:=by rw[jC,qK,di];rfl
theorem DL (n:Nat):(jC n).length=n:=by simp[jC]
def upJ (n:Int) (g:Int × Nat × List Int):Prop:=g.2.1<=n.toNat/\g.1=(g.2.1:Int)+1/\g.2.2=jC g.2.1
theorem aaj:aO Tryz.prog 7 [.int .i64] [.own (.int .i64)] bB (fun (n,_)=>0<=(n:Int)/\(n:Int)<=1000) (fun (n,_)=>(jC (n:Int).toNat,())):=by
 have b:aJ Tryz.prog (aU []):=bD;refine bL (sp:=aU []) VL ae ae ab ?_;rintro w t ⟨n,⟨⟩⟩;revert n;intro (n:Int) _ ⟨d,r⟩;have d:0<=n:=d;have r:n<=1000:=r;show Tr _ _ _ _ _ _ _;refine bh b mixed 3 (Zc n (1,0,[])) True ?_ (fun _=>?_);refine aq (X:=((Zc n (1,0,[])).ah True)) ab ?_;exact au trivial;refine cl b mixed (fun a=>[(8,Mn 3 a)]) (fun a=>(bo (.int .i64) 4 a,na 3 a,cT (.int .i64) 8 a)) (Zc n) (upJ n) (fun g=>n.toNat+1-g.1.toNat)
  (fun a=>(na 3 a,cT (.int .i64) 8 a)) (fun g=>av Tryz.f7.ntmps 32 [(3,ag (.sl 8 0 0 g.1 1))] [(8,[.ints .i64 g.1 g.2])]) (fun g=>g.1=n.toNat/\g.2=jC n.toNat) (1,0,[]) (c:=ar (al Tryz.f7) 3) ab ab (ay ab ab ?_) ?_ ?_
 exact⟨a8 _,rfl,rfl⟩
 ·rintro⟨i,m,l⟩ s;revert i l;intro (i:Int) (l:List Int) ⟨q,f,o⟩;have f:i=(m:Int)+1:=f;have kl:l=jC m:=o;have q:m<=n.toNat:=q;clear o;subst f;have k:l.length=m:=by rw[kl,DL]
  refine @aq ((decide ((m:Int)+1<=n)=true->0+1<=1/\m<=m/\(m+1)*8<=140737488355328/\m+1<=4611686018427387904/\(Zc n (i64.wrap ((m:Int)+(1:Int)+1),m+1,take m l++take 1 [(m:Int)+1])).ah (upJ n (i64.wrap ((m:Int)+(1:Int)+1),m+1,take m l++take 1 [(m:Int)+1])/\n.toNat+1-(i64.wrap ((m:Int)+(1:Int)+1)).toNat<n.toNat+1-((m:Int)+1).toNat))/\(decide ((m:Int)+1<=n)=false->(av Tryz.f7.ntmps 32 [(3,SV.is (TV.one (Cell.sl 8 0 0 (m,l).fst 1)))] [(8,[Cell.ints i64 (m,l).fst (m,l).snd])]).ah (m=n.toNat/\l=jC n.toNat))) _ ?_ ?_;kernel_rfl;rw[ba aa aa];refine⟨fun h=>⟨ae,aa,aa,aa,au ⟨⟨?_,?_,?_⟩,?_⟩⟩,fun h=>au ?_⟩;have:=Odt h;show m+1<=n.toNat;omega;show (m:Int)+1+1=((m+1:Nat):Int)+1;omega;show take m l++[(m:Int)+1]=jC (m+1);rw[bW aa,kl,XI];have:=Odt h;omega
  ·have:m=n.toNat:=by have:=Odf h;omega
   exact⟨this,by rw[<- this];exact kl⟩
 rintro⟨m,l⟩ s;revert l;intro (l:List Int) ⟨j,e⟩;have j:m=n.toNat:=j;have e:l=jC n.toNat:=e;have k:l.length=m:=by rw[e,DL,j]
 refine bJ b mixed _ _ ?_;refine @aq (0+m<=m/\(take m l,())=(jC n.toNat,())) _ ?_ ?_;kernel_rfl;refine⟨aa,?_⟩;rw[bW aa,e]
