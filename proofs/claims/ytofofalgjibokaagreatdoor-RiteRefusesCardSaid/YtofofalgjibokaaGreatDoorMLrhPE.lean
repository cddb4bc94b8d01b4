import Derived.Test.YtofofalgjibokaaGreatDoorMLrhPD
set_option maxRecDepth 100000
noncomputable section
open List(drop length mem_cons mem_map range replicate take)
open Nat(beq ble blt)
open Int(toNat)
namespace Go.Proofs.YtofofalgjibokaaGreatDoor
namespace rite
set_option maxHeartbeats 4000000
open Go.Eng Go.RowKit Cr hub deal
def m5 (d:List Int) (n:Int) (o:List (Fp × Fp)) (a:Int) (b:List Int):List (Fp × Fp) × Int:=eS (o8 d n o a b)
theorem afD:aL Tryz.prog 82 [dU,.int .i64,.sl (.int .u8)] [.val (.sl aN),.val (.int .i64)] bx J4 (fun ((d,_,n,o),a,b,_)=>((m5 d n o a b).1,(m5 d n o a b).2,())):=aL.out va.ahR fun ((d,_,n,o),a,b,_)=>by show ((m5 d n o a b).1,(m5 d n o a b).2,())=((o8 d n o a b).1,(o8 d n o a b).2,());rw[m5,bf]
def ajj:Nat × Eng.Spec:=(82,aH [dU,.int .i64,.sl (.int .u8)] [.val (.sl aN),.val (.int .i64)] J4 (fun ((d,_,n,o),a,b,_)=>((m5 d n o a b).1,(m5 d n o a b).2,())))
def W5:Nat × Eng.Spec:=(84,aH [fx] [.val (.sl cz)] (fun (t,_)=>length t.2.2<1048576/\Bs t.2.2) (fun (t,_)=>(eW t,())))
def eN (R:Rt) (t:Hbm.Told):Rt :=
 if t.1=1 then (if (m5 R.dealers R.need R.old t.2.1 t.2.2).2=0 then { R with deals:=R.deals++[(t.2.1,(m5 R.dealers R.need R.old t.2.1 t.2.2).1)] } else R)
 else if t.1=2 then (if R.phase<3 then { R with faults:=R.faults++[tZ t] } else R)
 else if t.1=3 then { R with proofs:=R.proofs++eW t } else R
def iR (R:Rt) (a:List Hbm.Told):Rt:=a.foldl eN R
def ox (t:Hbm.Told):Prop:=t.2.2.length<1000000/\Bs t.2.2/\fh t.2.1
structure RtOk (R:Rt):Prop where
 dealers:R.dealers.length<1000
 old:R.old.length<1000
 deals:R.deals.length<1000000
 faults:R.faults.length<1000000
 proofs:R.proofs.length<1000000000000
theorem Mc:∀ (bO:Int) (k:Nat) (b:List Int),(pV bO k b).length<=k
 | _,0,_=>aE _
 | bO,k+1,b=>by
  rw[pV,bb];have a:=Mc bO k (b.drop 33);have c:(Co bO b).length<=1:=by unfold Co;split<;>simp
  omega
theorem Gz (t:Hbm.Told):(eW t).length<=t.2.2.length:=by have h:=Mc t.2.1 (t.2.2.length/33) t.2.2;unfold eW;omega
structure AS (R S:Rt):Prop where
 p:S.p=R.p
 me:S.me=R.me
 dealers:S.dealers=R.dealers
 takers:S.takers=R.takers
 need:S.need=R.need
 old:S.old=R.old
 aY:S.aY=R.aY
 start:S.start=R.start
 span:S.span=R.span
 phase:S.phase=R.phase
 hub:S.hub=R.hub
 aW:S.aW=R.aW
 shares:S.shares=R.shares
 fault:S.fault=R.fault
theorem AS.rfl {R:Rt}:AS R R:=⟨_root_.rfl,_root_.rfl,_root_.rfl,_root_.rfl,_root_.rfl,_root_.rfl,_root_.rfl,_root_.rfl,_root_.rfl,_root_.rfl,_root_.rfl,_root_.rfl,_root_.rfl,_root_.rfl⟩
theorem AS.trans {R S T:Rt} (h:AS R S) (k:AS S T):AS R T:=⟨k.p.trans h.p,k.me.trans h.me,k.dealers.trans h.dealers,k.takers.trans h.takers,k.need.trans h.need,k.old.trans h.old,k.aY.trans h.aY,k.start.trans h.start,k.span.trans h.span,k.phase.trans h.phase,k.hub.trans h.hub,k.aW.trans h.aW,k.shares.trans h.shares,k.fault.trans h.fault⟩
theorem QB (R:Rt) (t:Hbm.Told):AS R (eN R t):=by unfold eN;split;split<;>constructor<;>exact _root_.rfl;split;split<;>constructor<;>exact _root_.rfl;split<;>constructor<;>exact _root_.rfl
theorem uQ:∀ (a:List Hbm.Told) (R:Rt),AS R (iR R a)
 | [],_=>.rfl
 | t::a,R=>(QB R t).trans (uQ a (eN R t))
theorem S4 (R:Rt) (t:Hbm.Told):(eN R t).deals.length<=R.deals.length+1/\(eN R t).faults.length<=R.faults.length+1/\(eN R t).proofs.length<=R.proofs.length+t.2.2.length:=by have:=Gz t;unfold eN;split;split;simp;omega;split;split;simp;omega;split;simp;omega;omega
theorem BZ:∀ (a:List Hbm.Told) (R:Rt),(∀ t∈a,ox t)->(iR R a).deals.length<=R.deals.length+a.length/\(iR R a).faults.length<=R.faults.length+a.length/\(iR R a).proofs.length<=R.proofs.length+1000000*a.length
 | [],_,_=>⟨aE _,aE _,aE _⟩
 | t::a,R,h=>by have d:=S4 R t;have e:=BZ a (eN R t) (fun u b=>h u (by simp[b]));have f:=(h t au).1;show (iR (eN R t) a).deals.length<=_/\(iR (eN R t) a).faults.length<=_/\(iR (eN R t) a).proofs.length<=_;simp only[bG];omega
theorem QC (R:Rt) (a:List Hbm.Told) (t:Hbm.Told):iR R (a++[t])=eN (iR R a) t:=by unfold iR;rw[Bh];rfl
theorem qj:enters Tryz.prog 47 Tryz.f47:=ek
abbrev qV:Func:=Tryz.f47
def si (p:Nat) (a:List Hbm.Told) (k:Int):St:=ar qV.ntmps 8 [(0,aG p),(8,.is (.one (.ro fx a))),(9,sI .i64 a.length),(10,sI .i64 k)] []
def Yk (p:Nat) (a:List Hbm.Told) (k:Int) (t:Hbm.Told):St:=ar qV.ntmps 8 [(0,aG p),(8,.is (.one (.ro fx a))),(9,sI .i64 a.length),(10,sI .i64 k),(5,.is (.one (.ptr 0 0))),(15,sI .i64 t.1)] [(0,Dz t)]
def sj (p:Nat) (a:List Hbm.Told) (k:Int) (t:Hbm.Told) (s:Nat) (q:Bool):St:=ar qV.ntmps 8 [(0,aG p),(8,.is (.one (.ro fx a))),(9,sI .i64 a.length),(10,sI .i64 k),(5,.is (.one (.ptr 0 0))),(15,sI .i64 t.1),(s,av q)] [(0,Dz t)]
abbrev V7:=aP [ajj,abq,W5]
theorem fZ:aD Tryz.prog V7:=aJ (aM afD) (aJ (aM VL) (aJ (aM SI.AE) bp))
abbrev hsC:Code:=aq (ak qV) 1
abbrev hsL:List Code:=aZ hsC
abbrev hsB:List Code:=da (aq hsL 2)
abbrev DV:List Code:=da (aq hsB 2)
abbrev nN:List Code:=fV (aq DV 1)
abbrev Lf:List Code:=rA (aq DV 1)
abbrev FY:List Code:=fV (aq Lf 1)
abbrev adC:List Code:=rA (aq Lf 1)
def Lg (R:Rt) (a:List Hbm.Told) (k:Int) (t:Hbm.Told) (b:List (Nat × SV)):St:=ar qV.ntmps 14 ([(0,.is (.one (.ptr 8 0))),(8,.is (.one (.ro fx a))),(9,sI .i64 a.length),(10,sI .i64 k),(5,.is (.one (.ptr 0 0)))]++b) ((0,Dz t)::ig R (bh++[.v (.int .i64 R.fault)]))
section
variable (gl:Nat->Option (Sigma aA)) (w0:World) (M0:Mem) (F0:Nat->Prop)
abbrev ub:Ob.b5:=Ob.kO Tryz.prog V7 gl w0 M0 F0
def adD (R:Rt) (a:List Hbm.Told) (k:Int) (q:List (Int × List Pt)):St:=ar qV.ntmps 95 [(0,.is (.one (.ptr 8 0))),(8,.is (.one (.ro fx a))),(9,sI .i64 a.length),(10,sI .i64 k)] [(8,lH R 94 10 11 12 13 (R.deals.length+1) R.faults.length R.proofs.length R.aW.length R.shares.length (bh++[.v (.int .i64 R.fault)])),(94,[.row cl (R.deals.length+1) q]),(10,[.row cu R.faults.length R.faults]),(11,[.row cz R.proofs.length R.proofs]),(12,[.ints .i64 R.aW.length R.aW]),(13,[.row .fr R.shares.length R.shares])]
def adE (R:Rt) (a:List Hbm.Told) (k:Int) (q:List (Int × List Int)):St:=ar qV.ntmps 79 [(0,.is (.one (.ptr 8 0))),(8,.is (.one (.ro fx a))),(9,sI .i64 a.length),(10,sI .i64 k)] [(8,lH R 9 78 11 12 13 R.deals.length (R.faults.length+1) R.proofs.length R.aW.length R.shares.length (bh++[.v (.int .i64 R.fault)])),(9,[.row cl R.deals.length R.deals]),(78,[.row cu (R.faults.length+1) q]),(11,[.row cz R.proofs.length R.proofs]),(12,[.ints .i64 R.aW.length R.aW]),(13,[.row .fr R.shares.length R.shares])]
def adF (R:Rt) (a:List Hbm.Told) (k:Int) (m:Nat) (q:List (Int × Int × Fr)):St:=ar qV.ntmps 71 [(0,.is (.one (.ptr 8 0))),(8,.is (.one (.ro fx a))),(9,sI .i64 a.length),(10,sI .i64 k)] [(8,lH R 9 10 70 12 13 R.deals.length R.faults.length (R.proofs.length+m) R.aW.length R.shares.length (bh++[.v (.int .i64 R.fault)])),(9,[.row cl R.deals.length R.deals]),(10,[.row cu R.faults.length R.faults]),(70,[.row cz (R.proofs.length+m) q]),(12,[.ints .i64 R.aW.length R.aW]),(13,[.row .fr R.shares.length R.shares])]
theorem ah7 (R:Rt) (e:RtOk R) (a:List Hbm.Told) (k:Int) (t:Hbm.Told) (f:ox t) (g:t.1=1) {n i:Act->World->Prop} {x:Nat->Act->World->Prop}
  (h:Ob.aK Tryz.prog [] (Ob.GH (ub gl w0 M0 F0) qV.ntmps (si R.p a k) (bw (eN R t))) n i x) :
  Ob.aK Tryz.prog DV (Ob.GH (ub gl w0 M0 F0) qV.ntmps (Yk R.p a k t) (bw R)) n i x:=by
 unfold eN at h;rw[aj g] at h;refine Ob.gcd fZ 1 (fun d=>bg .bool 16 d) (fun q=>sj R.p a k t 16 q) (fun q=>q=true) ?_ (fun q b=>?_);intro w ids M num;refine @al ((sj R.p a k t 16 (t.fst==1)).ag ((t.fst==1)=true)) _ ?_ ?_;kernel_rfl;exact ao (by simp[g]);subst b;refine Ob.jx (aq DV 1) ?_;unfold bw at *;refine Ob.gZ [0] (Lg R a k t []) ?_;refine Ob.gcd fZ 2 (fun d=>bg .bool 31 d) (fun q=>Lg R a k t [(6,.is (.one (.ro aN (m5 R.dealers R.need R.old t.2.1 t.2.2).1))),(31,av q)]) (fun q=>q=decide ((m5 R.dealers R.need R.old t.2.1 t.2.2).2=0)) ?_ (fun q b=>?_);intro w ids M num;refine @al (J4 ((R.dealers,R.takers,R.need,R.old),t.snd.fst,t.snd.snd,())/\(Lg R a k t [(6,SV.is (TV.one (Cell.ro aN (m5 R.dealers R.need R.old t.snd.fst t.snd.snd).fst))),(31,av ((m5 R.dealers R.need R.old t.snd.fst t.snd.snd).snd==0))]).ag (((m5 R.dealers R.need R.old t.snd.fst t.snd.snd).snd==0)=decide ((m5 R.dealers R.need R.old t.snd.fst t.snd.snd).snd=0))) _ ?_ ?_;kernel_rfl;exact⟨⟨by show R.dealers.length<_;have:=e.dealers;omega,⟨by show R.old.length<_;have:=e.old;omega,f.2.2⟩,f.2.1,by have:=f.1;show t.2.2.length<=_;omega⟩,ao rfl⟩;cases q;rw[ah (Odf b.symm)] at h;refine Ob.eQ (aq nN 2) ?_;refine Ob.fk (E:=ub gl w0 M0 F0) (bl:=dF R (bh++[.v (.int .i64 R.fault)])) [] [8,9,10,11,12,13] 9 (si R.p a k) ?_;exact h;rw[aj (Odt b.symm)] at h;refine Ob.jx (aq nN 2) ?_;refine Ob.gcd fZ 1 (fun d=>cU cl 94 d) (fun q=>adD R a k q) (fun q=>q=R.deals++[(t.2.1,(m5 R.dealers R.need R.old t.2.1 t.2.2).1)]) ?_ (fun q b=>?_);have j:=e.deals;intro w ids M num;refine @al (0+1<=1/\R.deals.length<=R.deals.length/\(R.deals.length+1)*32<=140737488355328/\R.deals.length+1<=4611686018427387904/\(adD R a k (take R.deals.length R.deals++take 1 [(t.snd.fst,(m5 R.dealers R.need R.old t.snd.fst t.snd.snd).fst)])).ag (take R.deals.length R.deals++take 1 [(t.snd.fst,(m5 R.dealers R.need R.old t.snd.fst t.snd.snd).fst)]=R.deals++[(t.snd.fst,(m5 R.dealers R.need R.old t.snd.fst t.snd.snd).fst)])) _ ?_ ?_;kernel_rfl;refine⟨ae,aE _,aa,aa,ao ?_⟩;rw[aV];rfl;subst b;refine Ob.fk (E:=ub gl w0 M0 F0) (bl:=[lH R 1 2 3 4 5 (R.deals.length+1) R.faults.length R.proofs.length R.aW.length R.shares.length (bh++[.v (.int .i64 R.fault)]),[.row cl (R.deals.length+1) (R.deals++[(t.2.1,(m5 R.dealers R.need R.old t.2.1 t.2.2).1)])],[.row cu R.faults.length R.faults],[.row cz R.proofs.length R.proofs],[.ints .i64 R.aW.length R.aW],[.row .fr R.shares.length R.shares]]) [] [8,94,10,11,12,13] 9 (si R.p a k) ?_;refine Ob.aO ?_ h;unfold dF lH;simp only[bb,bG,eG,bH]
theorem ah8 (R:Rt) (i:RtOk R) (a:List Hbm.Told) (k:Int) (t:Hbm.Told) (f:ox t) (e:t.1=2) {n g:Act->World->Prop} {x:Nat->Act->World->Prop}
  (h:Ob.aK Tryz.prog [] (Ob.GH (ub gl w0 M0 F0) qV.ntmps (si R.p a k) (bw (eN R t))) n g x) :
  Ob.aK Tryz.prog DV (Ob.GH (ub gl w0 M0 F0) qV.ntmps (Yk R.p a k t) (bw R)) n g x:=by
 unfold eN at h;rw[ah (by rw[e];decide),aj e] at h;refine Ob.gcd fZ 1 (fun d=>bg .bool 16 d) (fun q=>sj R.p a k t 16 q) (fun q=>q=false) ?_ (fun q b=>?_);intro w ids M num;refine @al ((sj R.p a k t 16 (t.fst==1)).ag ((t.fst==1)=false)) _ ?_ ?_;kernel_rfl;exact ao (by simp[e]);subst b;refine Ob.eQ (aq DV 1) ?_;refine Ob.gcd fZ 1 (fun d=>bg .bool 45 d) (fun q=>sj R.p a k t 45 q) (fun q=>q=true) ?_ (fun q b=>?_);intro w ids M num;refine @al ((sj R.p a k t 45 (t.fst==2)).ag ((t.fst==2)=true)) _ ?_ ?_;kernel_rfl;exact ao (by simp[e]);subst b;refine Ob.jx (aq Lf 1) ?_;unfold bw at *;refine Ob.gZ [0] (Lg R a k t []) ?_;refine Ob.gcd fZ 1 (fun d=>bg .bool 51 d) (fun q=>Lg R a k t [(51,av q)]) (fun q=>q=decide (R.phase<3)) ?_ (fun q b=>?_);intro w ids M num;refine @al ((Lg R a k t [(51,av (decide (R.phase<3)))]).ag (decide (R.phase<3)=decide (R.phase<3))) _ ?_ ?_;kernel_rfl;exact ao rfl;cases q;rw[ah (Odf b.symm)] at h;refine Ob.eQ (aq FY 1) ?_;refine Ob.fk (E:=ub gl w0 M0 F0) (bl:=dF R (bh++[.v (.int .i64 R.fault)])) [] [8,9,10,11,12,13] 9 (si R.p a k) ?_;exact h;rw[aj (Odt b.symm)] at h;refine Ob.jx (aq FY 1) ?_;refine Ob.gcd fZ 1 (fun d=>cU cu 78 d) (fun q=>adE R a k q) (fun q=>q=R.faults++[tZ t]) ?_ (fun q b=>?_);have j:=i.faults;intro w ids M num;refine @al ((t.snd.snd.length<1048576/\Bs t.snd.snd)/\0+1<=1/\R.faults.length<=R.faults.length/\(R.faults.length+1)*32<=140737488355328/\R.faults.length+1<=4611686018427387904/\(adE R a k (take R.faults.length R.faults++take 1 [t.snd])).ag (take R.faults.length R.faults++take 1 [t.snd]=R.faults++[tZ t])) _ ?_ ?_;kernel_rfl;refine⟨⟨by have:=f.1;omega,f.2.1⟩,ae,aE _,aa,aa,ao ?_⟩;rw[aV];rfl;subst b;refine Ob.fk (E:=ub gl w0 M0 F0) (bl:=[lH R 1 2 3 4 5 R.deals.length (R.faults.length+1) R.proofs.length R.aW.length R.shares.length (bh++[.v (.int .i64 R.fault)]),[.row cl R.deals.length R.deals],[.row cu (R.faults.length+1) (R.faults++[tZ t])],[.row cz R.proofs.length R.proofs],[.ints .i64 R.aW.length R.aW],[.row .fr R.shares.length R.shares]]) [] [8,9,78,11,12,13] 9 (si R.p a k) ?_;refine Ob.aO ?_ h;unfold dF lH;simp only[bb,bG,eG,bH]
theorem ah9 (R:Rt) (i:RtOk R) (a:List Hbm.Told) (k:Int) (t:Hbm.Told) (f:ox t) (e:t.1=3) {n g:Act->World->Prop} {x:Nat->Act->World->Prop}
  (h:Ob.aK Tryz.prog [] (Ob.GH (ub gl w0 M0 F0) qV.ntmps (si R.p a k) (bw (eN R t))) n g x) :
  Ob.aK Tryz.prog DV (Ob.GH (ub gl w0 M0 F0) qV.ntmps (Yk R.p a k t) (bw R)) n g x:=by
 unfold eN at h;rw[ah (by rw[e];decide),ah (by rw[e];decide),aj e] at h;refine Ob.gcd fZ 1 (fun d=>bg .bool 16 d) (fun q=>sj R.p a k t 16 q) (fun q=>q=false) ?_ (fun q b=>?_);intro w ids M num;refine @al ((sj R.p a k t 16 (t.fst==1)).ag ((t.fst==1)=false)) _ ?_ ?_;kernel_rfl;exact ao (by simp[e]);subst b;refine Ob.eQ (aq DV 1) ?_;refine Ob.gcd fZ 1 (fun d=>bg .bool 45 d) (fun q=>sj R.p a k t 45 q) (fun q=>q=false) ?_ (fun q b=>?_);intro w ids M num;refine @al ((sj R.p a k t 45 (t.fst==2)).ag ((t.fst==2)=false)) _ ?_ ?_;kernel_rfl;exact ao (by simp[e]);subst b;refine Ob.eQ (aq Lf 1) ?_;refine Ob.gcd fZ 1 (fun d=>bg .bool 63 d) (fun q=>sj R.p a k t 63 q) (fun q=>q=true) ?_ (fun q b=>?_);intro w ids M num;refine @al ((sj R.p a k t 63 (t.fst==3)).ag ((t.fst==3)=true)) _ ?_ ?_;kernel_rfl;exact ao (by simp[e]);subst b;refine Ob.jx (aq adC 1) ?_;unfold bw at *;refine Ob.gZ [0] (Lg R a k t []) ?_;refine Ob.gcd fZ 1 (fun d=>cU cz 70 d) (fun q=>adF R a k (eW t).length q) (fun q=>q=R.proofs++eW t) ?_ (fun q b=>?_);have m:=i.proofs;intro w ids M num;refine @al ((t.snd.snd.length<1048576/\Bs t.snd.snd)/\R.proofs.length<=R.proofs.length/\(R.proofs.length+(eW t).length)*48<=140737488355328/\R.proofs.length+(eW t).length<=4611686018427387904/\(adF R a k (eW t).length (take R.proofs.length R.proofs++(eW t,()).fst)).ag (take R.proofs.length R.proofs++eW t=R.proofs++eW t)) _ ?_ ?_;kernel_rfl;have l:=Gz t;have j:=f.1;refine⟨⟨aa,f.2.1⟩,aE _,aa,aa,ao ?_⟩;rw[aV];subst b;refine Ob.fk (E:=ub gl w0 M0 F0) (bl:=[lH R 1 2 3 4 5 R.deals.length R.faults.length (R.proofs.length+(eW t).length) R.aW.length R.shares.length (bh++[.v (.int .i64 R.fault)]),[.row cl R.deals.length R.deals],[.row cu R.faults.length R.faults],[.row cz (R.proofs.length+(eW t).length) (R.proofs++eW t)],[.ints .i64 R.aW.length R.aW],[.row .fr R.shares.length R.shares]]) [] [8,9,10,70,12,13] 9 (si R.p a k) ?_;refine Ob.aO ?_ h;unfold dF lH;simp only[bb]
theorem aia (R:Rt) (j:RtOk R) (a:List Hbm.Told) (k:Int) (t:Hbm.Told) (e:t.1≠1) (f:t.1≠2) (g:t.1≠3) {n i:Act->World->Prop} {x:Nat->Act->World->Prop}
  (h:Ob.aK Tryz.prog [] (Ob.GH (ub gl w0 M0 F0) qV.ntmps (si R.p a k) (bw (eN R t))) n i x) :
  Ob.aK Tryz.prog DV (Ob.GH (ub gl w0 M0 F0) qV.ntmps (Yk R.p a k t) (bw R)) n i x:=by
 unfold eN at h;rw[ah e,ah f,ah g] at h;refine Ob.gcd fZ 1 (fun d=>bg .bool 16 d) (fun q=>sj R.p a k t 16 q) (fun q=>q=false) ?_ (fun q b=>?_);intro w ids M num;refine @al ((sj R.p a k t 16 (t.fst==1)).ag ((t.fst==1)=false)) _ ?_ ?_;kernel_rfl;exact ao (by simp[e]);subst b;refine Ob.eQ (aq DV 1) ?_;refine Ob.gcd fZ 1 (fun d=>bg .bool 45 d) (fun q=>sj R.p a k t 45 q) (fun q=>q=false) ?_ (fun q b=>?_);intro w ids M num;refine @al ((sj R.p a k t 45 (t.fst==2)).ag ((t.fst==2)=false)) _ ?_ ?_;kernel_rfl;exact ao (by simp[f]);subst b;refine Ob.eQ (aq Lf 1) ?_;refine Ob.gcd fZ 1 (fun d=>bg .bool 63 d) (fun q=>sj R.p a k t 63 q) (fun q=>q=false) ?_ (fun q b=>?_);intro w ids M num;refine @al ((sj R.p a k t 63 (t.fst==3)).ag ((t.fst==3)=false)) _ ?_ ?_;kernel_rfl;exact ao (by simp[g]);subst b;refine Ob.eQ (aq adC 1) ?_;refine Ob.gA (si R.p a k) ?_;exact h
end
def hsY (p:Nat) (a:List Hbm.Told) (k:Int) (t:Hbm.Told):St:=ar qV.ntmps 8 [(0,aG p),(8,.is (.one (.ro fx a))),(9,sI .i64 a.length),(10,sI .i64 k),(5,.is (.one (.ptr 0 0))),(15,sI .i64 t.1)] [(0,Dz t)]
theorem HW (gl:Nat->Option (Sigma aA)):Ob.dG Tryz.prog gl 47 (fun z:Rt × List Hbm.Told=>[aG z.1.p,.is (.one (.ro fx z.2))]) (fun z=>z.1.dealers.length<1000/\z.1.old.length<1000/\z.1.deals.length<500000/\z.1.faults.length<500000/\z.1.proofs.length<500000000000/\z.2.length<100/\∀ t∈z.2,ox t)
  (fun z=>bw z.1) (fun _ (_:Unit)=>.tup []) (fun z _=>bw (iR z.1 z.2)) (fun _ _=>True):=by
 refine Ob.cA (sp:=V7) qj ab (fun z=>by show 2<=qV.ntmps;exact Odt ab) (fun z _=>rfl) ?_;rintro⟨R,a⟩ ⟨u,x,y,A,C,n,e⟩ w0 M0 F0;have n:a.length<100:=n;have e:∀ t∈a,ox t:=e;refine Ob.ee fZ 1 (si R.p a 0) ?_;refine Ob.yy fZ mixed (c:=hsC) (fun k=>si R.p a (k:Int)) (fun k=>bw (iR R (a.take k))) a.length ab ab (fun k g w ids M num=>?_) (fun k g=>?_) ?_;refine al (X:=((decide ((k:Int)<(a.length:Int))=true->(si R.p a (k:Int)).ag (k<a.length))/\(decide ((k:Int)<(a.length:Int))=false->(si R.p a (k:Int)).ag (k=a.length)))) ab ?_;exact⟨fun h=>ao (by have:=dec_lt h;omega),fun h=>ao (by have:=bW h;omega)⟩
 ·have f:=uQ (a.take k) R;have i:=BZ (a.take k) R (fun t H=>e t (ng H));rw[cX] at i;have b:RtOk (iR R (a.take k)):=by
   refine⟨by rw[f.dealers];exact u,by rw[f.old];exact x,?_,?_,?_⟩;have:R.deals.length<500000:=y;omega;have:R.faults.length<500000:=A;omega;have:R.proofs.length<500000000000:=C;omega
  have j:iR R (a.take (k+1))=eN (iR R (a.take k)) (a.getD k (0,0,[])):=by rw[cr g,QC,aX,bz g];rfl
  have d:ox (a.getD k (0,0,[])):=by rw[aX,bz g];exact e _ (dx g)
  rw[j];refine Ob.eR (E:=ub gl w0 M0 F0) (c:=aq hsL 2) (Ob.GH (ub gl w0 M0 F0) qV.ntmps (si R.p a (k:Int)) (bw (eN (iR R (a.take k)) (a.getD k (0,0,[]))))) ab ab ?_ ?_;refine Ob.kJ fZ mixed 2 [(0,24)] (fun l=>pP fx 0 l) (fun t=>hsY R.p a (k:Int) t) (fun t=>t=a.getD k (0,0,[])) (fun _=>False) (fun _ _=>False) ?_ (fun t F=>?_) (fun _ _ _ h _=>h.elim) (fun _ _ _ _ h _=>h.elim);intro w ids M num;refine @al ((0<=(k:Int)/\(k:Int)<(a.length:Int))/\(k:Int).toNat<a.length/\(hsY R.p a (k:Int) (a.getD (k:Int).toNat (0,0,[]))).ag (a.getD (k:Int).toNat (0,0,[])=a.getD k (0,0,[]))) _ ?_ ?_;kernel_rfl;rw[aB];exact⟨⟨aa,aa⟩,g,ao rfl⟩;rw[<- F] at d ⊢;refine Ob.eR (E:=ub gl w0 M0 F0) (c:=aq hsB 2) (Ob.GH (ub gl w0 M0 F0) qV.ntmps (si R.p a (k:Int)) (bw (eN (iR R (a.take k)) t))) ab ab ?_ (Ob.cF fun _ _ h=>h);have D:=f.p;rw[<- D];by_cases o:t.1=1;exact ah7 gl w0 M0 F0 _ b a k t d o (Ob.cF fun _ _ h=>h);by_cases r:t.1=2;exact ah8 gl w0 M0 F0 _ b a k t d r (Ob.cF fun _ _ h=>h);by_cases s:t.1=3;exact ah9 gl w0 M0 F0 _ b a k t d s (Ob.cF fun _ _ h=>h);exact aia gl w0 M0 F0 _ b a k t o r s (Ob.cF fun _ _ h=>h);refine Ob.gcd fZ 1 (fun l=>bg iK 10 l) (fun q=>si R.p a q) (fun q=>q=((k+1:Nat):Int)) ?_ (fun q G=>?_);intro w ids M num;refine @al ((si R.p a (IntKind.i64.wrap ((k:Int)+1))).ag (IntKind.i64.wrap ((k:Int)+1)=(↑(k+1):Int))) _ ?_ ?_;kernel_rfl;exact ao (aS aa);subst G;exact Ob.cF fun _ _ h=>h
 rw[aV];exact Ob.pM fZ (.tup []) ⟨(),trivial,Ob.a7 _,rfl⟩
set_option maxHeartbeats 4000000
open Go.Hbn(Talk a5 eF)
theorem D8 (H:a5) (i:Nat) (m:Hbm.aC):∀ x∈(Hbn.kc H i m).2.2,x=(m.bD,m.bO,m.body):=by unfold Hbn.kc;split;intro x a;simpa using a;intro x a;cases a
theorem tq {rec:a5->Hbm.aC->eF} (a:∀ H m,∀ x∈(rec H m).2.2,x=(m.bD,m.bO,m.body)) (H:a5) (i:Nat) (m:Hbm.aC):∀ x∈(Hbn.dK rec H i m).2.2,x=(m.bD,m.bO,m.body):=by unfold Hbn.dK;split;intro x hx;rcases List.mem_append.1 hx with hx|hx;exact a _ (Hbn.own (H.set i { H.get i with ready:=true }) 3 m) x hx;exact D8 _ i m x hx;exact D8 H i m
theorem Aq {rec:a5->Hbm.aC->eF} (a:∀ H m,∀ x∈(rec H m).2.2,x=(m.bD,m.bO,m.body)) (H:a5) (m:Hbm.aC):∀ x∈(Hbn.jl rec H m).2.2,x=(m.bD,m.bO,m.body)/\Hbn.counts H.mem m=true:=by unfold Hbn.jl;split;rename_i b;intro x hx;refine⟨?_,b⟩;revert x hx;show ∀ x∈(Hbn.mF rec H (H.at m) m).2.2,x=(m.bD,m.bO,m.body);unfold Hbn.mF;split;split;intro x hx;rcases List.mem_append.1 hx with hx|hx;exact a _ (Hbn.own (H.set (H.at m) { H.get (H.at m) with begun:=true }) 2 m) x hx;exact tq a _ _ m x hx;exact tq a H _ m;split;split;intro x hx;cases hx;exact tq a _ _ m;split;intro x hx;cases hx;exact tq a _ _ m;intro x hx;cases hx
theorem xz (H:a5) (m:Hbm.aC) (q:Nat × Nat × Nat):(∀ x∈(Hbn.jc H m q).2.2,x=(m.bD,m.bO,m.body)/\Hbn.counts H.mem m=true)/\(Hbn.jc H m q).2.2.length<=14/\(Hbn.jc H m q).2.1.length<=14:=by
 have e:(if Hbn.counts H.mem m then H.of m q else H).mem=H.mem:=by split;unfold Hbn.a5.of;split<;>rfl;rfl
 have h:=Aq (rec:=Hbn.kk 1) (fun H m x a=>(Aq (rec:=Hbn.kk 0) (fun H m x a=>(Aq (rec:=fun H _=>(H,[],[])) (fun _ _ x a=>by cases a) H m x a).1) H m x a).1) (if Hbn.counts H.mem m then H.of m q else H) m;rw[e] at h;have b:=afI (if Hbn.counts H.mem m then H.of m q else H) m;exact⟨h,b.2,b.1⟩
theorem S6 {H:a5} (h:dr H) {m:Hbm.aC} (g:Bs m.body) (q:Nat × Nat × Nat):dr (Hbn.jc H m q).1/\(Hbn.jc H m q).1.p=H.p/\(Hbn.jc H m q).1.mem=H.mem/\(Hbn.jc H m q).1.me=H.me:=by
 unfold Hbn.jc;by_cases b:Hbn.counts H.mem m=true
 ·rw[aj b];have c:e6 H.mem m:=⟨b,g⟩;obtain⟨d,f⟩:=YA h c q;have a:(H.of m q).mem=H.mem/\(H.of m q).p=H.p/\(H.of m q).me=H.me:=by unfold Hbn.a5.of;split<;>exact⟨rfl,rfl,rfl⟩
  obtain⟨g1,g2⟩:=rec_2 (H.of m q) m d (by rw[a.1];exact c) f;exact⟨g1,g2.p.trans a.2.1,g2.mem.trans a.1,g2.me.trans a.2.2⟩
 ·rw[ah b];have e:Hbn.kk 2 H m=(H,[],[]):=by
   show Hbn.jl (Hbn.kk 1) H m=_;unfold Hbn.jl;rw[ah b]
  rw[e];exact⟨h,rfl,rfl,rfl⟩
theorem PD {H:a5} (h:dr H) {m:Hbm.aC} (b:Bs m.body) (q:Nat × Nat × Nat):∀ x∈(Hbn.jc H m q).2.2,ox x:=by intro x e;obtain⟨rfl,d⟩:=(xz H m q).1 x e;have c:e6 H.mem m:=⟨d,b⟩;have f:=c.bD;have a:=h.i64 _ c.bO;exact⟨by show m.body.length<_;omega,b,⟨a.1,by have:=a.2;show m.bO<_;omega⟩⟩
def eC (b:List Int):List Int:=if b=[] then [0] else b
theorem qN:enters Tryz.prog 64 Tryz.f64:=ek
abbrev ml:Func:=Tryz.f64
def rsA (p:Nat) (a:Int) (b:List Int) (q:Bool):St:=ar ml.ntmps 8 [(0,aG p),(1,sI .i64 a),(2,lM b),(11,av q)] []
def rsB (p:Nat) (a:Int) (b:List Int):St:=ar ml.ntmps 8 [(0,aG p),(1,sI .i64 a),(2,lM b)] []
def rsZ (p:Nat) (a:Int):St:=ar ml.ntmps 9 [(0,aG p),(1,sI .i64 a),(2,.is (.one (.sl 8 0 0 1 1)))] [(8,[.ints .u8 1 [0]])]
def rsC (R:Rt) (c:Int) (b:List Int) (a:Nat):St:=ar ml.ntmps 14 [(0,.is (.one (.ptr 8 0))),(17,aG a),(18,sI .i64 c),(19,lM b)] (ig R (bh++[.v (.int .i64 R.fault)]))
def rsO (R:Rt) (a:Int) (b:List Int):St:=ar ml.ntmps 14 [(0,.is (.one (.ptr 8 0))),(1,sI .i64 a),(2,lM b)] (ig R (bh++[.v (.int .i64 R.fault)]))
def rsD (R:Rt) (ms:List Hbm.aC) (a:List Hbm.Told):St:=ar ml.ntmps 14 [(0,.is (.one (.ptr 8 0))),(7,.is (.one (.ro km ms))),(8,.is (.one (.ro fx a)))] (ig R (bh++[.v (.int .i64 R.fault)]))
def rsE (p:Nat) (ms:List Hbm.aC) (a:List Hbm.Told):St:=ar ml.ntmps 8 [(0,aG p),(7,.is (.one (.ro km ms))),(8,.is (.one (.ro fx a)))] []
def rsG (p:Nat) (ms:List Hbm.aC) (a:List Hbm.Told):St:=ar ml.ntmps 8 [(7,.is (.one (.ro km ms))),(23,aG p),(24,.is (.one (.ro fx a)))] []
def rsH (ms:List Hbm.aC):St:=ar ml.ntmps 8 [(7,.is (.one (.ro km ms)))] []
abbrev WX:=aP [RB]
theorem vj:aD Tryz.prog WX:=aJ aee bp
structure SayIn where
 R:Rt
 H:a5
 tp:Int
 b:List Int
def ia (z:SayIn) (q:Nat × Nat × Nat):List Hbm.aC:=(Hbn.iW z.H z.tp (eC z.b) q).2.1
def pF (z:SayIn) (q:Nat × Nat × Nat):Rt:=iR z.R (Hbn.iW z.H z.tp (eC z.b) q).2.2
def qt (z:SayIn) (q:Nat × Nat × Nat):a5:=(Hbn.iW z.H z.tp (eC z.b) q).1
structure Big (R:Rt):Prop where
 dealers:R.dealers.length<1000
 old:R.old.length<1000
 deals:R.deals.length<500000
 faults:R.faults.length<500000
 proofs:R.proofs.length<500000000000
section
variable (gl:Nat->Option (Sigma aA)) (w0:World) (M0:Mem) (F0:Nat->Prop)
abbrev CA:Ob.b5:=Ob.kO Tryz.prog WX gl w0 M0 F0
theorem aje (p:Nat) (a:Int) (b:List Int) (G:Ob.ai) {n r:Act->World->Prop} {x:Nat->Act->World->Prop}
  (h:Ob.aK Tryz.prog ((ak ml).drop 3) (Ob.GH (CA gl w0 M0 F0) ml.ntmps (rsB p a (eC b)) G) n r x) :
  Ob.aK Tryz.prog (ak ml) (Ob.GH (CA gl w0 M0 F0) ml.ntmps (ln ml [aG p,sI .i64 a,lM b] [] 0) G) n r x:=by
 refine Ob.gcd vj 2 (fun e=>bg .bool 11 e) (fun q=>rsA p a b q) (fun q=>q=decide (b=[])) ?_ (fun q d=>?_)
 ·intro w ids M num;refine @al ((rsA p a b ((b.length:Int)==0)).ag (((b.length:Int)==0)=decide (b=[]))) _ ?_ ?_;kernel_rfl;refine ao ?_;cases b with
  | nil=>rfl
  | cons y b =>rw[cp au];rw[beq_eq_false_iff_ne,bG];omega
 cases q;have c:¬ b=[]:=Odf d.symm;rw[eC,ah c] at h;refine Ob.eQ (aq (ak ml) 2) ?_;refine Ob.gA (rsB p a b) ?_;exact h;have c:b=[]:=Odt d.symm;rw[eC,aj c] at h;refine Ob.jx (aq (ak ml) 2) ?_;refine Ob.ee vj 1 (rsZ p a) ?_;refine Ob.sN 2 8 1 1 .u8 [0] ab ab rfl ?_;refine Ob.gA (rsB p a [0]) ?_;exact h
theorem ajf (p:Nat) (ms:List Hbm.aC) (a:List Hbm.Told) (G:Ob.ai) {n r:Act->World->Prop} {x:Nat->Act->World->Prop}
  (h:Ob.kt Tryz.prog (bo (aq (ak ml) 4)) 2 ((ak ml).drop 5) (Ob.GH (CA gl w0 M0 F0) ml.ntmps (rsG p ms a) G) n r x) :
  Ob.aK Tryz.prog ((ak ml).drop 4) (Ob.GH (CA gl w0 M0 F0) ml.ntmps (rsE p ms a) G) n r x:=by
 refine Ob.dB 4 (bo (aq (ak ml) 4)) ?_;refine Ob.fD vj 2 (fun _=>()) (fun _=>rsG p ms a) (fun _=>True) ?_ (fun _ _=>h);intro w ids M num;refine @al ((rsG p ms a).ag True) _ ?_ ?_;kernel_rfl;exact ao trivial
theorem ajg (ms:List Hbm.aC) (b:ms.length<1048576) (G:Ob.ai) {Q:SV->Ob.ai->Prop} (a:Q (.is (.one (.ro cH (dN ms)))) G) :
  Ob.aK Tryz.prog ((ak ml).drop 5) (Ob.GH (CA gl w0 M0 F0) ml.ntmps (rsH ms) G) (Ob.cP (CA gl w0 M0 F0) ml Q) (Ob.cP (CA gl w0 M0 F0) ml Q) (fun _ _ _=>False):=by
 refine Ob.g9 vj mixed _ ?_ a;intro w ids M num;refine @al (ms.length<1048576/\SV.is (TV.one (Cell.ro cH (dN ms)))=SV.is (TV.one (Cell.ro cH (dN ms)))) _ ?_ ?_;kernel_rfl;exact⟨b,rfl⟩
end
theorem LL (gl:Nat->Option (Sigma aA)):Ob.dG Tryz.prog gl 64 (fun z:SayIn=>[aG z.R.p,sI .i64 z.tp,lM z.b]) (fun z=>dr z.H/\Bs z.b/\z.b.length<1048576/\z.R.hub=z.H.p/\Big z.R)
  (fun z=>Ob.ai.sep (bw z.R) (bu z.H)) (fun z q=>.is (.one (.ro cH (dN (ia z q))))) (fun z q=>Ob.ai.sep (bw (pF z q)) (bu (qt z q))) (fun _ _=>True):=by
 refine Ob.cA (sp:=WX) qN ab (fun z=>by show 3<=ml.ntmps;exact Odt ab) (fun z _=>rfl) ?_;rintro⟨R,H,tp,b⟩ ⟨j,l,h,i,e⟩ w0 M0 F0;have i:R.hub=H.p:=i;have h:b.length<1048576:=h;have d:Bs (eC b):=by unfold eC;split;intro x n;rw[gk] at n;omega;exact l
 have g:(eC b).length<1048576:=by unfold eC;split;decide;exact h
 refine aje gl w0 M0 F0 R.p tp b _ ?_;generalize f:eC b=a at d g;refine Ob.aO (G':=Ob.ai.obj (dF R (bh++[.v (.int .i64 R.fault)])) R.p (bu H)) (by show Ob.ai.sep (bw R) (bu H)=_;unfold bw;exact (Ob.bB _ _ _).symm) ?_;refine Ob.dB 3 (bo (aq (ak ml) 3)) ?_;refine Ob.sK (E:=CA gl w0 M0 F0) [0] ab (rsO R tp a) (aw ab ab trivial) ?_;refine Ob.c7 vj 6 (rsC R tp a R.hub) ?_;rw[i];refine Ob.gz (E:=(CA gl w0 M0 F0).pinned 8 R.p) (ad8 gl) (H,tp,a) ⟨j,d,g⟩ Oc (fun q _=>?_);refine Ob.c7 vj 12 (rsD R (Hbn.iW H tp a q).2.1 (Hbn.iW H tp a q).2.2) (Ob.dv ?_);refine Ob.fk (E:=CA gl w0 M0 F0) (bl:=dF R (bh++[.v (.int .i64 R.fault)])) [] [8,9,10,11,12,13] 9 (rsE R.p (Hbn.iW H tp a q).2.1 (Hbn.iW H tp a q).2.2) ?_;refine Ob.aO (G':=Ob.ai.sep (bw R) (bu (Hbn.iW H tp a q).1)) (Ob.bB _ _ _) ?_;have o:=PD j (m:=(1,0,H.me,H.me,tp,0,a)) d q;have k:=xz H (1,0,H.me,H.me,tp,0,a) q;have r:(Hbn.iW H tp a q).2.1.length<1048576:=by show ([_]++(Hbn.jc H (1,0,H.me,H.me,tp,0,a) q).2.1).length<_;rw[bb];have:=k.2.2;simp only[bG,eG];omega
 refine ajf gl w0 M0 F0 R.p _ _ _ ?_;refine Ob.gz (E:=CA gl w0 M0 F0) (Ob.cJ (fun _=>bu (Hbn.iW H tp a q).1) (HW gl)) (R,(Hbn.iW H tp a q).2.2) ⟨e.dealers,e.old,e.deals,e.faults,e.proofs,by have:=k.2.1;show (Hbn.jc H (1,0,H.me,H.me,tp,0,a) q).2.2.length<_;omega,o⟩ qj (fun _ _=>?_);refine Ob.dv ?_;refine Ob.gA (rsH (Hbn.iW H tp a q).2.1) ?_;refine ajg gl w0 M0 F0 _ r _ ⟨q,trivial,?_,?_⟩;unfold ia;rw[f];exact Ob.a7 _;unfold pF qt;rw[f]
open Go.IntKind(i64)
set_option maxHeartbeats 4000000
theorem Vm:enters Tryz.prog 110 Tryz.f110:=ek
theorem Z1:aL Tryz.prog 110 [cl,.ptr iK] [.val .bool] bx (fun _=>True) (fun (d,x,_)=>(d.1==x,())):=by refine a8 (sp:=aP []) bp mixed Vm ae ae ?_;rintro w M0 ⟨d,x,⟨⟩⟩;revert x;intro (x:Int) _ _;refine @al (0<[x].length/\(d.fst==x,())=(d.fst==x,())) _ ?_ ?_;kernel_rfl;exact⟨jU,rfl⟩
def Ul:Nat × Eng.Spec:=(110,aH [cl,.ptr iK] [.val .bool] (fun _=>True) (fun (d,x,_)=>(d.1==x,())))
abbrev FB:Kd:=.cap (.fn 110) iK
theorem ZJ:enters Tryz.prog 109 Tryz.f109:=ek
def QK (a:List (Int × List (Fp × Fp))) (x:Int) (g:Int):St:=ar Tryz.f109.ntmps 32 [(0,.is (.one (.ro (cl) a))),(1,.is (.one (.fv FB ((),x)))),(7,sI .i64 a.length),(8,sI .i64 g)] []
theorem acH:aL Tryz.prog 109 [.sl (cl),FB] [.val iK] bx (fun (a,_,_)=>length a<4611686018427387904) (fun (a,(_,x),_)=>(du (fun d:Int × List (Fp × Fp)=>d.1==x) a,())):=by
 have e:aD Tryz.prog (aP [Ul]):=aJ (aM Z1) bp;refine bI (sp:=aP [Ul]) ZJ ae ae ab ?_;rintro w M0 ⟨a,⟨⟨⟩,x⟩,⟨⟩⟩;revert a x;intro (a:List (Int × List (Fp × Fp))) (x:Int) _ m;have m:a.length<4611686018427387904:=m;show Tr _ _ _ _ _ _ _;refine bd e mixed 2 (QK a x 0) True ?_ (fun _=>?_);refine al (X:=((QK a x 0).ag True)) ab ?_;exact ao trivial;refine cd e mixed h9 (fun o=>bg (.int .i64) 8 o) (QK a x) (fun g=>∃ k:Nat,k<=a.length/\g=(k:Int)/\k<=a.findIdx (fun d:Int × List (Fp × Fp)=>d.1==x)) (fun g=>a.length-g.toNat)
  (fun _=>()) (fun _=>ar Tryz.f109.ntmps 32 [] []) (fun _=>a.length<=a.findIdx (fun d:Int × List (Fp × Fp)=>d.1==x)) 0 (c:=aq (ak Tryz.f109) 2) ab ab (aw ab ab ?_) ?_ ?_
 exact⟨0,a2 _,rfl,a2 _⟩
 ·intro (i:Int) ⟨k,p,n,j⟩;subst n;refine @al ((decide ((k:Int)<(a.length:Int))=true->(0<=(k:Int)/\(k:Int)<(a.length:Int))/\(k:Int).toNat<a.length/\True/\(((a.getD (k:Int).toNat (0,[])).fst==x)=true->((k:Int),())=(du (fun d=>d.fst==x) a,()))/\(((a.getD (k:Int).toNat (0,[])).fst==x)=false->(QK a x (i64.wrap ((k:Int)+1))).ag ((∃ f,f<=a.length/\i64.wrap ((k:Int)+1)=(f:Int)/\f<=List.findIdx (fun d=>d.fst==x) a)/\a.length-(i64.wrap ((k:Int)+1)).toNat<a.length-(k:Int).toNat)))/\(decide ((k:Int)<(a.length:Int))=false->(ar Tryz.f109.ntmps 32 [] []).ag (a.length<=List.findIdx (fun d=>d.fst==x) a))) _ ?_ ?_;kernel_rfl;rw[aB];refine⟨fun h=>?_,fun h=>ao (by have:=bW h;omega)⟩;have b:k<a.length:=by have:=dec_lt h;omega
  rw[aS aa];refine⟨⟨aa,aa⟩,b,trivial,fun l=>?_,fun l=>ao ⟨⟨k+1,b,rfl,qX ((0:Int),([]:List (Fp × Fp))) b j (by exact l)⟩,by rw[aB];omega⟩⟩;show ((k:Int),())=(du _ a,());rw[ve ((0:Int),([]:List (Fp × Fp))) b j (by exact l)]
 rintro⟨⟩ (j:_<=_);refine bE e mixed _ _ ?_;refine @al (((-1:Int),())=(du (fun d=>d.fst==x) a,())) _ ?_ ?_;kernel_rfl;show _=(du _ a,());rw[sO j]
theorem ac0:aL Tryz.prog 109 [.sl cl,FB] [.val iK] bx (fun (a,_,_)=>length a<4611686018427387904) (fun (a,(_,x),_)=>(ib a x,())):=acH.out fun (a,(_,x),_)=>by show (ib a x,())=(du (fun d:Int × List (Fp × Fp)=>d.1==x) a,());rw[ib,bf]
def af0:Nat × Eng.Spec:=(109,aH [.sl cl,FB] [.val iK] (fun (a,_,_)=>length a<4611686018427387904) (fun (a,(_,x),_)=>(ib a x,())))
def iu (a:List Int) (x:Int):Int:=eS (law22.vG a x)
theorem VT:aL Tryz.prog 58 [.sl (.int .i64),.int .i64] [.val (.int .i64)] bx law22.hZ (fun (a,x,_)=>(iu a x,())):=law22.KR.out fun (a,x,_)=>by show (iu a x,())=(law22.vG a x,());rw[iu,bf]
def abm:Nat × Eng.Spec:=(58,aH [.sl (.int .i64),.int .i64] [.val (.int .i64)] law22.hZ (fun (a,x,_)=>(iu a x,())))
def kU (b d:Int) (a:List Pt) (p:Int × Int × Fr):Bool:=p.1==d&&p.2.1==b&&law22.sh a b p.2.2
def cb (R:Rt) (d:Int):Fr × Bool :=
 if ib R.deals d<0 then (0,false)
 else if decide (iu R.aW d>=0)&&law22.sh (cO R.deals d) R.me (R.shares.getD (iu R.aW d).toNat 0) then (R.shares.getD (iu R.aW d).toNat 0,true)
 else match R.proofs.find? (kU R.me d (cO R.deals d)) with
  | some p=>(p.2.2,true)
  | none=>(0,false)
theorem ab9 (a:List (Int × List Pt)) (x:Int):ib a x<a.length:=by rw[ib,bf,du];split;omega;omega
theorem Y5:∀ {a:List Int} {x:Int},x∈a->(a.takeWhile fun y=>decide (y≠x)).length<a.length
 | y::a,x,h=>by rw[List.takeWhile_cons];split;rename_i b;have b:y≠x:=Odt b;rcases mem_cons.1 h with e|h;exact absurd e.symm b;have:=Y5 h;simp only[bG];omega;simp
theorem adS (a:List Int) (x:Int):iu a x<a.length:=by rw[iu,bf,law22.vG];split;rename_i h;exact Int.ofNat_lt.2 (Y5 h);omega
theorem ZU {a:Type} {f:a->Bool} {l:List a} {k:Nat} (d:k<l.length) (h:∀ x∈l.take k,f x=false) (b:f l[k]=true):l.find? f=some l[k]:=by rw[List.find?_eq_some_iff_append];refine⟨b,l.take k,l.drop (k+1),?_,fun x e=>by rw[h x e];rfl⟩;rw[<- lS d,dR]
theorem BG:enters Tryz.prog 67 Tryz.f67:=ek
abbrev xr:Func:=Tryz.f67
abbrev W2:=aP [af0,abm,law22.Ue]
theorem lk:aD Tryz.prog W2:=aJ (aM ac0) (aJ (aM VT) (aJ (aM law22.Oo) bp))
def shA (p:Nat) (d:Int):St:=ar xr.ntmps 8 [(0,aG p),(3,.is (.one (.ptr 0 0))),(4,.is (.one (.ptr 1 0)))] [(0,[.v (.int .i64 d)]),(1,[.row .fr 1 [(0:Fr)]])]
def GK (R:Rt) (d:Int) (a:List (Nat × SV)):St:=ar xr.ntmps 14 ([(0,.is (.one (.ptr 8 0))),(3,.is (.one (.ptr 0 0))),(4,.is (.one (.ptr 1 0)))]++a) ((0,[.v (.int .i64 d)])::(1,[.row .fr 1 [(0:Fr)]])::ig R (bh++[.v (.int .i64 R.fault)]))
def GL (R:Rt) (x:Fr) (b:Cell):St:=ar xr.ntmps 14 [(4,.is (.one (.ptr 1 0))),(5,.is (.one b))] ((1,[.row .fr 1 [x]])::ig R (bh++[.v (.int .i64 R.fault)]))
def YM (x:Fr) (b:Cell):St:=ar xr.ntmps 8 [(4,.is (.one (.ptr 1 0))),(5,.is (.one b))] [(1,[.row .fr 1 [x]])]
def mn (R:Rt) (d:Int) (a:List Pt) (k:Int):St:=GK R d [(7,.is (.one (.ro aN a))),(61,.is (.one (.sl 11 0 0 R.proofs.length 6))),(62,sI .i64 R.proofs.length),(63,sI .i64 k)]
def YL (R:Rt) (d:Int) (a:List Pt) (k:Int) (p:Int × Int × Fr) (q:SV):St:=ar xr.ntmps 31 [(0,.is (.one (.ptr 8 0))),(3,.is (.one (.ptr 0 0))),(4,.is (.one (.ptr 1 0))),(7,.is (.one (.ro aN a))),(61,.is (.one (.sl 11 0 0 R.proofs.length 6))),(62,sI .i64 R.proofs.length),(63,sI .i64 k),(10,.is (.one (.ptr 30 0))),(89,q)] ((0,[.v (.int .i64 d)])::(1,[.row .fr 1 [(0:Fr)]])::(30,[.v (.int .i64 p.1),.v (.int .i64 p.2.1),.row .fr 1 [p.2.2]])::ig R (bh++[.v (.int .i64 R.fault)]))
abbrev Ub:Code:=aq (ak xr) 9
abbrev Pj (y:Fr × Bool):SV:=.tup [.agg [.row .fr 1 [y.1]],.one (.v (.bool y.2))]
theorem GM (x:Fr) (b:Bool):cG (.tup [.agg [.row .fr 1 [x]],.one (if b then .T else .F)]) (Pj (x,b)):=by
 rintro k v ⟨j,rfl,g,i,rfl,d,h,f,rfl,a,e⟩;refine⟨_,rfl,g,_,rfl,d,h,f,rfl,?_,e⟩;cases b with
 | true=>exact⟨a,rfl⟩
 | false=>exact⟨a,rfl⟩
section
variable (gl:Nat->Option (Sigma aA)) (w0:World) (M0:Mem) (F0:Nat->Prop)
abbrev yS:Ob.b5:=Ob.kO Tryz.prog W2 gl w0 M0 F0
theorem GN (R:Rt) (x:Fr) (b:Cell) {Q:SV->Ob.ai->Prop} (f:Q (.tup [.agg [.row .fr 1 [x]],.one b]) (bw R)) {d:St} {a:Act} {w:World} (h:d.le (Ob.cj ((yS gl w0 M0 F0).pinned 8 R.p)) (GL R x b) True) (i:(match b with | .T=>true | .F=>true|_=>false)=true) (g:Ob.GH ((yS gl w0 M0 F0).pinned 8 R.p) xr.ntmps d Ob.ai.none a w):Ob.cP (yS gl w0 M0 F0) xr Q a w:=by
 cases b with
 | T =>have e:=(Ob.oU (E:=yS gl w0 M0 F0) (bl:=dF R (bh++[.v (.int .i64 R.fault)])) [1] [8,9,10,11,12,13] rfl ab ab rfl ab 9 (g.le h).2).le (τ:=YM x .T) (K:=True) (aw ab ab trivial);exact⟨YM x .T,_,Ob.cj (yS gl w0 M0 F0),e.2,f⟩
 | F =>have e:=(Ob.oU (E:=yS gl w0 M0 F0) (bl:=dF R (bh++[.v (.int .i64 R.fault)])) [1] [8,9,10,11,12,13] rfl ab ab rfl ab 9 (g.le h).2).le (τ:=YM x .F) (K:=True) (aw ab ab trivial);exact⟨YM x .F,_,Ob.cj (yS gl w0 M0 F0),e.2,f⟩
 | _=>cases i
end
theorem LM (gl:Nat->Option (Sigma aA)):Ob.dG Tryz.prog gl 67 (fun z:Rt × Int=>[aG z.1.p,sI .i64 z.2]) (fun z=>z.1.deals.length<1000000/\z.1.aW.length=z.1.shares.length/\z.1.shares.length<1000000/\z.1.proofs.length<1000000000000/\fh z.1.me/\∀ d∈z.1.deals,d.2.length<1000000)
  (fun z=>bw z.1) (fun z (_:Unit)=>Pj (cb z.1 z.2)) (fun z _=>bw z.1) (fun _ _=>True):=by
 refine Ob.cA (sp:=W2) BG ab (fun z=>by show 2<=xr.ntmps;exact Odt ab) (fun z _=>rfl) ?_;rintro⟨R,d⟩ ⟨D,G,H,I,u,C⟩ w0 M0 F0;have D:R.deals.length<1000000:=D;have G:R.aW.length=R.shares.length:=G;have H:R.shares.length<1000000:=H;have I:R.proofs.length<1000000000000:=I;have U:(cO R.deals d).length<1000000:=by
  unfold cO;rw[aX];cases N:R.deals[(ib R.deals d).toNat]? with
  | none=>simp
  | some y=>exact C y (dS N)
 show Ob.aK _ _ (Ob.GH _ _ _ (bw R)) _ _ _;refine Ob.BV lk 1 [(1,8)] (shA R.p d) ?_;unfold bw;refine Ob.gZ [0] (GK R d []) ?_;have A:=ab9 R.deals d;have Q:=adS R.aW d;refine Ob.gcd lk 2 (fun j=>bg iK 6 j) (fun q=>GK R d [(6,sI .i64 q),(18,av (decide (q<0)))]) (fun q=>q=ib R.deals d) ?_ (fun q m=>?_);intro w ids M num;refine @al (0+R.deals.length<=R.deals.length/\(take R.deals.length R.deals).length<4611686018427387904/\(GK R d [(6,sI i64 (ib (take R.deals.length R.deals) d,()).fst),(18,av (decide ((ib (take R.deals.length R.deals) d,()).fst<(0:aA iK))))]).ag (ib (take R.deals.length R.deals) d=ib R.deals d)) _ ?_ ?_;kernel_rfl;exact⟨aa,by rw[cX];omega,ao (by rw[aV])⟩;subst m;cases K:decide (ib R.deals d<0) with
 | true =>refine Ob.jx (aq (ak xr) 3) ?_;refine Ob.kK lk mixed (fun _=>False) (fun e=>e.le (Ob.cj ((yS gl w0 M0 F0).pinned 8 R.p)) (GL R 0 .F) True) (fun _ _=>False) ?_ (fun _ _ _ h _=>h.elim) (fun e a w o g=>GN gl w0 M0 F0 R 0 .F ⟨(),trivial,?_,rfl⟩ o rfl g) (fun _ _ _ _ h _=>h.elim);intro w ids M num;refine @al ((GL R (0:Fr) Cell.F).ag True) _ ?_ ?_;kernel_rfl;exact ao trivial;show cG _ (Pj (cb R d));rw[cb,aj (Odt K)];exact GM 0 false
 | false =>
  have n:¬ ib R.deals d<0:=Odf K;refine Ob.eQ (aq (ak xr) 3) ?_;refine Ob.gcd lk 2 (fun j=>bg iK 8 j) (fun q=>GK R d [(7,.is (.one (.ro aN (cO R.deals d)))),(8,sI .i64 q)]) (fun q=>q=iu R.aW d) ?_ (fun q m=>?_);intro w ids M num;refine @al ((0<=ib R.deals d/\ib R.deals d<(R.deals.length:Int))/\(ib R.deals d).toNat<R.deals.length/\0+R.aW.length<=R.aW.length/\law22.hZ (take R.aW.length R.aW,d,())/\(GK R d [(7,SV.is (TV.one (Cell.ro aN (cO R.deals d)))),(8,sI i64 (iu (take R.aW.length R.aW) d,()).fst)]).ag (iu (take R.aW.length R.aW) d=iu R.aW d)) _ ?_ ?_;kernel_rfl;exact⟨⟨aa,A⟩,aa,aa,by show (take R.aW.length R.aW).length<_;rw[cX];omega,ao (by rw[aV])⟩;subst m;refine Ob.kH lk mixed 1 50 (fun j=>bg .bool 50 j) (fun q=>GK R d [(7,.is (.one (.ro aN (cO R.deals d)))),(8,sI .i64 (iu R.aW d)),(50,av q)]) (fun q=>q=(decide (iu R.aW d>=0)&&law22.sh (cO R.deals d) R.me (R.shares.getD (iu R.aW d).toNat 0))) (fun _=>False) (fun _ _=>False) ?_ (fun q i=>?_) (fun _ _ _ h _=>h.elim) (fun _ _ _ _ h _=>h.elim);intro w ids M num;refine @al ((decide (iu R.aW d>=0)=true->(0<=iu R.aW d/\iu R.aW d<(R.shares.length:Int))/\(iu R.aW d).toNat<R.shares.length/\poly.vi (cO R.deals d,R.me,R.shares.getD (iu R.aW d).toNat (0:Fr),())/\(GK R d [(7,SV.is (TV.one (Cell.ro aN (cO R.deals d)))),(8,sI i64 (iu R.aW d)),(50,av (law22.sh (cO R.deals d) R.me (R.shares.getD (iu R.aW d).toNat (0:Fr)),()).fst)]).ag (law22.sh (cO R.deals d) R.me (R.shares.getD (iu R.aW d).toNat (0:Fr))=(decide (iu R.aW d>=0)&&law22.sh (cO R.deals d) R.me (R.shares.getD (iu R.aW d).toNat (0:Fr)))))/\(decide (iu R.aW d>=0)=false->(GK R d [(7,SV.is (TV.one (Cell.ro aN (cO R.deals d)))),(8,sI i64 (iu R.aW d)),(50,av false)]).ag (false=(decide (iu R.aW d>=0)&&law22.sh (cO R.deals d) R.me (R.shares.getD (iu R.aW d).toNat (0:Fr)))))) _ ?_ ?_;kernel_rfl;refine⟨fun h=>⟨⟨Odt h,aa⟩,by have:=Odt h;omega,⟨by show (cO R.deals d).length<_;omega,u⟩,ao (by rw[h,dp])⟩,fun h=>ao (by rw[h,eH])⟩;cases q
  ·refine Ob.eQ (aq (ak xr) 7) ?_;refine Ob.ee lk 1 (mn R d (cO R.deals d) 0) ?_;refine Ob.K9 lk mixed (c:=Ub) (fun k=>mn R d (cO R.deals d) (k:Int)) (fun _=>Ob.ai.none) (fun k=>∀ p∈R.proofs.take k,kU R.me d (cO R.deals d) p=false) R.proofs.length ab ab au (fun k t w ids M num=>?_) (fun k t s=>?_) (fun s=>?_);refine al (X:=((decide ((k:Int)<(R.proofs.length:Int))=true->(mn R d (cO R.deals d) (k:Int)).ag (k<R.proofs.length))/\(decide ((k:Int)<(R.proofs.length:Int))=false->(mn R d (cO R.deals d) (k:Int)).ag (k=R.proofs.length)))) ab ?_;exact⟨fun h=>ao (by have:=dec_lt h;omega),fun h=>ao (by have:=bW h;omega)⟩
   ·have f:R.proofs.getD k (0,0,0)=R.proofs[k]:=by rw[aX,bz t];rfl
    refine Ob.eR (E:=(yS gl w0 M0 F0).pinned 8 R.p) (c:=aq (aZ Ub) 2) (fun a w=>kU R.me d (cO R.deals d) (R.proofs.getD k (0,0,0))=false/\Ob.GH ((yS gl w0 M0 F0).pinned 8 R.p) xr.ntmps (mn R d (cO R.deals d) (k:Int)) Ob.ai.none a w) ab ab ?_ ?_;refine Ob.kH lk mixed 2 89 (fun j=>bg .bool 89 j) (fun q=>YL R d (cO R.deals d) (k:Int) (R.proofs.getD k (0,0,0)) (av q)) (fun q=>q=kU R.me d (cO R.deals d) (R.proofs.getD k (0,0,0))) (fun _=>False) (fun _ _=>False) ?_ (fun q m=>?_) (fun _ _ _ h _=>h.elim) (fun _ _ _ _ h _=>h.elim);intro w ids M num;refine @al ((0<=(k:Int)/\(k:Int)<(R.proofs.length:Int))/\(k:Int).toNat<R.proofs.length/\(((R.proofs.getD (k:Int).toNat (0,0,(0:Fr))).fst==d)=true->(((R.proofs.getD (k:Int).toNat (0,0,(0:Fr))).snd.fst==R.me)=true->poly.vi (cO R.deals d,R.me,(R.proofs.getD (k:Int).toNat (0,0,(0:Fr))).snd.snd,())/\(YL R d (cO R.deals d) (k:Int) (R.proofs.getD k (0,0,(0:Fr))) (av (law22.sh (cO R.deals d) R.me (R.proofs.getD (k:Int).toNat (0,0,(0:Fr))).snd.snd,()).fst)).ag (law22.sh (cO R.deals d) R.me (R.proofs.getD (k:Int).toNat (0,0,(0:Fr))).snd.snd=kU R.me d (cO R.deals d) (R.proofs.getD k (0,0,(0:Fr)))))/\(((R.proofs.getD (k:Int).toNat (0,0,(0:Fr))).snd.fst==R.me)=false->(YL R d (cO R.deals d) (k:Int) (R.proofs.getD k (0,0,(0:Fr))) (av false)).ag (false=kU R.me d (cO R.deals d) (R.proofs.getD k (0,0,(0:Fr))))))/\(((R.proofs.getD (k:Int).toNat (0,0,(0:Fr))).fst==d)=false->(YL R d (cO R.deals d) (k:Int) (R.proofs.getD k (0,0,(0:Fr))) (av false)).ag (false=kU R.me d (cO R.deals d) (R.proofs.getD k (0,0,(0:Fr)))))) _ ?_ ?_;kernel_rfl;rw[aB];refine⟨⟨aa,aa⟩,t,fun a=>⟨fun b=>⟨⟨by show (cO R.deals d).length<_;omega,u⟩,ao ?_⟩,fun b=>ao ?_⟩,fun a=>ao ?_⟩;rw[kU,a,b,dp,dp];rw[kU,a,b,dp,eH];rw[kU,a,eH,eH];cases q;refine Ob.eQ (aq (da (aq (aZ Ub) 2)) 2) ?_;refine Ob.gA (mn R d (cO R.deals d) (k:Int)) ?_;exact Ob.cF fun _ _ h=>⟨m.symm,h⟩;refine Ob.jx (aq (da (aq (aZ Ub) 2)) 2) ?_;refine Ob.kK lk mixed (fun _=>False) (fun e=>e.le (Ob.cj ((yS gl w0 M0 F0).pinned 8 R.p)) (GL R (R.proofs.getD k (0,0,0)).2.2 .T) True) (fun _ _=>False) ?_ (fun _ _ _ h _=>h.elim) (fun e a w o g=>GN gl w0 M0 F0 R (R.proofs.getD k (0,0,0)).2.2 .T ⟨(),trivial,?_,rfl⟩ o rfl g) (fun _ _ _ _ h _=>h.elim);intro w ids M num;refine @al ((GL R (R.proofs.getD k (0,0,(0:Fr))).snd.snd Cell.T).ag True) _ ?_ ?_;kernel_rfl;exact ao trivial;show cG _ (Pj (cb R d));rw[cb,ah n,ah (by rw[<- i];decide),ZU t s (by rw[<- f];exact m.symm),<- f];exact GM _ true;intro a w L g V W Y;obtain⟨O,P⟩:=g;refine Ob.vd (l:=(aZ Ub).drop 3) lk mixed 1 (fun j=>bg iK 63 j) (fun q=>mn R d (cO R.deals d) q) (fun q=>q=((k+1:Nat):Int)) (fun _=>False) (fun _ _=>False) ?_ (fun q m=>?_) (fun _ _ _ h _=>h.elim) (fun _ _ _ _ h _=>h.elim) a w L P V W Y;intro w ids M num;refine @al ((mn R d (cO R.deals d) (i64.wrap ((k:Int)+1))).ag (i64.wrap ((k:Int)+1)=(↑(k+1):Int))) _ ?_ ?_;kernel_rfl;exact ao (aS aa);subst m;refine Ob.cF fun _ _ h=>⟨fun p r=>?_,h⟩;rw[cr t,lu,gk] at r;rcases r with r|rfl;exact s p r;rw[<- f];exact O
   refine Ob.kK lk mixed (fun _=>False) (fun e=>e.le (Ob.cj ((yS gl w0 M0 F0).pinned 8 R.p)) (GL R 0 .F) True) (fun _ _=>False) ?_ (fun _ _ _ h _=>h.elim) (fun e a w o g=>GN gl w0 M0 F0 R 0 .F ⟨(),trivial,?_,rfl⟩ o rfl g) (fun _ _ _ _ h _=>h.elim);intro w ids M num;refine @al ((GL R (0:Fr) Cell.F).ag True) _ ?_ ?_;kernel_rfl;exact ao trivial;show cG _ (Pj (cb R d));rw[aV] at s;rw[cb,ah n,ah (by rw[<- i];decide),List.find?_eq_none.2 (fun p r=>by rw[s p r];decide)];exact GM 0 false
  ·have x:0<=iu R.aW d:=by
    have:=i.symm;rw[aQ] at this;exact Odt this.1
   refine Ob.jx (aq (ak xr) 7) ?_;refine Ob.kK lk mixed (fun _=>False) (fun e=>e.le (Ob.cj ((yS gl w0 M0 F0).pinned 8 R.p)) (GL R (R.shares.getD (iu R.aW d).toNat 0) .T) True) (fun _ _=>False) ?_ (fun _ _ _ h _=>h.elim) (fun e a w o g=>GN gl w0 M0 F0 R (R.shares.getD (iu R.aW d).toNat 0) .T ⟨(),trivial,?_,rfl⟩ o rfl g) (fun _ _ _ _ h _=>h.elim);intro w ids M num;refine @al ((0<=iu R.aW d/\iu R.aW d<(R.shares.length:Int))/\(iu R.aW d).toNat<R.shares.length/\(GL R (R.shares.getD (iu R.aW d).toNat (0:Fr)) Cell.T).ag True) _ ?_ ?_;kernel_rfl;exact⟨⟨x,aa⟩,aa,ao trivial⟩;show cG _ (Pj (cb R d));rw[cb,ah n,aj i.symm];exact GM _ true
open Go.IntKind(i64 u8)
set_option maxHeartbeats 4000000
structure eE (c:Nat) (R:Rt) (H:a5):Prop where
 hub:dr H
 hp:R.hub=H.p
 me:fh R.me
 dl:R.dealers.length<1000
 tk:R.takers.length<1000
 dI:∀ x∈R.dealers,fh x
 tI:∀ x∈R.takers,fh x
 old:R.old.length<1000
 aY:R.aY.length<1000
 need:R.need<1000
 deals:R.deals.length<=14*c
 pubs:∀ d∈R.deals,d.2.length<1000000
 faults:R.faults.length<=14*c
 whom:∀ f∈R.faults,f.2.length<1000000
 proofs:R.proofs.length<=14000000*c
 aW:R.aW.length=R.shares.length
 frl:R.aW.length<=c
theorem eE.IQ {c:Nat} {R:Rt} {H:a5} (h:eE c R H) (a:c<=30000):Big R :=
 ⟨h.dl,h.old,by have:=h.deals;omega,by have:=h.faults;omega,by have:=h.proofs;omega⟩
theorem aa1 (d:List Int) (n:Int) (o:List (Fp × Fp)) (a:Int) (b:List Int):(m5 d n o a b).1.length<=b.length:=by rw[m5,bf,o8];split;split;split;split;rw[yK];omega;exact a2 _;exact a2 _;exact a2 _;exact a2 _
theorem S3 {c:Int × List Pt->Prop} {e:Int × List Int->Prop} {R:Rt} {t:Hbm.Told} (k:ox t) (i:∀ (w:Int) (l:List Pt),l.length<1000000->c (w,l)) (j:∀ (w:Int) (l:List Int),l.length<1000000->e (w,l)) (a:∀ d∈R.deals,c d) (b:∀ f∈R.faults,e f):(∀ d∈(eN R t).deals,c d)/\∀ f∈(eN R t).faults,e f:=by have m:=k.1;unfold eN;split;split;refine⟨fun d g=>?_,b⟩;rcases List.mem_append.1 g with q|q;exact a d q;rw[gk] at q;subst q;exact i _ _ (Nat.lt_of_le_of_lt (aa1 _ _ _ _ _) aa);exact⟨a,b⟩;split;split;refine⟨a,fun f h=>?_⟩;rcases List.mem_append.1 h with q|q;exact b f q;rw[gk] at q;subst q;exact j _ _ aa;exact⟨a,b⟩;split<;>exact⟨a,b⟩
theorem I9 {P1:Int × List Pt->Prop} {P2:Int × List Int->Prop} (e:∀ (w:Int) (l:List Pt),l.length<1000000->P1 (w,l)) (g:∀ (w:Int) (l:List Int),l.length<1000000->P2 (w,l)):∀ (a:List Hbm.Told) (R:Rt),(∀ t∈a,ox t)->(∀ d∈R.deals,P1 d)->(∀ f∈R.faults,P2 f)->(∀ d∈(iR R a).deals,P1 d)/\∀ f∈(iR R a).faults,P2 f
 | [],_,_,b,c=>⟨b,c⟩
 | t::a,R,h,b,c=>by obtain⟨j,k⟩:=S3 (h t au) e g b c;exact I9 e g a (eN R t) (fun u i=>h u (by simp[i])) j k
theorem eE.heard {c:Nat} {R:Rt} {H:a5} (h:eE c R H) {K:a5} (e:dr K) (g:K.p=H.p) {a:List Hbm.Told} (b:∀ t∈a,ox t) (u:a.length<=14):eE (c+1) (iR R a) K:=by have k:=uQ a R;have n:=BZ a R b;obtain⟨i,j⟩:=I9 (P1:=fun d=>d.2.length<1000000) (P2:=fun f=>f.2.length<1000000) (fun _ _ q=>q) (fun _ _ q=>q) a R b h.pubs h.whom;have l:=h.deals;have o:=h.faults;have r:=h.proofs;have s:=h.frl;exact⟨e,by rw[k.hub,g];exact h.hp,by rw[k.me];exact h.me,by rw[k.dealers];exact h.dl,by rw[k.takers];exact h.tk,by rw[k.dealers];exact h.dI,by rw[k.takers];exact h.tI,by rw[k.old];exact h.old,by rw[k.aY];exact h.aY,by rw[k.need];exact h.need,aa,i,aa,j,aa,by rw[k.aW,k.shares];exact h.aW,by rw[k.aW];omega⟩
theorem Ku {b:List Int} (a:Bs b):Bs (eC b):=by unfold eC;split;intro x c;rw[gk] at c;omega;exact a
theorem eE.said {c:Nat} {z:SayIn} (h:eE c z.R z.H) (d:Bs z.b) (q:Nat × Nat × Nat):eE (c+1) (pF z q) (qt z q):=by have a:=Ku d;have g:=S6 h.hub (m:=(1,0,z.H.me,z.H.me,z.tp,0,eC z.b)) a q;have t:=xz z.H (1,0,z.H.me,z.H.me,z.tp,0,eC z.b) q;exact h.heard g.1 g.2.1 (PD h.hub a q) t.2.1
theorem eE.mono {c a:Nat} {R:Rt} {H:a5} (h:eE c R H) (g:c<=a):eE a R H:=by have b:=h.deals;have d:=h.faults;have e:=h.proofs;have f:=h.frl;exact { h with deals:=by omega,faults:=by omega,proofs:=by omega,frl:=by omega }
theorem eE.kept {c:Nat} {R:Rt} {H:a5} (h:eE c R H) (d:Int) (x:Fr):eE (c+1) (eY R d x) H:=by unfold eY;split;exact h.mono aa;have a:=h.deals;have b:=h.faults;have e:=h.proofs;have f:=h.frl;have g:=h.aW;exact { h with deals:=by show R.deals.length<=_;omega,faults:=by show R.faults.length<=_;omega,proofs:=by show R.proofs.length<=_;omega,aW:=by simp only[bb,bG,eG];omega,frl:=by simp only[bb,bG,eG];omega }
def gJ (R:Rt) (a:List Int):List Int:=(a.filter fun d => !(cb R d).2).map (u8.wrap)
theorem Kn (R:Rt) (a:List Int):(gJ R a).length<=a.length:=by rw[gJ,bU];exact oM _ _
theorem Hc (a:Int):0<=u8.wrap a/\u8.wrap a<256:=by constructor;exact qC a ae;exact tB a ae
theorem Hl (R:Rt) (a:List Int):Bs (gJ R a):=by intro x d;obtain⟨y,_,rfl⟩:=mem_map.1 d;exact Hc y
theorem FK:enters Tryz.prog 37 Tryz.f37:=ek
abbrev pK:Func:=Tryz.f37
def acA (p:Nat):St:=ar pK.ntmps 8 [(0,aG p)] []
def ahK (p:Nat):St:=ar pK.ntmps 8 [(0,aG p),(8,aG p)] []
def acB (p:Nat) (q:Bool):St:=ar pK.ntmps 8 [(0,aG p),(10,av q)] []
def acC (R:Rt):St:=ar pK.ntmps 14 [(0,.is (.one (.ptr 8 0))),(3,fg)] (ig R (bh++[.v (.int .i64 R.fault)]))
def acD (R:Rt):St:=ar pK.ntmps 14 [(0,.is (.one (.ptr 8 0))),(3,fg),(15,.is (.one (.ro iK R.dealers))),(16,sI .i64 R.dealers.length),(17,sI .i64 0)] (ig R (bh++[.v (.int .i64 R.fault)]))
def acE (p:Nat) (a:List Int):St:=ar pK.ntmps 8 [(0,aG p),(3,fg),(15,.is (.one (.ro iK a))),(16,sI .i64 a.length),(17,sI .i64 0)] []
def my (p:Nat) (a:List Int) (k:Int) (l:List Int):St:=ar pK.ntmps 9 [(0,aG p),(3,.is (.one (.sl 8 0 0 l.length 1))),(15,.is (.one (.ro iK a))),(16,sI .i64 a.length),(17,sI .i64 k)] [(8,[.ints .u8 l.length l])]
def Hk (p:Nat) (a:List Int) (k:Int) (l:List Int) (b:List (Nat × SV)):St:=ar pK.ntmps 9 ([(0,aG p),(3,.is (.one (.sl 8 0 0 l.length 1))),(15,.is (.one (.ro iK a))),(16,sI .i64 a.length),(17,sI .i64 k)]++b) [(8,[.ints .u8 l.length l])]
def P4 (p:Nat) (a:List Int) (k:Int) (n:Nat) (l:List Int):St:=ar pK.ntmps 9 [(0,aG p),(3,.is (.one (.sl 8 0 0 n 1))),(15,.is (.one (.ro iK a))),(16,sI .i64 a.length),(17,sI .i64 k)] [(8,[.ints .u8 n l])]
def acS (p:Nat) (l:List Int):St:=ar pK.ntmps 8 [(0,aG p),(3,lM l)] []
def ahL (p:Nat) (l:List Int):St:=ar pK.ntmps 8 [(35,aG p),(36,lM l)] []
abbrev P3:Code:=aq (ak pK) 5
abbrev UM:List Code:=da (aq (aZ P3) 2)
section
variable (gl:Nat->Option (Sigma aA)) (w0:World) (M0:Mem) (F0:Nat->Prop)
theorem UN (R:Rt) (o:R.deals.length<1000000/\R.aW.length=R.shares.length/\R.shares.length<1000000/\R.proofs.length<1000000000000/\fh R.me/\∀ d∈R.deals,d.2.length<1000000) (f:List Int) (s:f.length<1000) (k:Nat) (u:k<f.length) (l:List Int) (y:l.length<1000) (G:Ob.ai) {r:Act->World->Prop} {x:Nat->Act->World->Prop} {n:Act->World->Prop}
  (h:Ob.aK Tryz.prog [] (Ob.GH (pR gl w0 M0 F0) pK.ntmps (my R.p f ((k+1:Nat):Int) (l++gJ R [f.getD k 0])) (Ob.ai.sep (bw R) G)) n r x) :
  Ob.aK Tryz.prog ((aZ P3).drop 2) (Ob.GH (pR gl w0 M0 F0) pK.ntmps (my R.p f (k:Int) l) (Ob.ai.sep (bw R) G)) n r x:=by
 refine Ob.eR (E:=pR gl w0 M0 F0) (c:=aq (aZ P3) 2) (Ob.GH (pR gl w0 M0 F0) pK.ntmps (my R.p f (k:Int) (l++gJ R [f.getD k 0])) (Ob.ai.sep (bw R) G)) ab ab ?_ ?_
 ·refine Ob.gcd ca 1 (fun g=>bg iK 5 g) (fun q=>Hk R.p f (k:Int) l [(5,sI .i64 q)]) (fun q=>q=f.getD k 0) ?_ (fun q j=>?_);intro w ids M num;refine @al ((0<=(k:Int)/\(k:Int)<(f.length:Int))/\(k:Int).toNat<f.length/\(Hk R.p f (k:Int) l [(5,sI i64 (f.getD (k:Int).toNat 0))]).ag (f.getD (k:Int).toNat 0=f.getD k 0)) _ ?_ ?_;kernel_rfl;rw[aB];exact⟨⟨aa,aa⟩,u,ao rfl⟩;rw[<- j];refine Ob.dB 7 (bo (aq UM 1)) ?_;refine Ob.c7 ca 2 (Hk R.p f (k:Int) l [(5,sI .i64 q),(22,aG R.p),(23,sI .i64 q)]) ?_;refine Ob.gz (E:=pR gl w0 M0 F0) (Ob.cJ (fun _=>G) (LM gl)) (R,q) o BG (fun _ _=>?_);refine Ob.c7 ca 9 (Hk R.p f (k:Int) l [(5,sI .i64 q),(7,av (cb R q).2)]) (Ob.dv ?_);refine Ob.gcd ca 1 (fun g=>bg .bool 28 g) (fun b=>Hk R.p f (k:Int) l [(5,sI .i64 q),(28,av b)]) (fun b=>b=!(cb R q).2) ?_ (fun b i=>?_);intro w ids M num;refine @al ((Hk R.p f (k:Int) l [(5,sI i64 q),(28,av !(cb R q).snd)]).ag ((!(cb R q).snd)=!(cb R q).snd)) _ ?_ ?_;kernel_rfl;exact ao rfl;cases b
  ·have e:gJ R [q]=[]:=by rw[gJ,tH,<- i];rfl
   refine Ob.eQ (aq UM 3) ?_;refine Ob.gA (my R.p f (k:Int) l) ?_;rw[e,bq];exact Ob.cF fun _ _ h=>h
  ·have e:gJ R [q]=[u8.wrap q]:=by rw[gJ,tH,<- i];rfl
   refine Ob.jx (aq UM 3) ?_;refine Ob.kJ ca mixed 1 [(8,41)] (fun g=>cU (.int .u8) 8 g) (fun b=>P4 R.p f (k:Int) (l.length+1) b) (fun b=>b=l++[u8.wrap q]) (fun _=>False) (fun _ _=>False) ?_ (fun b i=>?_) (fun _ _ _ h _=>h.elim) (fun _ _ _ _ h _=>h.elim);intro w ids M num;refine @al (0+1<=1/\l.length<=l.length/\(l.length+1)*1<=140737488355328/\l.length+1<=4611686018427387904/\(P4 R.p f (k:Int) (l.length+1) (take l.length l++take 1 [u8.wrap q])).ag (take l.length l++take 1 [u8.wrap q]=l++[u8.wrap q])) _ ?_ ?_;kernel_rfl;refine⟨ae,aE _,aa,aa,ao ?_⟩;rw[aV];rfl;rw[e];subst i;refine Ob.cF fun a w t=>?_;have m:P4 R.p f (k:Int) (l.length+1) (l++[u8.wrap q])=my R.p f (k:Int) (l++[u8.wrap q]):=by unfold P4 my;simp only[bb,bG,eG,bH]
   rw[<- m];exact t
 refine Ob.gcd ca 1 (fun g=>bg iK 17 g) (fun q=>my R.p f q (l++gJ R [f.getD k 0])) (fun q=>q=((k+1:Nat):Int)) ?_ (fun q j=>?_);intro w ids M num;refine @al ((my R.p f (i64.wrap ((k:Int)+1)) (l++gJ R [f.getD k 0])).ag (i64.wrap ((k:Int)+1)=(↑(k+1):Int))) _ ?_ ?_;kernel_rfl;exact ao (aS aa);subst j;exact h
end
theorem UO (R:Rt) (a b:List Int):gJ R (a++b)=gJ R a++gJ R b:=by rw[gJ,qz,de];rfl
structure c1 where
 R:Rt
 H:a5
def c1.ok (z:c1):Prop:=∃ c,c<=29000/\eE c z.R z.H
abbrev c1.ef (z:c1):Ob.ai:=Ob.ai.sep (bw z.R) (bu z.H)
def rr (z:c1):SayIn:=⟨z.R,z.H,2,gJ z.R z.R.dealers⟩
def eP (z:c1) (q:Nat × Nat × Nat):List (Int × Hbm.aC):=if z.R.me∈z.R.takers then dN (ia (rr z) q) else []
def nk (z:c1) (q:Nat × Nat × Nat):c1:=if z.R.me∈z.R.takers then ⟨pF (rr z) q,qt (rr z) q⟩ else z
theorem Tp (gl:Nat->Option (Sigma aA)):Ob.dG Tryz.prog gl 37 (fun z:c1=>[aG z.R.p]) c1.ok c1.ef (fun z (q:Nat × Nat × Nat)=>.is (.one (.ro cH (eP z q)))) (fun z q=>(nk z q).ef) (fun _ _=>True):=by
 refine Ob.cA (sp:=xV) FK ab (fun z=>by show 1<=pK.ntmps;exact Odt ab) (fun z _=>rfl) ?_;rintro⟨R,H⟩ ⟨c,s,a⟩ w0 M0 F0;have a:eE c R H:=a;have j:=a.dl;have o:=a.aW;have n:=a.frl;have l:R.deals.length<1000000/\R.aW.length=R.shares.length/\R.shares.length<1000000/\R.proofs.length<1000000000000/\fh R.me/\∀ d∈R.deals,d.2.length<1000000:=⟨by have:=a.deals;omega,a.aW,aa,by have:=a.proofs;omega,a.me,a.pubs⟩;show Ob.aK _ _ (Ob.GH _ _ _ (Ob.ai.sep (bw R) (bu H))) _ _ _;refine Ob.ee ca 1 (acA R.p) ?_;refine Ob.dB 1 (bo (aq (ak pK) 1)) ?_;refine Ob.c7 ca 1 (ahK R.p) ?_;refine Ob.gz (E:=pR gl w0 M0 F0) (Ob.cJ (fun _=>bu H) (LN gl)) R a.tk BI (fun _ _=>?_);refine Ob.fD ca 3 (fun r=>bg .bool 10 r) (fun q=>acB R.p q) (fun q=>q=!decide (R.me∈R.takers)) ?_ (fun q i=>Ob.dv ?_);intro w ids M num;refine @al ((acB R.p !decide (R.me∈R.takers)).ag ((!decide (R.me∈R.takers))=!decide (R.me∈R.takers))) _ ?_ ?_;kernel_rfl;exact ao rfl;cases q
 ·have f:R.me∈R.takers:=by
   have:decide (R.me∈R.takers)=true:=by cases h:decide (R.me∈R.takers) with|true=>rfl|false=>rw[h] at i;cases i
   exact Odt this
  refine Ob.eQ (aq (ak pK) 2) ?_;refine Ob.aO (G':=Ob.ai.obj (dF R (bh++[.v (.int .i64 R.fault)])) R.p (bu H)) (by unfold bw;exact (Ob.bB _ _ _).symm) ?_;refine Ob.ee ca 1 (ar pK.ntmps 8 [(0,aG R.p),(3,fg)] []) ?_;refine Ob.gZ [0] (acC R) ?_;refine Ob.ee ca 1 (acD R) ?_;refine Ob.fk (E:=pR gl w0 M0 F0) (bl:=dF R (bh++[.v (.int .i64 R.fault)])) [] [8,9,10,11,12,13] 9 (acE R.p R.dealers) ?_;refine Ob.aO (G':=Ob.ai.sep (bw R) (bu H)) (by unfold bw;exact Ob.bB _ _ _) ?_;refine Ob.qS 3 1 (.ints .u8 0 []) ab ?_;refine Ob.gA (my R.p R.dealers 0 []) ?_;refine Ob.yy ca mixed (c:=P3) (fun k=>my R.p R.dealers (k:Int) (gJ R (R.dealers.take k))) (fun _=>Ob.ai.sep (bw R) (bu H)) R.dealers.length ab ab (fun k g w ids M num=>?_) (fun k g=>?_) ?_;refine al (X:=((decide ((k:Int)<(R.dealers.length:Int))=true->(my R.p R.dealers (k:Int) (gJ R (take k R.dealers))).ag (k<R.dealers.length))/\(decide ((k:Int)<(R.dealers.length:Int))=false->(my R.p R.dealers (k:Int) (gJ R (take k R.dealers))).ag (k=R.dealers.length)))) ab ?_;exact⟨fun h=>ao (by have:=dec_lt h;omega),fun h=>ao (by have:=bW h;omega)⟩
  ·have e:gJ R (R.dealers.take (k+1))=gJ R (R.dealers.take k)++gJ R [R.dealers.getD k 0]:=by
    rw[cr g,UO,aX,bz g];rfl
   rw[e];refine UN gl w0 M0 F0 R l R.dealers j k g _ (by have:=Kn R (R.dealers.take k);rw[cX] at this;omega) _ (Ob.cF fun _ _ h=>h)
  rw[aV];have m:=Kn R R.dealers;refine Ob.sN 3 8 (gJ R R.dealers).length 1 .u8 (gJ R R.dealers) ab ab rfl ?_;refine Ob.gA (acS R.p (gJ R R.dealers)) ?_;refine Ob.dB 11 (bo (aq (ak pK) 6)) ?_;refine Ob.c7 ca 2 (ahL R.p (gJ R R.dealers)) ?_;refine Ob.gz (E:=pR gl w0 M0 F0) (LL gl) ⟨R,H,2,gJ R R.dealers⟩ ⟨a.hub,Hl R _,(by omega:(gJ R R.dealers).length<1048576),a.hp,a.IQ aa⟩ qN (fun q _=>?_);refine Ob.c7 ca 4 (ar pK.ntmps 8 [(2,.is (.one (.ro cH (dN (ia ⟨R,H,2,gJ R R.dealers⟩ q)))))] []) (Ob.dv ?_);refine Ob.g9 ca mixed _ ?_ ⟨q,trivial,Ob.a7 _,?_⟩;intro w ids M num;refine @al (SV.is (TV.one (Cell.ro cH (dN (ia { R:=R,H:=H,tp:=2,b:=gJ R R.dealers } q))))=SV.is (TV.one (Cell.ro cH (eP { R:=R,H:=H } q)))) _ ?_ ?_;kernel_rfl;show _=SV.is (.one (.ro cH (eP ⟨R,H⟩ q)));unfold eP;rw[aj f];rfl;show _=(nk ⟨R,H⟩ q).ef;unfold nk;rw[aj f];rfl
 ·have f:¬ R.me∈R.takers:=by
   have:decide (R.me∈R.takers)=false:=by cases h:decide (R.me∈R.takers) with|false=>rfl|true=>rw[h] at i;cases i
   exact Odf this
  refine Ob.jx (aq (ak pK) 2) ?_;refine Ob.gF ca mixed fg ?_ ⟨(0,0,0),trivial,?_,?_⟩;intro w ids M num;refine @al (SV.is (TV.one (Cell.v (Value.slice none 0 0)))=fg) _ ?_ ?_;kernel_rfl;rfl;show cG _ (.is (.one (.ro cH (eP ⟨R,H⟩ (0,0,0)))));unfold eP;rw[ah f];exact yN cH;show _=(nk ⟨R,H⟩ (0,0,0)).ef;unfold nk;rw[ah f]
end rite
namespace codec
open Go.Eng Go.RowKit Cr
open Go.IntKind(i64)
open Go.IntKind(i64 u8)
section
variable {F:Type} [Cr.Fd F] [DecidableEq F] {S:kr F}
theorem adk {l:List Int} (h:Bs l) (a:BD l) {k:Nat} (d:k<8):Bs (uH l k):=Ua h (by obtain⟨_,b,c⟩:=a;omega)
theorem kr.Ok.W4 (h:S.Ok) (p:F × F):Bs (S.short p):=by rw[h.E4];exact adk (h.bs _) (h.BD1 _) (by split;decide;split<;>decide)
theorem kr.Ok.Uc (h:S.Ok) (p:F × F):(S.short p).length=S.n:=by rw[h.E4,Ox,h.len]
end
theorem C5 (p:Fp × Fp):(DZ p).length=48:=by rw[Gm];exact HJ.Uc p
theorem WA (p:Fp × Fp):take 48 (DZ p)=DZ p:=bQ (by rw[C5];exact aE _)
theorem aaS (p:Fp × Fp):Gv (DZ p,()):=⟨by rw[Gm];exact HJ.W4 p,by show length (DZ p)<=_;rw[C5];decide⟩
theorem Xg {p:Fp × Fp} (h:g1.Sub p):g1.oV p=true:=(g1.vb p).2 h.1
theorem aeg {p:Fp × Fp} (h:g1.Sub p):pO (DZ p)=(p,0):=by rw[Gm,Tz];exact HJ.RA (Xg h) (g1.GW h)
end codec
namespace deal
open Go.Eng Go.RowKit Cr law22 poly codec
open Go.IntKind(i64)
open Go.IntKind(i64 u8)
theorem Fe (p:Fp × Fp) (a:List (Fp × Fp)):kf (p::a)=DZ p++kf a:=by rw[Gm,<- ac4];rfl
theorem TF:∀ (a:List (Fp × Fp)) (i:Nat),i<a.length->vU (kf a) i=DZ (a.getD i (0,0))
 | [],i,h=>absurd h (wQ _)
 | p::a,0,_=>by rw[Fe,vU,Nat.mul_zero,gT,lR (by rw[C5];exact aE _),WA];rfl
 | p::a,i+1,h=>by have b:=TF a i (by simpa using h);rw[Fe,vU,show 48*(i+1)=(DZ p).length+48*i by rw[C5];omega,<- fJ,List.drop_left];exact b
theorem IY {b:List Int}:∀ {k:Nat},(∀ i,i<k->(pO (vU b i)).2=0)->mD b k=0
 | 0,_=>rfl
 | k+1,h=>by rw[mD,aj (IY fun i a=>h i aa)];exact h k aa
theorem YB {a:List (Fp × Fp)} (b:∀ p∈a,g1.Sub p) {i:Nat} (h:i<a.length):pO (vU (kf a) i)=(a.getD i (0,0),0):=by rw[TF a i h];refine aeg (b _ ?_);rw[aX,bz h,ct];exact dx h
theorem acj {a:List (Fp × Fp)} (c:∀ p∈a,g1.Sub p):mD (kf a) a.length=0:=IY fun i b=>by rw[YB c b]
theorem VG {l m:List (Fp × Fp)} (c:l.length=m.length) (h:∀ i,i<l.length->l.getD i (0,0)=m.getD i (0,0)):l=m:=by
 refine mQ c fun i a b=>?_;have:=h i a
 rwa [aX,bz a,ct,aX,bz b,ct] at this
theorem WJ (b:List Int) {k i:Nat} (h:i<k):(q7 b k).getD i (0,0)=(pO (vU b i)).1:=by rw[q7,aX,dw,List.getElem?_range h];rfl
theorem afQ {a:List (Fp × Fp)} (c:∀ p∈a,g1.Sub p):q7 (kf a) a.length=a:=by refine VG (yK _ _) fun i b=>?_;rw[yK] at b;rw[WJ _ b,YB c b]
theorem afb (b:List (Fp × Fp)):Bs (kf b):=by
 induction b with
 | nil=>intro x a;exact absurd a (by simp[kf])
 | cons p b d =>intro x a;rw[Fe] at a;rcases List.mem_append.1 a with c|c;exact (aaS p).1 x c;exact d x c
end deal
namespace fr
open Go.IntKind(i64)
open Go.IntKind(i64 u8)
def lD (x:Cr.Fr):List Int:=Go.Eng.eS (Cr.dt 32 (Cr.Zm.v x))
end fr
namespace rite
open Go.IntKind(i64)
open Go.IntKind(i64 u8)
set_option maxHeartbeats 4000000
open Go.Eng Go.RowKit Cr Go.Proofs.YtofofalgjibokaaGreatDoor.hub Go.Proofs.YtofofalgjibokaaGreatDoor.deal
open Go.Hbn(Talk a5 eF)
theorem I3:aL Tryz.prog 51 [.fr] [.val (.arr 32 (.int .u8))] bx (fun _=>True) (fun (x,_)=>(fr.lD x,())):=fr.sF.out fun (x,_)=>by show (fr.lD x,())=(dt 32 (Zm.v (x:Fr)),());rw[fr.lD,bf]
def Mw:Nat × Eng.Spec:=(51,aH [.fr] [.val (.arr 32 (.int .u8))] (fun _=>True) (fun (x,_)=>(fr.lD x,())))
theorem CV (x:Fr):(fr.lD x).length=32:=by rw[fr.lD,bf];exact gO _ _
def W6:Nat × Eng.Spec:=(65,aH [.sl aN] [.val (.sl (.int .u8))] vW (fun (a,_)=>(law22.cL a,())))
def aji:Nat × Eng.Spec:=(14,aH [.sl .fr] [.val (.sl aN)] poly.Cm poly.Cf)
def qa (a:Int) (s:Fr):Hbm.aC:=(4,0,a,0,0,0,fr.lD s)
def cm (R:Rt) (a:List Int):List (Int × Hbm.aC):=(a.filter fun t => !decide (t=R.me)).map fun t=>(t,qa R.me (poly.pat R.aY t))
def dj (R:Rt) (a:List Int):Rt:=if R.me∈a then eY R R.me (poly.pat R.aY R.me) else R
theorem SZ (R:Rt) (a b:List Int):cm R (a++b)=cm R a++cm R b:=by rw[cm,qz,de];rfl
theorem BX (R:Rt) (a:List Int):(cm R a).length<=a.length:=by rw[cm,bU];exact oM _ _
theorem F6 (R:Rt) (d:Int) (x:Fr):(eY R d x).p=R.p/\(eY R d x).me=R.me/\(eY R d x).aY=R.aY/\(eY R d x).takers=R.takers/\(eY R d x).hub=R.hub:=by unfold eY;split<;>exact⟨rfl,rfl,rfl,rfl,rfl⟩
theorem Th (R:Rt) (d:Int) (x:Fr):d∈(eY R d x).aW:=by unfold eY;split;assumption;simp
theorem Np (R:Rt) (d:Int) (x y:Fr):eY (eY R d x) d y=eY R d x:=by show (if d∈(eY R d x).aW then eY R d x else _)=_;rw[aj (Th R d x)]
theorem DU (R:Rt) (a:List Int):(dj R a).p=R.p/\(dj R a).me=R.me/\(dj R a).aY=R.aY/\(dj R a).takers=R.takers/\(dj R a).hub=R.hub:=by unfold dj;split;exact F6 _ _ _;exact⟨rfl,rfl,rfl,rfl,rfl⟩
theorem Nk (R:Rt) (d:List Int) (t:Int):dj R (d++[t])=if t=R.me then eY (dj R d) R.me (poly.pat R.aY t) else dj R d:=by unfold dj;by_cases a:R.me∈d;rw[aj (gS _ a),aj a];split;rename_i e;rw[Np];rfl;by_cases b:t=R.me;rw[aj (by rw[b];simp),ah a,aj b,b];rw[ah,ah a,ah b];intro h;rcases List.mem_append.1 h with h|h;exact a h;rw[gk] at h;exact b h.symm
theorem eE.handed {c:Nat} {R:Rt} {H:a5} (h:eE c R H) (a:List Int):eE (c+1) (dj R a) H:=by unfold dj;split;exact h.kept _ _;exact h.mono aa
theorem KJ:enters Tryz.prog 36 Tryz.f36:=ek
abbrev kA:Func:=Tryz.f36
abbrev V2:=aP [poly.aeS,Mw,aji,W6]
theorem e7:aD Tryz.prog V2:=aJ (aM poly.X6) (aJ (aM I3) (aJ (aM poly.SE.AE) (aJ (aM law22.K1.AE) bp)))
abbrev CB (R:Rt) (t:List Cell):List (Nat × List Cell):=[(9,lH R 10 11 12 13 14 R.deals.length R.faults.length R.proofs.length R.aW.length R.shares.length t),(10,[.row cl R.deals.length R.deals]),(11,[.row cu R.faults.length R.faults]),(12,[.row cz R.proofs.length R.proofs]),(13,[.ints .i64 R.aW.length R.aW]),(14,[.row .fr R.shares.length R.shares])]
abbrev S0:Code:=aq (ak kA) 5
abbrev Ld:List Code:=da (aq (aZ S0) 2)
abbrev hd9:List Code:=fV (aq Ld 3)
def qT (p:Nat) (a:List Int) (k:Int) (n:Nat) (l:List (Int × Hbm.aC)):St:=ar kA.ntmps 9 [(0,aG p),(3,.is (.one (.sl 8 0 0 n 8))),(16,.is (.one (.ro iK a))),(17,sI .i64 a.length),(18,sI .i64 k)] [(8,[.row cH n l])]
def BY (p:Nat) (a:List Int) (k:Int) (n:Nat) (l:List (Int × Hbm.aC)) (c:List (Nat × SV)) (b:List (Nat × List Cell)):St:=ar kA.ntmps 9 ([(0,aG p),(3,.is (.one (.sl 8 0 0 n 8))),(16,.is (.one (.ro iK a))),(17,sI .i64 a.length),(18,sI .i64 k)]++c) ((8,[.row cH n l])::b)
def S1 (R:Rt) (a:List Int) (k:Int) (n:Nat) (l:List (Int × Hbm.aC)) (c:List (Nat × SV)) (b:List (Nat × List Cell)):St:=ar kA.ntmps 15 ([(0,.is (.one (.ptr 9 0))),(3,.is (.one (.sl 8 0 0 n 8))),(16,.is (.one (.ro iK a))),(17,sI .i64 a.length),(18,sI .i64 k)]++c) ((8,[.row cH n l])::b++CB R (bh++[.v (.int .i64 R.fault)]))
def hdK (p:Nat) (a:List Int) (k:Int) (n:Nat) (l:List (Int × Hbm.aC)) (c:List (Nat × SV)) (b:List (Nat × List Cell)):St:=ar kA.ntmps 64 ([(0,aG p),(3,.is (.one (.sl 8 0 0 n 8))),(16,.is (.one (.ro iK a))),(17,sI .i64 a.length),(18,sI .i64 k)]++c) ((8,[.row cH n l])::b)
def hdP (R:Rt) (a:List Int) (k:Int) (n:Nat) (l:List (Int × Hbm.aC)) (c:List (Nat × SV)) (b:List (Nat × List Cell)):St:=ar kA.ntmps 64 ([(0,.is (.one (.ptr 9 0))),(3,.is (.one (.sl 8 0 0 n 8))),(16,.is (.one (.ro iK a))),(17,sI .i64 a.length),(18,sI .i64 k)]++c) ((8,[.row cH n l])::b++CB R (bh++[.v (.int .i64 R.fault)]))
section
variable (gl:Nat->Option (Sigma aA)) (w0:World) (M0:Mem) (F0:Nat->Prop)
abbrev og:Ob.b5:=Ob.kO Tryz.prog V2 gl w0 M0 F0
theorem ah0 (R:Rt) (o:R.aY.length<1000) (a:List Int) (f:∀ x∈a,fh x) (k:Nat) (d:k<a.length) (l:List (Int × Hbm.aC)) (t:Int) (i:t=a.getD k 0) (G:Ob.ai) {n r:Act->World->Prop} {x:Nat->Act->World->Prop}
  (h:Ob.aK Tryz.prog (Ld.drop 3) (Ob.GH (og gl w0 M0 F0) kA.ntmps (BY R.p a (k:Int) l.length l [(5,sI .i64 t),(6,.is (.one (.ptr 0 0))),(33,av (decide (t=R.me)))] [(0,[.row .fr 1 [poly.pat R.aY t]])]) (Ob.ai.sep (bw R) G)) n r x) :
  Ob.aK Tryz.prog Ld (Ob.GH (og gl w0 M0 F0) kA.ntmps (qT R.p a (k:Int) l.length l) (Ob.ai.sep (bw R) G)) n r x:=by
 refine Ob.gcd e7 1 (fun g=>bg iK 5 g) (fun q=>BY R.p a (k:Int) l.length l [(5,sI .i64 q)] []) (fun q=>q=a.getD k 0) ?_ (fun q j=>?_);intro w ids M num;refine @al ((0<=(k:Int)/\(k:Int)<(a.length:Int))/\(k:Int).toNat<a.length/\(BY R.p a (k:Int) l.length l [(5,sI IntKind.i64 (a.getD (k:Int).toNat 0))] []).ag (a.getD (k:Int).toNat 0=a.getD k 0)) _ ?_ ?_;kernel_rfl;rw[aB];exact⟨⟨aa,aa⟩,d,ao rfl⟩;rw[<- i] at j;subst j;have e:fh q:=by rw[i,aX,bz d];exact f _ (dx d)
 refine Ob.aO (G':=Ob.ai.obj (dF R (bh++[.v (.int .i64 R.fault)])) R.p G) (by unfold bw;exact (Ob.bB _ _ _).symm) ?_;refine Ob.gZ [0] (S1 R a (k:Int) l.length l [(5,sI .i64 q)] []) ?_;refine Ob.gcd e7 2 (fun g=>bg .bool 33 g) (fun b=>hdP R a (k:Int) l.length l [(5,sI .i64 q),(6,.is (.one (.ptr 63 0))),(33,av b)] [(63,[.row .fr 1 [poly.pat R.aY q]])]) (fun b=>b=decide (q=R.me)) ?_ (fun b m=>?_);intro w ids M num;refine @al (poly.J3 (R.aY,q,())/\(hdP R a (k:Int) l.length l [(5,sI IntKind.i64 q),(6,SV.is (TV.one (Cell.ptr 63 0))),(33,av (q==R.me))] [(63,[Cell.row Kd.fr 1 [poly.pat R.aY q]])]).ag ((q==R.me)=decide (q=R.me))) _ ?_ ?_;kernel_rfl;exact⟨⟨by show R.aY.length<_;omega,e⟩,ao rfl⟩;subst m;refine Ob.fk (E:=og gl w0 M0 F0) (bl:=dF R (bh++[.v (.int .i64 R.fault)])) [8,63] [9,10,11,12,13,14] 10 (hdK R.p a (k:Int) l.length l [(5,sI .i64 q),(6,.is (.one (.ptr 63 0))),(33,av (decide (q=R.me)))] [(63,[.row .fr 1 [poly.pat R.aY q]])]) ?_;refine Ob.aO (G':=Ob.ai.sep (bw R) G) (by unfold bw;exact Ob.bB _ _ _) ?_;refine Ob.BV e7 0 [(0,63)] (BY R.p a (k:Int) l.length l [(5,sI .i64 q),(6,.is (.one (.ptr 0 0))),(33,av (decide (q=R.me)))] [(0,[.row .fr 1 [poly.pat R.aY q]])]) ?_;exact h
theorem ah1 (R:Rt) (g:R.aW.length<1000000/\R.shares.length<1000000) (b:List Int) (k:Nat) (l:List (Int × Hbm.aC)) (t:Int) (s:Fr) (G:Ob.ai) {d n r:Act->World->Prop} {x:Nat->Act->World->Prop}
  (h:∀ a w,Ob.GH (og gl w0 M0 F0) kA.ntmps (qT R.p b (k:Int) l.length l) (Ob.ai.sep (bw (eY R R.me s)) G) a w->d a w) :
  Ob.aK Tryz.prog (Ld.drop 3) (Ob.GH (og gl w0 M0 F0) kA.ntmps (BY R.p b (k:Int) l.length l [(5,sI .i64 t),(6,.is (.one (.ptr 0 0))),(33,av true)] [(0,[.row .fr 1 [s]])]) (Ob.ai.sep (bw R) G)) n r (fun i a w=>match beq i (b7 (aq (aZ S0) 2)) with|true=>d a w|false=>x i a w):=by
 refine Ob.jx (aq Ld 3) ?_;refine Ob.jy mixed (rid:=9) (ops:=bo (aq hd9 0)) ab ?_;refine Ob.sJ (E:=og gl w0 M0 F0) (G':=Ob.ai.obj (dF R (bh++[.v (.int .i64 R.fault)])) R.p G) (by unfold bw;exact (Ob.bB _ _ _).symm) ?_;refine Ob.ql (E:=og gl w0 M0 F0) [0] ab (S1 R b (k:Int) l.length l [(6,.is (.one (.ptr 0 0)))] [(0,[.row .fr 1 [s]])]) (aw ab ab trivial) ?_;refine Ob.eV e7 6 (fun _=>()) (fun _=>S1 R b (k:Int) l.length l [(34,.is (.one (.ptr 9 0))),(38,sI .i64 R.me),(39,X8 s)] []) (fun _=>True) ae ab ?_ (fun _ _=>?_);intro w ids M num;refine @al ((S1 R b (k:Int) l.length l [(34,SV.is (TV.one (Cell.ptr 9 0))),(38,sI IntKind.i64 R.me),(39,X8 s)] []).ag True) _ ?_ ?_;kernel_rfl;exact ao trivial;refine Ob.Qy (E:=og gl w0 M0 F0) (bl:=dF R (bh++[.v (.int .i64 R.fault)])) [8] [9,10,11,12,13,14] rfl ab ab rfl ab 10 (BY R.p b (k:Int) l.length l [(34,aG R.p),(38,sI .i64 R.me),(39,X8 s)] []) (aw ab ab trivial) ?_;refine Ob.sJ (E:=og gl w0 M0 F0) (G':=Ob.ai.sep (bw R) G) (by unfold bw;exact Ob.bB _ _ _) ?_;refine Ob.pZ (Ob.fS (E:=og gl w0 M0 F0) (Ob.cJ (fun _=>G) (aaO gl)) (R,R.me,s) g ab KM ab ab (fun _=>rfl)) ab ab (fun _ _=>?_);refine Ob.g8 e7 (fun _=>()) (fun _=>qT R.p b (k:Int) l.length l) (fun _=>True) (Odt ab) ?_ (fun _ _=>?_);intro w ids M num;refine @al ((qT R.p b (k:Int) l.length l).ag True) _ ?_ ?_;kernel_rfl;exact ao trivial;refine Ob.kK e7 mixed (fun _=>False) (fun _=>False) (fun i e=>i=1/\e.le (Ob.cj (og gl w0 M0 F0)) (qT R.p b (k:Int) l.length l) True) ?_ (fun _ _ _ h _=>h.elim) (fun _ _ _ h _=>h.elim) (fun i e a w f j=>?_);intro w ids M num;refine @al (1=1/\(qT R.p b (k:Int) l.length l).ag True) _ ?_ ?_;kernel_rfl;exact⟨rfl,ao trivial⟩;obtain⟨rfl,f⟩:=f;exact h a w (j.le f).2
theorem ah2 (R:Rt) (a:List Int) (k:Nat) (l:List (Int × Hbm.aC)) (f:l.length<1000) (t:Int) (s:Fr) (G:Ob.ai) {n r:Act->World->Prop} {x:Nat->Act->World->Prop}
  (h:Ob.aK Tryz.prog [] (Ob.GH (og gl w0 M0 F0) kA.ntmps (qT R.p a (k:Int) (l++[(t,qa R.me s)]).length (l++[(t,qa R.me s)])) (Ob.ai.sep (bw R) G)) n r x) :
  Ob.aK Tryz.prog (Ld.drop 3) (Ob.GH (og gl w0 M0 F0) kA.ntmps (BY R.p a (k:Int) l.length l [(5,sI .i64 t),(6,.is (.one (.ptr 0 0))),(33,av false)] [(0,[.row .fr 1 [s]])]) (Ob.ai.sep (bw R) G)) n r x:=by
 refine Ob.eQ (aq Ld 3) ?_;refine Ob.kJ e7 mixed 1 [(1,25)] (fun _=>()) (fun _=>BY R.p a (k:Int) l.length l [(5,sI .i64 t),(7,.is (.one (.ptr 1 0)))] [(1,[.ints .u8 32 (fr.lD s)])]) (fun _=>True) (fun _=>False) (fun _ _=>False) ?_ (fun _ _=>?_) (fun _ _ _ h _=>h.elim) (fun _ _ _ _ h _=>h.elim);intro w ids M num;refine @al (True/\(BY R.p a (k:Int) l.length l [(5,sI IntKind.i64 t),(7,SV.is (TV.one (Cell.ptr 1 0)))] [(1,[Cell.ints IntKind.u8 32 (fr.lD s)])]).ag True) _ ?_ ?_;kernel_rfl;exact⟨trivial,ao trivial⟩;refine Ob.aO (G':=Ob.ai.obj (dF R (bh++[.v (.int .i64 R.fault)])) R.p G) (by unfold bw;exact (Ob.bB _ _ _).symm) ?_;refine Ob.gZ [0] (S1 R a (k:Int) l.length l [(5,sI .i64 t),(7,.is (.one (.ptr 1 0)))] [(1,[.ints .u8 32 (fr.lD s)])]) ?_;refine Ob.ee e7 1 (hdP R a (k:Int) l.length l [(5,sI .i64 t),(8,.is (.one (.ptr 63 0)))] [(1,[.ints .u8 32 (fr.lD s)]),(63,[.v (.int .i64 4),.v (.int .i64 0),.v (.int .i64 R.me),.v (.int .i64 0),.v (.int .i64 0),.v (.int .i64 0),.sl 1 0 0 32 1])]) ?_;refine Ob.fk (E:=og gl w0 M0 F0) (bl:=dF R (bh++[.v (.int .i64 R.fault)])) [8,1,63] [9,10,11,12,13,14] 10 (hdK R.p a (k:Int) l.length l [(5,sI .i64 t),(8,.is (.one (.ptr 63 0)))] [(1,[.ints .u8 32 (fr.lD s)]),(63,[.v (.int .i64 4),.v (.int .i64 0),.v (.int .i64 R.me),.v (.int .i64 0),.v (.int .i64 0),.v (.int .i64 0),.sl 1 0 0 32 1])]) ?_;refine Ob.aO (G':=Ob.ai.sep (bw R) G) (by unfold bw;exact Ob.bB _ _ _) ?_;refine Ob.BV e7 0 [(0,63)] (BY R.p a (k:Int) l.length l [(5,sI .i64 t),(8,.is (.one (.ptr 0 0)))] [(1,[.ints .u8 32 (fr.lD s)]),(0,[.v (.int .i64 4),.v (.int .i64 0),.v (.int .i64 R.me),.v (.int .i64 0),.v (.int .i64 0),.v (.int .i64 0),.sl 1 0 0 32 1])]) ?_;refine Ob.sM [.v (.int .i64 4),.v (.int .i64 0),.v (.int .i64 R.me),.v (.int .i64 0),.v (.int .i64 0),.v (.int .i64 0)] 0 1 32 1 (.int .u8) (fr.lD s) (.ints .u8 32 (fr.lD s)) [] ae Ob.xc rfl rfl (CV s) ?_;refine Ob.gA (BY R.p a (k:Int) l.length l [(5,sI .i64 t),(8,.is (.one (.ptr 0 0)))] [(0,cZ (qa R.me s))]) ?_;refine Ob.kJ e7 mixed 1 [(8,49)] (fun d=>cU cH 8 d) (fun q=>qT R.p a (k:Int) (l.length+1) q) (fun q=>q=l++[(t,qa R.me s)]) (fun _=>False) (fun _ _=>False) ?_ (fun q b=>?_) (fun _ _ _ h _=>h.elim) (fun _ _ _ _ h _=>h.elim);intro w ids M num;refine @al (0+1<=1/\l.length<=l.length/\(l.length+1)*80<=140737488355328/\l.length+1<=4611686018427387904/\(qT R.p a (k:Int) (l.length+1) (take l.length l++take 1 [(t,(qa R.me s).fst,0,R.me,0,0,0,fr.lD s)])).ag (take l.length l++take 1 [(t,(qa R.me s).fst,0,R.me,0,0,0,fr.lD s)]=l++[(t,qa R.me s)])) _ ?_ ?_;kernel_rfl;refine⟨ae,aE _,aa,aa,ao ?_⟩;rw[aV];rfl;subst b;have e:qT R.p a (k:Int) (l.length+1) (l++[(t,qa R.me s)])=qT R.p a (k:Int) (l++[(t,qa R.me s)]).length (l++[(t,qa R.me s)]):=by simp only[bb,bG,eG,bH]
 rw[e];exact h
theorem V3 (R:Rt) (y:R.aY.length<1000) (K:R.aW.length+1<1000000/\R.shares.length+1<1000000) (d:List Int) (s:∀ x∈d,fh x) (A:d.length<1000) (k:Nat) (o:k<d.length) (G:Ob.ai) {r:Act->World->Prop} {x:Nat->Act->World->Prop} :
  Ob.aK Tryz.prog ((aZ S0).drop 2) (Ob.GH (og gl w0 M0 F0) kA.ntmps (qT R.p d (k:Int) (cm R (d.take k)).length (cm R (d.take k))) (Ob.ai.sep (bw (dj R (d.take k))) G)) (Ob.GH (og gl w0 M0 F0) kA.ntmps (qT R.p d ((k+1:Nat):Int) (cm R (d.take (k+1))).length (cm R (d.take (k+1)))) (Ob.ai.sep (bw (dj R (d.take (k+1)))) G)) r x:=by
 obtain⟨u,g,m,C,D⟩:=DU R (d.take k);have e:d.take (k+1)=d.take k++[d.getD k 0]:=by rw[cr o,aX,bz o];rfl
 rw[e,Nk,SZ];have l:=BX R (d.take k);rw[cX] at l;have j:(dj R (d.take k)).aW.length<1000000/\(dj R (d.take k)).shares.length<1000000:=by unfold dj;split;unfold eY;split;omega;simp only[bb,bG,eG];omega;omega
 generalize dj R (d.take k)=i at u g m C D j;generalize I:cm R (d.take k)=L at l;refine Ob.eR (E:=og gl w0 M0 F0) (c:=aq (aZ S0) 2) (Ob.GH (og gl w0 M0 F0) kA.ntmps (qT R.p d (k:Int) (L++cm R [d.getD k 0]).length (L++cm R [d.getD k 0])) (Ob.ai.sep (bw (if d.getD k 0=R.me then eY i R.me (poly.pat R.aY (d.getD k 0)) else i)) G)) ab ab ?_ ?_
 ·rw[<- u];refine ah0 gl w0 M0 F0 i (by rw[m];exact y) d s k o L (d.getD k 0) rfl G ?_;by_cases f:d.getD k 0=i.me
  ·rw[bX f];refine ah1 gl w0 M0 F0 i j d k L (d.getD k 0) _ G (fun a w t=>?_);have n:cm R [d.getD k 0]=[]:=by unfold cm;rw[tH,bX (by rw[f,g])];rfl
   rw[n,bq,aj (by rw[f,g])];rw[g,m] at t;exact t
  ·rw[cp f];refine ah2 gl w0 M0 F0 i d k L aa (d.getD k 0) _ G ?_;have n:cm R [d.getD k 0]=[(d.getD k 0,qa R.me (poly.pat R.aY (d.getD k 0)))]:=by unfold cm;rw[tH,cp (by rw[<- g];exact f)];rfl
   rw[n,ah (by rw[<- g];exact f),g,m];exact Ob.cF fun _ _ h=>h
 refine Ob.gcd e7 1 (fun F=>bg iK 18 F) (fun q=>qT R.p d q (L++cm R [d.getD k 0]).length (L++cm R [d.getD k 0])) (fun q=>q=((k+1:Nat):Int)) ?_ (fun q f=>?_);intro w ids M num;refine @al ((qT R.p d (IntKind.i64.wrap ((k:Int)+1)) (L++cm R [d.getD k 0]).length (L++cm R [d.getD k 0])).ag (IntKind.i64.wrap ((k:Int)+1)=(↑(k+1):Int))) _ ?_ ?_;kernel_rfl;exact ao (aS aa);subst f;exact Ob.cF fun _ _ h=>h
end
theorem He (a:List Pt):Bs (law22.cL a):=by rw[law22.cL,bf];exact afb a
theorem DE (a:List Pt):(law22.cL a).length=48*a.length:=by rw[law22.cL,bf,DD]
theorem pr (p:List Fr):(poly.cn p).length=p.length:=by rw[poly.cn,bU]
def oe (z:c1):SayIn:=⟨dj z.R z.R.takers,z.H,1,law22.cL (poly.cn z.R.aY)⟩
def dX (z:c1) (q:Nat × Nat × Nat):List (Int × Hbm.aC):=if z.R.me∈z.R.dealers then cm z.R z.R.takers++dN (ia (oe z) q) else []
def kY (z:c1) (q:Nat × Nat × Nat):c1:=if z.R.me∈z.R.dealers then ⟨pF (oe z) q,qt (oe z) q⟩ else z
def hdA (p:Nat):St:=ar kA.ntmps 8 [(0,aG p)] []
def ahT (p:Nat):St:=ar kA.ntmps 8 [(0,aG p),(9,aG p)] []
def adg (p:Nat) (q:Bool):St:=ar kA.ntmps 8 [(0,aG p),(11,av q)] []
def ahU (R:Rt):St:=ar kA.ntmps 14 [(0,.is (.one (.ptr 8 0))),(3,fg)] (ig R (bh++[.v (.int .i64 R.fault)]))
def ahV (R:Rt):St:=ar kA.ntmps 14 [(0,.is (.one (.ptr 8 0))),(3,fg),(16,.is (.one (.ro iK R.takers))),(17,sI .i64 R.takers.length),(18,sI .i64 0)] (ig R (bh++[.v (.int .i64 R.fault)]))
def ahW (p:Nat) (a:List Int):St:=ar kA.ntmps 8 [(0,aG p),(3,fg),(16,.is (.one (.ro iK a))),(17,sI .i64 a.length),(18,sI .i64 0)] []
def ahX (p:Nat) (n:Nat) (l:List (Int × Hbm.aC)):St:=ar kA.ntmps 9 [(0,aG p),(3,.is (.one (.sl 8 0 0 n 8)))] [(8,[.row cH n l])]
def ahY (R:Rt) (n:Nat) (l:List (Int × Hbm.aC)):St:=ar kA.ntmps 15 [(0,.is (.one (.ptr 9 0))),(3,.is (.one (.sl 8 0 0 n 8)))] ((8,[.row cH n l])::CB R (bh++[.v (.int .i64 R.fault)]))
def adi (R:Rt) (n:Nat) (l:List (Int × Hbm.aC)) (b:List Int):St:=ar kA.ntmps 15 [(56,.is (.one (.sl 8 0 0 n 8))),(57,.is (.one (.ptr 9 0))),(63,lM b)] ((8,[.row cH n l])::CB R (bh++[.v (.int .i64 R.fault)]))
def ahZ (p:Nat) (n:Nat) (l:List (Int × Hbm.aC)) (b:List Int):St:=ar kA.ntmps 9 [(56,.is (.one (.sl 8 0 0 n 8))),(57,aG p),(63,lM b)] [(8,[.row cH n l])]
def adj (n m:Nat) (l:List (Int × Hbm.aC)):St:=ar kA.ntmps 82 [(2,.is (.one (.sl 81 0 0 (n+m) 8)))] [(81,[.row cH (n+m) l])]
theorem Ah {z:SayIn} (f:dr z.H) (a:Bs z.b) (q:Nat × Nat × Nat):(dN (ia z q)).length<1048576:=by unfold dN;rw[bU];have d:=Ku a;have e:=xz z.H (1,0,z.H.me,z.H.me,z.tp,0,eC z.b) q;show ([_]++(Hbn.jc z.H (1,0,z.H.me,z.H.me,z.tp,0,eC z.b) q).2.1).length<_;rw[bb];have:=e.2.2;simp only[bG,eG];omega
theorem aaL (gl:Nat->Option (Sigma aA)):Ob.dG Tryz.prog gl 36 (fun z:c1=>[aG z.R.p]) c1.ok c1.ef (fun z (q:Nat × Nat × Nat)=>.is (.one (.ro cH (dX z q)))) (fun z q=>(kY z q).ef) (fun _ _=>True):=by
 refine Ob.cA (sp:=V2) KJ ab (fun z=>by show 1<=kA.ntmps;exact Odt ab) (fun z _=>rfl) ?_;rintro⟨R,H⟩ ⟨c,y,e⟩ w0 M0 F0;have e:eE c R H:=e;have o:=e.tk;have m:=e.aY;show Ob.aK _ _ (Ob.GH _ _ _ (Ob.ai.sep (bw R) (bu H))) _ _ _;refine Ob.ee e7 1 (hdA R.p) ?_;refine Ob.dB 1 (bo (aq (ak kA) 1)) ?_;refine Ob.c7 e7 1 (ahT R.p) ?_;refine Ob.gz (E:=og gl w0 M0 F0) (Ob.cJ (fun _=>bu H) (Jk gl)) R e.dl zl (fun _ _=>?_);refine Ob.fD e7 3 (fun r=>bg .bool 11 r) (fun q=>adg R.p q) (fun q=>q=!decide (R.me∈R.dealers)) ?_ (fun q l=>Ob.dv ?_);intro w ids M num;refine @al ((adg R.p !decide (R.me∈R.dealers)).ag ((!decide (R.me∈R.dealers))=!decide (R.me∈R.dealers))) _ ?_ ?_;kernel_rfl;exact ao rfl;cases q
 ·have g:R.me∈R.dealers:=by
   have:decide (R.me∈R.dealers)=true:=by cases h:decide (R.me∈R.dealers) with|true=>rfl|false=>rw[h] at l;cases l
   exact Odt this
  refine Ob.eQ (aq (ak kA) 2) ?_;refine Ob.aO (G':=Ob.ai.obj (dF R (bh++[.v (.int .i64 R.fault)])) R.p (bu H)) (by unfold bw;exact (Ob.bB _ _ _).symm) ?_;refine Ob.ee e7 1 (ar kA.ntmps 8 [(0,aG R.p),(3,fg)] []) ?_;refine Ob.gZ [0] (ahU R) ?_;refine Ob.ee e7 1 (ahV R) ?_;refine Ob.fk (E:=og gl w0 M0 F0) (bl:=dF R (bh++[.v (.int .i64 R.fault)])) [] [8,9,10,11,12,13] 9 (ahW R.p R.takers) ?_;refine Ob.aO (G':=Ob.ai.sep (bw R) (bu H)) (by unfold bw;exact Ob.bB _ _ _) ?_;refine Ob.qS 3 8 (.row cH 0 []) ab ?_;refine Ob.gA (qT R.p R.takers 0 0 []) ?_;refine Ob.yy e7 mixed (c:=S0) (fun k=>qT R.p R.takers (k:Int) (cm R (R.takers.take k)).length (cm R (R.takers.take k))) (fun k=>Ob.ai.sep (bw (dj R (R.takers.take k))) (bu H)) R.takers.length ab ab (fun k s w ids M num=>?_) (fun k s=>?_) ?_;refine al (X:=((decide ((k:Int)<(R.takers.length:Int))=true->(qT R.p R.takers (k:Int) (cm R (take k R.takers)).length (cm R (take k R.takers))).ag (k<R.takers.length))/\(decide ((k:Int)<(R.takers.length:Int))=false->(qT R.p R.takers (k:Int) (cm R (take k R.takers)).length (cm R (take k R.takers))).ag (k=R.takers.length)))) ab ?_;exact⟨fun h=>ao (by have:=dec_lt h;omega),fun h=>ao (by have:=bW h;omega)⟩;exact V3 gl w0 M0 F0 R m (by have:=e.aW;have:=e.frl;omega) R.takers e.tI o k s (bu H);rw[aV];have n:=BX R R.takers;have d:=e.handed R.takers;refine Ob.gA (ahX R.p (cm R R.takers).length (cm R R.takers)) ?_;generalize f:dj R R.takers=a at d;have i:=DU R R.takers;rw[f] at i;obtain⟨x,A,j,C,D⟩:=i;rw[<- x];refine Ob.aO (G':=Ob.ai.obj (dF a (bh++[.v (.int .i64 a.fault)])) a.p (bu H)) (by unfold bw;exact (Ob.bB _ _ _).symm) ?_;refine Ob.dB 14 (bo (aq (ak kA) 6)) ?_;refine Ob.sK (E:=og gl w0 M0 F0) [0] ab (ahY a (cm R R.takers).length (cm R R.takers)) (aw ab ab trivial) ?_;refine Ob.fD e7 8 (fun _=>()) (fun _=>adi a (cm R R.takers).length (cm R R.takers) (law22.cL (poly.cn a.aY))) (fun _=>True) ?_ (fun _ _=>?_);intro w ids M num;refine @al (poly.Cm (a.aY,())/\vW (poly.cn a.aY,())/\(adi a (cm R R.takers).length (cm R R.takers) (law22.cL (poly.cn a.aY))).ag True) _ ?_ ?_;kernel_rfl;exact⟨by show a.aY.length<_;rw[j];omega,by show (poly.cn a.aY).length<=_;rw[pr,j];omega,ao trivial⟩;refine Ob.Qz (E:=og gl w0 M0 F0) (bl:=dF a (bh++[.v (.int .i64 a.fault)])) [8] [9,10,11,12,13,14] rfl ab ab rfl ab 10 (ahZ a.p (cm R R.takers).length (cm R R.takers) (law22.cL (poly.cn a.aY))) (aw ab ab trivial) ?_;refine Ob.vB (E:=og gl w0 M0 F0) (G':=Ob.ai.sep (bw a) (bu H)) (by unfold bw;exact Ob.bB _ _ _) ?_;refine Ob.gz (E:=og gl w0 M0 F0) (LL gl) ⟨a,H,1,law22.cL (poly.cn a.aY)⟩ ⟨d.hub,He _,(by rw[DE,pr,j];omega:(law22.cL (poly.cn a.aY)).length<1048576),d.hp,d.IQ aa⟩ qN (fun q _=>?_);have u:=Ah (z:=⟨a,H,1,law22.cL (poly.cn a.aY)⟩) d.hub (He _) q;refine Ob.fD e7 11 (fun r=>cU cH 81 r) (fun b=>adj (cm R R.takers).length (dN (ia ⟨a,H,1,law22.cL (poly.cn a.aY)⟩ q)).length b) (fun b=>b=cm R R.takers++dN (ia ⟨a,H,1,law22.cL (poly.cn a.aY)⟩ q)) ?_ (fun b t=>Ob.dv ?_);intro w ids M num;refine @al ((cm R R.takers).length<=(cm R R.takers).length/\((cm R R.takers).length+(dN (ia { R:=a,H:=H,tp:=1,b:=law22.cL (poly.cn a.aY) } q)).length)*80<=140737488355328/\(cm R R.takers).length+(dN (ia { R:=a,H:=H,tp:=1,b:=law22.cL (poly.cn a.aY) } q)).length<=4611686018427387904/\(adj (cm R R.takers).length (dN (ia { R:=a,H:=H,tp:=1,b:=law22.cL (poly.cn a.aY) } q)).length (take (cm R R.takers).length (cm R R.takers)++dN (ia { R:=a,H:=H,tp:=1,b:=law22.cL (poly.cn a.aY) } q))).ag (take (cm R R.takers).length (cm R R.takers)++dN (ia { R:=a,H:=H,tp:=1,b:=law22.cL (poly.cn a.aY) } q)=cm R R.takers++dN (ia { R:=a,H:=H,tp:=1,b:=law22.cL (poly.cn a.aY) } q))) _ ?_ ?_;kernel_rfl;have n:(cm R R.takers).length<1000:=aa;refine⟨aE _,aa,aa,ao ?_⟩;rw[aV];subst t;refine Ob.Ow 2 81 ((cm R R.takers).length+(dN (ia ⟨a,H,1,law22.cL (poly.cn a.aY)⟩ q)).length) 8 cH (cm R R.takers++dN (ia ⟨a,H,1,law22.cL (poly.cn a.aY)⟩ q)) ab ab (bb ..) ?_;refine Ob.g9 e7 mixed _ ?_ ⟨q,trivial,Ob.a7 _,?_⟩;intro w ids M num;refine @al (SV.is (TV.one (Cell.ro cH (cm R R.takers++dN (ia { R:=a,H:=H,tp:=1,b:=law22.cL (poly.cn a.aY) } q))))=SV.is (TV.one (Cell.ro cH (dX { R:=R,H:=H } q)))) _ ?_ ?_;kernel_rfl;show _=SV.is (.one (.ro cH (dX ⟨R,H⟩ q)));unfold dX oe;rw[aj g];show _=SV.is (.one (.ro cH (cm R R.takers++dN (ia ⟨dj R R.takers,H,1,law22.cL (poly.cn R.aY)⟩ q))));rw[f,<- j];show _=(kY ⟨R,H⟩ q).ef;unfold kY oe;rw[aj g];show _=c1.ef ⟨pF ⟨dj R R.takers,H,1,law22.cL (poly.cn R.aY)⟩ q,qt ⟨dj R R.takers,H,1,law22.cL (poly.cn R.aY)⟩ q⟩;rw[f,<- j]
 ·have g:¬ R.me∈R.dealers:=by
   have:decide (R.me∈R.dealers)=false:=by cases h:decide (R.me∈R.dealers) with|false=>rfl|true=>rw[h] at l;cases l
   exact Odf this
  refine Ob.jx (aq (ak kA) 2) ?_;refine Ob.gF e7 mixed fg ?_ ⟨(0,0,0),trivial,?_,?_⟩;intro w ids M num;refine @al (SV.is (TV.one (Cell.v (Value.slice none 0 0)))=fg) _ ?_ ?_;kernel_rfl;rfl;show cG _ (.is (.one (.ro cH (dX ⟨R,H⟩ (0,0,0)))));unfold dX;rw[ah g];exact yN cH;show _=(kY ⟨R,H⟩ (0,0,0)).ef;unfold kY;rw[ah g]
end rite
end Go.Proofs.YtofofalgjibokaaGreatDoor
namespace Go.Eng
open Go.IntKind(i64)
open Go.IntKind(i64 u8)
def Hw (j:Nat) (B:bA):bA:=fun i=>match beq i j with
 | true=>match B i with
  | some (c::_)=>some [c]
  | x=>x
 | false=>B i
theorem w5 {j:Nat} {B:bA} {i:Nat} {a:List Cell} (h:Hw j B i=some a):∃ r,B i=some (a++r)/\(a=[]->r=[]):=by unfold Hw at h;split at h;split at h;rename_i c r b;cases h;exact⟨r,b,fun h=>by cases h⟩;exact⟨[],by rw[bq];exact h,fun _=>rfl⟩;exact⟨[],by rw[bq];exact h,fun _=>rfl⟩
theorem yk {g:ay}:∀ {b r:List Cell} {l:List Value},ax g (b++r) l->∃ a d,l=a++d/\ax g b a
 | [],r,l,h=>⟨[],l,rfl,rfl⟩
 | c::b,r,l,h=>by obtain⟨f,n,e,j,k⟩:=h;obtain⟨a,d,i,m⟩:=yk k;exact⟨f++a,d,by rw[e,i,cB],f,a,rfl,j,m⟩
theorem Ctx.Hw {q:cw} {id:Nat} {s:ay} {B:bA} {w:World} (j:Nat) (h:Ctx q id s B w):Ctx q id s (Hw j B) w:=by refine⟨h.below,fun i f a o b y=>?_,h.bound,h.free,h.mem,h.glob,fun i z f t b a g m k=>?_,fun b l n i f a g=>?_⟩;obtain⟨r,c,_⟩:=w5 a;obtain⟨l,⟨d,u,fr,A,C,D⟩,n⟩:=h.blks i (f++r) c (by intro e;exact o (List.append_eq_nil_iff.1 e).1) b y;obtain⟨F,G,e,x⟩:=yk n;subst e;exact⟨F,⟨G++d,u,fr,by rw[<- cB];exact A,by rw[<- cB];exact C,D⟩,x⟩;obtain⟨r,c,_⟩:=w5 a;obtain⟨H,p,_⟩:=w5 m;exact h.inj i z _ _ b c (by intro e;exact g (List.append_eq_nil_iff.1 e).1) p (by intro e;exact k (List.append_eq_nil_iff.1 e).1);obtain⟨r,c,_⟩:=w5 a;exact h.apart b l n i _ c (by intro e;exact g (List.append_eq_nil_iff.1 e).1)
def MS (j:Nat) (F:Spec):Spec:=fun w id args B=>F w id args (Hw j B)
theorem UD {P:Program} {f:FuncId} {b:List Kd} {a:List cQ} {pre:HL b->Prop} {F:HL b->HO a} (h:aL P f b a bx pre F) (l:eT a=true) (j:Nat) (g:dz a<=1:=by decide):nI P f (MS j (aH b a pre F)):=by
 intro r id args B out c d s q w n i;refine (aM h g r id args _ out c d s q w n (i.Hw j)).mono ?_;rintro v t ⟨e,m,k⟩;have o:out.wr=[]:=by unfold MS aH at c;split at c;cases c;show pv _ _ _=[];unfold pv;rw[l];cases c
 exact⟨e,m,{ k with wr:=fun p d=>by rw[o] at d;cases d }⟩
namespace Ob
section
variable {E:b5} {N:Nat}
theorem K4 {g:St} {G:ai} {a:Act} {w:World} (id p b:Nat) (r j:List Cell) (hp:(id,p)∈E.pins) (H:g.B b=some r) (x:r≠[]) (A:∀ o:ay,o id=some p->∀ l,ax o r l->ax o j l) (Z:GH E N g G a w):GH E N ⟨g.slots,(b,j)::g.blks,g.next⟩ G a w:=by
 obtain⟨W,F,I,X,Y⟩:=Z;obtain⟨u,o,f,C⟩:=Y;have D:o id=some p:=(f.init (id,p) (I.xl _ hp)).1;have s:∀ i c,St.B ⟨g.slots,(b,j)::g.blks,g.next⟩ i=some c->(i=b/\c=j)\/(i≠b/\g.B i=some c):=by
  intro i c h;simp only[St.B,cR] at h;cases t:beq b i with
  | true=>rw[t] at h;exact .inl ⟨(fa t).symm,(jT h).symm⟩
  | false=>rw[t] at h;exact .inr ⟨fun e=>(by subst e;rw[iq] at t;cases t),h⟩
 have m:∀ i c,St.B ⟨g.slots,(b,j)::g.blks,g.next⟩ i=some c->c≠[]->∃ d,g.B i=some d/\d≠[]:=by intro i c h A;rcases s i c h with ⟨rfl,_⟩|⟨_,k⟩;exact⟨r,H,x⟩;exact⟨c,k,A⟩
 refine⟨W,F,I,X,u,o,{ f with blks:=fun i c h n q L=>?_,inj:=fun i O c P q R T U V=>?_,mem:=fun q l K=>⟨fun i c h n=>?_,(f.mem q l K).2⟩ },C⟩;rcases s i c h with ⟨rfl,rfl⟩|⟨_,k⟩;obtain⟨l,y,z⟩:=f.blks i r H x q L;exact⟨l,y,A o D l z⟩;exact f.blks i c k n q L;obtain⟨d,y,z⟩:=m i c R T;obtain⟨Q,k3,k4⟩:=m O P U V;exact f.inj i O d Q q y z k3 k4;obtain⟨d,y,z⟩:=m i c h n;exact (f.mem q l K).1 i d y z
theorem ade {n r:Act->World->Prop} {x:Nat->Act->World->Prop} {l:List Code} {f:St} {G:ai} (m:Nat) (q:ble f.next m=true) (i:aK E.P l (GH E N ⟨f.slots,f.blks,m⟩ G) n r x):aK E.P l (GH E N f G) n r x:=by refine nZ (fun a w o=>?_) i;obtain⟨W,F,p,j,k⟩:=o;obtain⟨d,s,e,g⟩:=k;exact⟨W,F,p,j,d,s,e,fun id b h=>fe (g id b h) (gR q)⟩
theorem FU {l:List Code} {e:Array Oper} {j:Nat} {n r:Act->World->Prop} {x:Nat->Act->World->Prop} {f:St} {G:ai} (t id a i c d:Nat) (k:f.S t=.is (.one (.pe id a i c))) (b:a+i*c=d) (g:kt E.P e j l (GH E N ⟨f.slots.set t (.is (.one (.ptr id d))),f.blks,f.next⟩ G) n r x):kt E.P e j l (GH E N f G) n r x :=
 iD (fun _ _ m=>m.ref t _ (by rw[k,<- b];exact fun _ _ h=>h)) g
theorem UW {a:ay} {id p:Nat} (h:a id=some p):∀ l,ax a [.v (pt p)] l->ax a [.ptr id 0] l:=by rintro l ⟨d,f,e,⟨b,_⟩,c⟩;exact⟨d,f,e,⟨p,h,b⟩,c⟩
theorem R5 {a:ay} {id p:Nat} (h:a id=some p):∀ l,ax a [.ptr id 0] l->ax a [.v (pt p)] l:=by rintro l ⟨g,i,e,⟨b,c,f⟩,d⟩;rw[h] at c;cases c;exact⟨g,i,e,⟨f,rfl⟩,d⟩
theorem Eu {n r:Act->World->Prop} {x:Nat->Act->World->Prop} {l:List Code} {a:St} {G:ai} (id p b:Nat) (g:(id,p)∈E.pins) (e:a.B b=some [.v (pt p)]) (d:aK E.P l (GH E N ⟨a.slots,(b,[.ptr id 0])::a.blks,a.next⟩ G) n r x):aK E.P l (GH E N a G) n r x :=
 nZ (fun _ _ f=>K4 id p b _ _ g e au (fun i h=>UW h) f) d
theorem zA {n r:Act->World->Prop} {x:Nat->Act->World->Prop} {l:List Code} {a:St} {G:ai} (id p b:Nat) (g:(id,p)∈E.pins) (e:a.B b=some [.ptr id 0]) (d:aK E.P l (GH E N ⟨a.slots,(b,[.v (pt p)])::a.blks,a.next⟩ G) n r x):aK E.P l (GH E N a G) n r x :=
 nZ (fun _ _ f=>K4 id p b _ _ g e au (fun i h=>R5 h) f) d
end
end Ob
end Go.Eng
namespace Go.Proofs.YtofofalgjibokaaGreatDoor
namespace rite
open Go.IntKind(i64)
open Go.IntKind(i64 u8)
set_option maxHeartbeats 4000000
open Go.Eng Go.RowKit Cr hub deal
open Go.Hbn(Talk a5 eF)
def o3 (t a:Int) (f:Int × List Int):Bool:=f.1==t&&decide (a∈f.2)
def CW (a:List (Int × List Int)):Prop:=a.length<4611686018427387904/\∀ f∈a,f.2.length<4611686018427387904
theorem ZO:enters Tryz.prog 69 Tryz.f69:=ek
theorem acP:aL Tryz.prog 69 [cu,.ptr iK,.ptr (.ptr iK)] [.val .bool] bx (fun (f,_,_,_)=>length (Prod.snd f:List Int)<4611686018427387904) (fun (f,t,a,_)=>(o3 t a f,())):=by refine a8 (sp:=aP [law22.ko]) (aJ (aM law22.lW) bp) mixed ZO ae ae ?_;rintro w M0 ⟨⟨b,f2⟩,t,a,⟨⟩⟩;revert b f2 t a;intro (b:Int) (f2:List Int) (t:Int) (a:Int) _ d;have d:f2.length<4611686018427387904:=d;refine @al (0<[t].length/\((b==t)=true->0<[a].length/\0<[a].length/\law22.hZ (f2,a,())/\(decide (a∈f2),())=(o3 t a (b,f2),()))/\((b==t)=false->(false,())=(o3 t a (b,f2),()))) _ ?_ ?_;kernel_rfl;refine⟨jU,fun h=>⟨jU,jU,d,?_⟩,fun h=>?_⟩;show (decide (a∈f2),())=(b==t&&decide (a∈f2),());rw[h];rfl;show (false,())=(b==t&&decide (a∈f2),());rw[h];rfl
def YZ:Nat × Eng.Spec:=(69,aH [cu,.ptr iK,.ptr (.ptr iK)] [.val .bool] (fun (f,_,_,_)=>length (Prod.snd f:List Int)<4611686018427387904) (fun (f,t,a,_)=>(o3 t a f,())))
abbrev FD:Kd:=.cap (.cap (.fn 69) iK) (.ptr iK)
theorem ZQ:enters Tryz.prog 111 Tryz.f111:=ek
def Rh (a:List (Int × List Int)) (t b:Int) (g:Int):St:=ar Tryz.f111.ntmps 32 [(0,.is (.one (.ro cu a))),(1,.is (.one (.fv FD (((),t),b)))),(7,sI .i64 a.length),(8,sI .i64 g)] []
theorem acR:aL Tryz.prog 111 [.sl cu,FD] [.val iK] bx (fun (a,((_,_),_),_)=>CW a) (fun (a,((_,t),b),_)=>(du (o3 t b) a,())):=by
 have e:aD Tryz.prog (aP [YZ]):=aJ (aM acP) bp;refine bI (sp:=aP [YZ]) ZQ ae ae ab ?_;rintro w M0 ⟨a,⟨⟨⟨⟩,t⟩,b⟩,⟨⟩⟩;revert a t b;intro (a:List (Int × List Int)) (b:Int) (t:Int) _ ⟨p,o⟩;have p:a.length<4611686018427387904:=p;have o:∀ f∈a,f.2.length<4611686018427387904:=o;show Tr _ _ _ _ _ _ _;refine bd e mixed 2 (Rh a t b 0) True ?_ (fun _=>?_);refine al (X:=((Rh a t b 0).ag True)) ab ?_;exact ao trivial;refine cd e mixed h9 (fun r=>bg (.int .i64) 8 r) (Rh a t b) (fun g=>∃ k:Nat,k<=a.length/\g=(k:Int)/\k<=a.findIdx (o3 t b)) (fun g=>a.length-g.toNat)
  (fun _=>()) (fun _=>ar Tryz.f111.ntmps 32 [] []) (fun _=>a.length<=a.findIdx (o3 t b)) 0 (c:=aq (ak Tryz.f111) 2) ab ab (aw ab ab ?_) ?_ ?_
 exact⟨0,a2 _,rfl,a2 _⟩
 ·intro (i:Int) ⟨k,s,q,l⟩;subst q;refine @al ((decide ((k:Int)<(a.length:Int))=true->(0<=(k:Int)/\(k:Int)<(a.length:Int))/\(k:Int).toNat<a.length/\(a.getD (k:Int).toNat (0,[])).snd.length<4611686018427387904/\(o3 t b (a.getD (k:Int).toNat (0,[]))=true->((k:Int),())=(du (o3 t b) a,()))/\(o3 t b (a.getD (k:Int).toNat (0,[]))=false->(Rh a t b (i64.wrap ((k:Int)+1))).ag ((∃ j,j<=a.length/\i64.wrap ((k:Int)+1)=(j:Int)/\j<=List.findIdx (o3 t b) a)/\a.length-(i64.wrap ((k:Int)+1)).toNat<a.length-(k:Int).toNat)))/\(decide ((k:Int)<(a.length:Int))=false->(ar Tryz.f111.ntmps 32 [] []).ag (a.length<=List.findIdx (o3 t b) a))) _ ?_ ?_;kernel_rfl;rw[aB];refine⟨fun h=>?_,fun h=>ao (by have:=bW h;omega)⟩;have d:k<a.length:=by have:=dec_lt h;omega
  have n:(a.getD k ((0:Int),([]:List Int))).2.length<4611686018427387904:=by rw[aX,bz d];exact o _ (dx d)
  rw[aS aa];refine⟨⟨aa,aa⟩,d,n,fun m=>?_,fun m=>ao ⟨⟨k+1,d,rfl,qX ((0:Int),([]:List Int)) d l (by exact m)⟩,by rw[aB];omega⟩⟩;show ((k:Int),())=(du _ a,());rw[ve ((0:Int),([]:List Int)) d l (by exact m)]
 rintro⟨⟩ (l:_<=_);refine bE e mixed _ _ ?_;refine @al (((-1:Int),())=(du (o3 t b) a,())) _ ?_ ?_;kernel_rfl;show _=(du _ a,());rw[sO l]
def af4:Nat × Eng.Spec:=(111,aH [.sl cu,FD] [.val iK] (fun (a,((_,_),_),_)=>CW a) (fun (a,((_,t),b),_)=>(du (o3 t b) a,())))
theorem ZP:enters Tryz.prog 68 Tryz.f68:=ek
def mz (a:List (Int × List Int)) (t b:Int):Bool:=eS (a.any (o3 t b))
theorem acQ:aL Tryz.prog 68 [.sl cu,FD] [.val .bool] bx (fun (a,((_,_),_),_)=>CW a) (fun (a,((_,t),b),_)=>(mz a t b,())):=by
 refine a8 (sp:=aP [af4]) (aJ (aM acR) bp) mixed ZP ae ae ?_;rintro w M0 ⟨a,⟨⟨⟨⟩,t⟩,b⟩,⟨⟩⟩;revert a t b;intro (a:List (Int × List Int)) (b:Int) (t:Int) _ d;refine @al (CW a/\(decide (du (o3 t b) a>=0),())=(mz a t b,())) _ ?_ ?_;kernel_rfl;refine⟨d,?_⟩;show (decide ((if a.findIdx (o3 t b)<a.length then ((a.findIdx (o3 t b):Nat):Int) else -1)>=0),())=(mz a t b,());rw[mz,bf];by_cases h:a.findIdx (o3 t b)<a.length;have c:a.any (o3 t b)=true:=List.any_eq_true.2 ⟨_,dx h,wA⟩;rw[aj h,c,bX aa]
 ·have c:a.any (o3 t b)=false:=by
   cases e:a.any (o3 t b) with
   | false=>rfl
   | true =>obtain⟨y,f,d⟩:=List.any_eq_true.1 e;exact absurd (wu ⟨y,f,d⟩) h
  rw[ah h,c];rfl
def af3:Nat × Eng.Spec:=(68,MS 10 (aH [.sl cu,FD] [.val .bool] (fun (a,((_,_),_),_)=>CW a) (fun (a,((_,t),b),_)=>(mz a t b,()))))
def kQ (R:Rt) (a:List Int):List Int:=a.flatMap fun t=>if mz R.faults t R.me then u8.wrap t::fr.lD (poly.pat R.aY t) else []
theorem O6 (R:Rt) (a b:List Int):kQ R (a++b)=kQ R a++kQ R b:=by rw[kQ,List.flatMap_append];rfl
theorem O7 (R:Rt) (t:Int):kQ R [t]=if mz R.faults t R.me then u8.wrap t::fr.lD (poly.pat R.aY t) else []:=by rw[kQ,List.flatMap_cons,List.flatMap_nil,bq]
theorem Ib (R:Rt):∀ a:List Int,(kQ R a).length<=33*a.length
 | []=>aE _
 | t::a=>by have h:=O6 R [t] a;rw[List.singleton_append] at h;rw[h,bb,O7,bG];have:=Ib R a;split;rw[bG,CV];omega;rw[eG];omega
theorem ack (x:Fr):Bs (fr.lD x):=by rw[fr.lD,bf];exact wV _ _
theorem Mf (R:Rt) (d:List Int):Bs (kQ R d):=by intro x a;obtain⟨t,_,h⟩:=List.mem_flatMap.1 a;split at h;rcases mem_cons.1 h with h|h;rw[h];exact Hc t;exact ack _ x h;cases h
theorem IX:enters Tryz.prog 38 Tryz.f38:=ek
abbrev mj:Func:=Tryz.f38
abbrev WM:=aP [poly.aeS,Mw,af3]
theorem gb:aD Tryz.prog WM:=aJ (aM poly.X6) (aJ (aM I3) (aJ (UD acQ rfl 10) bp))
abbrev Ro (R:Rt) (t:List Cell):List (Nat × List Cell):=[(10,lH R 11 12 13 14 15 R.deals.length R.faults.length R.proofs.length R.aW.length R.shares.length t),(11,[.row cl R.deals.length R.deals]),(12,[.row cu R.faults.length R.faults]),(13,[.row cz R.proofs.length R.proofs]),(14,[.ints .i64 R.aW.length R.aW]),(15,[.row .fr R.shares.length R.shares])]
abbrev YG:Code:=aq (ak mj) 5
abbrev TO:List Code:=da (aq (aZ YG) 2)
abbrev aer (a:List Int) (k:Int) (n:Nat):List (Nat × SV):=[(1,.is (.one (.ptr 8 0))),(3,.is (.one (.sl 9 0 0 n 1))),(15,.is (.one (.ro iK a))),(16,sI .i64 a.length),(17,sI .i64 k)]
def ot (p:Nat) (f:List Int) (k:Int) (n:Nat) (l:List Int) (e:Nat) (d:List (Nat × SV)) (a:List (Nat × List Cell)):St:=ar mj.ntmps e (aer f k n++d) ((8,[.v (Ob.pt p)])::(9,[.ints .u8 n l])::a)
def Jt (R:Rt) (c:Cell) (e:List Int) (k:Int) (n:Nat) (l:List Int) (d:Nat) (b:List (Nat × SV)) (a:List (Nat × List Cell)):St:=ar mj.ntmps d (aer e k n++b) ((8,[c])::(9,[.ints .u8 n l])::a++Ro R (bh++[.v (.int .i64 R.fault)]))
abbrev bT (t:Int):List (Nat × List Cell):=[(0,[.v (.int .i64 t)])]
abbrev sT:List (Nat × SV):=[(5,.is (.one (.ptr 0 0)))]
section
variable (gl:Nat->Option (Sigma aA)) (w0:World) (M0:Mem) (F0:Nat->Prop)
abbrev p4:Ob.b5:=Ob.kO Tryz.prog WM gl w0 M0 F0
theorem ai2 (R:Rt) (m:R.faults.length<1000000/\∀ f∈R.faults,f.2.length<1000000) (a:List Int) (k:Nat) (o:k<a.length) (l:List Int) (t:Int) (i:t=a.getD k 0) (G:Ob.ai) {n r:Act->World->Prop} {x:Nat->Act->World->Prop}
  (h:Ob.aK Tryz.prog (TO.drop 3) (Ob.GH (p4 gl w0 M0 F0) mj.ntmps (ot R.p a (k:Int) l.length l 10 (sT++[(6,av (mz R.faults t R.me)),(27,av (mz R.faults t R.me))]) (bT t)) (Ob.ai.sep (bw R) G)) n r x) :
  Ob.aK Tryz.prog TO (Ob.GH (p4 gl w0 M0 F0) mj.ntmps (ot R.p a (k:Int) l.length l 10 [] []) (Ob.ai.sep (bw R) G)) n r x:=by
 refine Ob.kJ gb mixed 1 [(0,26)] (fun e=>bg iK 20 e) (fun q=>ot R.p a (k:Int) l.length l 10 sT (bT q)) (fun q=>q=a.getD k 0) (fun _=>False) (fun _ _=>False) ?_ (fun q g=>?_) (fun _ _ _ h _=>h.elim) (fun _ _ _ _ h _=>h.elim);intro w ids M num;refine @al ((0<=(k:Int)/\(k:Int)<(a.length:Int))/\(k:Int).toNat<a.length/\(ot R.p a (k:Int) l.length l 10 sT (bT (a.getD (k:Int).toNat 0))).ag (a.getD (k:Int).toNat 0=a.getD k 0)) _ ?_ ?_;kernel_rfl;rw[aB];exact⟨⟨aa,aa⟩,o,ao rfl⟩;rw[<- i] at g;subst g;refine Ob.aO (G':=Ob.ai.obj (dF R (bh++[.v (.int .i64 R.fault)])) R.p G) (by unfold bw;exact (Ob.bB _ _ _).symm) ?_;refine Ob.gZ [] (Jt R (.v (Ob.pt R.p)) a (k:Int) l.length l 16 sT (bT q)) ?_;refine Ob.Eu (E:=(p4 gl w0 M0 F0).pinned 10 R.p) 10 R.p 8 au ab ?_;refine Ob.gA (Jt R (.ptr 10 0) a (k:Int) l.length l 16 sT (bT q)) ?_;refine Ob.gcd gb 1 (fun e=>bg .bool 6 e) (fun b=>Jt R (.ptr 10 0) a (k:Int) l.length l 16 (sT++[(6,av b)]) (bT q)) (fun b=>b=mz R.faults q R.me) ?_ (fun b j=>?_);intro w ids M num;refine @al (0+R.faults.length<=R.faults.length/\CW (take R.faults.length R.faults)/\(Jt R (Cell.ptr 10 0) a (k:Int) l.length l 16 (sT++[(6,av (mz (take R.faults.length R.faults) q R.me,()).fst)]) (bT q)).ag (mz (take R.faults.length R.faults) q R.me=mz R.faults q R.me)) _ ?_ ?_;kernel_rfl;rw[aV];exact⟨aa,⟨aa,fun f d=>by have:=m.2 f d;omega⟩,ao rfl⟩;subst j;refine Ob.zA (E:=(p4 gl w0 M0 F0).pinned 10 R.p) 10 R.p 8 au ab ?_;refine Ob.fk (E:=(p4 gl w0 M0 F0)) (bl:=dF R (bh++[.v (.int .i64 R.fault)])) [8,9,0] [10,11,12,13,14,15] 11 (ot R.p a (k:Int) l.length l 10 (sT++[(6,av (mz R.faults q R.me))]) (bT q)) ?_;refine Ob.aO (G':=Ob.ai.sep (bw R) G) (by unfold bw;exact Ob.bB _ _ _) ?_;refine Ob.ee gb 1 (ot R.p a (k:Int) l.length l 10 (sT++[(6,av (mz R.faults q R.me)),(27,av (mz R.faults q R.me))]) (bT q)) ?_;exact h
theorem ai3 (R:Rt) (m:R.aY.length<1000) (a:List Int) (k:Nat) (l:List Int) (j:l.length<100000) (t:Int) (i:fh t) (G:Ob.ai) {n r:Act->World->Prop} {x:Nat->Act->World->Prop}
  (h:Ob.aK Tryz.prog [] (Ob.GH (p4 gl w0 M0 F0) mj.ntmps (ot R.p a (k:Int) (l.length+33) (l++(u8.wrap t::fr.lD (poly.pat R.aY t))) 10 [] []) (Ob.ai.sep (bw R) G)) n r x) :
  Ob.aK Tryz.prog (TO.drop 3) (Ob.GH (p4 gl w0 M0 F0) mj.ntmps (ot R.p a (k:Int) l.length l 10 (sT++[(6,av true),(27,av true)]) (bT t)) (Ob.ai.sep (bw R) G)) n r x:=by
 refine Ob.jx (aq TO 3) ?_;refine Ob.aO (G':=Ob.ai.obj (dF R (bh++[.v (.int .i64 R.fault)])) R.p G) (by unfold bw;exact (Ob.bB _ _ _).symm) ?_;refine Ob.gZ [] (Jt R (.v (Ob.pt R.p)) a (k:Int) l.length l 16 sT (bT t)) ?_;refine Ob.Eu (E:=(p4 gl w0 M0 F0).pinned 10 R.p) 10 R.p 8 au ab ?_;refine Ob.gA (Jt R (.ptr 10 0) a (k:Int) l.length l 16 sT (bT t)) ?_;refine Ob.gcd gb 1 (fun _=>()) (fun _=>Jt R (.ptr 10 0) a (k:Int) l.length l 73 (sT++[(7,.is (.one (.ptr 72 0)))]) (bT t++[(72,[.ints .u8 32 (fr.lD (poly.pat R.aY t))])])) (fun _=>True) ?_ (fun _ _=>?_);intro w ids M num;refine @al (poly.J3 (R.aY,t,())/\True/\(Jt R (Cell.ptr 10 0) a (k:Int) l.length l 73 (sT++[(7,SV.is (TV.one (Cell.ptr 72 0)))]) (bT t++[(72,[Cell.ints u8 32 (fr.lD (poly.pat R.aY t))])])).ag True) _ ?_ ?_;kernel_rfl;exact⟨⟨by show R.aY.length<_;omega,i⟩,trivial,ao trivial⟩;refine Ob.zA (E:=(p4 gl w0 M0 F0).pinned 10 R.p) 10 R.p 8 au ab ?_;refine Ob.fk (E:=(p4 gl w0 M0 F0)) (bl:=dF R (bh++[.v (.int .i64 R.fault)])) [8,9,0,72] [10,11,12,13,14,15] 11 (ot R.p a (k:Int) l.length l 73 (sT++[(7,.is (.one (.ptr 72 0)))]) (bT t++[(72,[.ints .u8 32 (fr.lD (poly.pat R.aY t))])])) ?_;refine Ob.aO (G':=Ob.ai.sep (bw R) G) (by unfold bw;exact Ob.bB _ _ _) ?_;refine Ob.BV gb 0 [(1,72)] (ot R.p a (k:Int) l.length l 10 (sT++[(7,.is (.one (.ptr 1 0)))]) (bT t++[(1,[.ints .u8 32 (fr.lD (poly.pat R.aY t))])])) ?_;generalize f:fr.lD (poly.pat R.aY t)=S at h;have g:S.length=32:=by rw[<- f];exact CV _
 refine Ob.kJ gb mixed 1 [(9,42)] (fun e=>cU (.int .u8) 9 e) (fun b=>ot R.p a (k:Int) (l.length+1) b 10 [(7,.is (.one (.ptr 1 0)))] [(1,[.ints .u8 32 S])]) (fun b=>b=l++[u8.wrap t]) (fun _=>False) (fun _ _=>False) ?_ (fun b d=>?_) (fun _ _ _ h _=>h.elim) (fun _ _ _ _ h _=>h.elim);intro w ids M num;refine @al (0+1<=1/\l.length<=l.length/\(l.length+1)*1<=140737488355328/\l.length+1<=4611686018427387904/\(ot R.p a (k:Int) (l.length+1) (take l.length l++take 1 [u8.wrap t]) 10 [(7,SV.is (TV.one (Cell.ptr 1 0)))] [(1,[Cell.ints u8 32 S])]).ag (take l.length l++take 1 [u8.wrap t]=l++[u8.wrap t])) _ ?_ ?_;kernel_rfl;refine⟨ae,aE _,aa,aa,ao ?_⟩;rw[aV];rfl;subst d;refine Ob.kJ gb mixed 1 [(9,26)] (fun e=>cU (.int .u8) 9 e) (fun b=>ot R.p a (k:Int) (l.length+33) b 10 [] []) (fun b=>b=l++(u8.wrap t::S)) (fun _=>False) (fun _ _=>False) ?_ (fun b d=>?_) (fun _ _ _ h _=>h.elim) (fun _ _ _ _ h _=>h.elim);intro w ids M num;refine @al (0+32<=32/\l.length+1<=l.length+1/\(l.length+1+32)*1<=140737488355328/\l.length+1+32<=4611686018427387904/\(ot R.p a (k:Int) (l.length+33) (take (l.length+1) (l++[u8.wrap t])++take 32 S) 10 [] []).ag (take (l.length+1) (l++[u8.wrap t])++take 32 S=l++u8.wrap t::S)) _ ?_ ?_;kernel_rfl;refine⟨ae,aE _,aa,aa,ao ?_⟩;rw[bQ au,bQ aa,cB];rfl;subst d;exact h
theorem WN (R:Rt) (s:R.aY.length<1000) (o:R.faults.length<1000000/\∀ f∈R.faults,f.2.length<1000000) (a:List Int) (l:∀ x∈a,fh x) (u:a.length<1000) (k:Nat) (g:k<a.length) (G:Ob.ai) {r:Act->World->Prop} {x:Nat->Act->World->Prop} :
  Ob.aK Tryz.prog ((aZ YG).drop 2) (Ob.GH (p4 gl w0 M0 F0) mj.ntmps (ot R.p a (k:Int) (kQ R (a.take k)).length (kQ R (a.take k)) 10 [] []) (Ob.ai.sep (bw R) G)) (Ob.GH (p4 gl w0 M0 F0) mj.ntmps (ot R.p a ((k+1:Nat):Int) (kQ R (a.take (k+1))).length (kQ R (a.take (k+1))) 10 [] []) (Ob.ai.sep (bw R) G)) r x:=by
 have e:a.take (k+1)=a.take k++[a.getD k 0]:=by rw[cr g,aX,bz g];rfl
 have j:fh (a.getD k 0):=by rw[aX,bz g];exact l _ (dx g)
 rw[e,O6,O7];have i:=Ib R (a.take k);rw[cX] at i;generalize kQ R (a.take k)=L at i;generalize d:(if mz R.faults (a.getD k 0) R.me then u8.wrap (a.getD k 0)::fr.lD (poly.pat R.aY (a.getD k 0)) else [])=D;refine Ob.eR (E:=(p4 gl w0 M0 F0)) (c:=aq (aZ YG) 2) (Ob.GH (p4 gl w0 M0 F0) mj.ntmps (ot R.p a (k:Int) (L++D).length (L++D) 10 [] []) (Ob.ai.sep (bw R) G)) ab ab ?_ ?_
 ·refine ai2 gl w0 M0 F0 R o a k g L (a.getD k 0) rfl G ?_;cases m:mz R.faults (a.getD k 0) R.me;rw[m] at d;have d:D=[]:=d.symm;subst d;rw[bq];refine Ob.eQ (aq TO 3) ?_;refine Ob.gA (ot R.p a (k:Int) L.length L 10 [] []) ?_;exact Ob.cF fun _ _ h=>h
  ·rw[m] at d;have d:D=u8.wrap (a.getD k 0)::fr.lD (poly.pat R.aY (a.getD k 0)):=d.symm;refine ai3 gl w0 M0 F0 R s a k L aa (a.getD k 0) j G ?_;have n:(L++D).length=L.length+33:=by rw[d,bb,bG,CV]
   rw[n,<- d];exact Ob.cF fun _ _ h=>h
 refine Ob.gcd gb 1 (fun y=>bg iK 17 y) (fun q=>ot R.p a q (L++D).length (L++D) 10 [] []) (fun q=>q=((k+1:Nat):Int)) ?_ (fun q t=>?_);intro w ids M num;refine @al ((ot R.p a (i64.wrap ((k:Int)+1)) (L++D).length (L++D) 10 [] []).ag (i64.wrap ((k:Int)+1)=(↑(k+1):Int))) _ ?_ ?_;kernel_rfl;exact ao (aS aa);subst t;exact Ob.cF fun _ _ h=>h
end
def xn (z:c1):SayIn:=⟨z.R,z.H,3,kQ z.R z.R.takers⟩
def gC (z:c1) (q:Nat × Nat × Nat):List (Int × Hbm.aC):=if z.R.me∈z.R.dealers then dN (ia (xn z) q) else []
def rX (z:c1) (q:Nat × Nat × Nat):c1:=if z.R.me∈z.R.dealers then ⟨pF (xn z) q,qt (xn z) q⟩ else z
def aiS (p:Nat):St:=ar mj.ntmps 9 [(1,.is (.one (.ptr 8 0)))] [(8,[.v (Ob.pt p)])]
def aiZ (R:Rt):St:=ar mj.ntmps 14 [(0,.is (.one (.ptr 8 0)))] (ig R (bh++[.v (.int .i64 R.fault)]))
def ai0 (R:Rt):St:=ar mj.ntmps 15 [(1,.is (.one (.ptr 14 0)))] ((14,[.ptr 8 0])::ig R (bh++[.v (.int .i64 R.fault)]))
def ai1 (p:Nat):St:=ar mj.ntmps 15 [(1,.is (.one (.ptr 14 0)))] [(14,[.v (Ob.pt p)])]
def aiT (p:Nat):St:=ar mj.ntmps 9 [(1,.is (.one (.ptr 8 0))),(8,aG p)] [(8,[.v (Ob.pt p)])]
def aep (p:Nat) (q:Bool):St:=ar mj.ntmps 9 [(1,.is (.one (.ptr 8 0))),(10,av q)] [(8,[.v (Ob.pt p)])]
def aiU (p:Nat):St:=ar mj.ntmps 9 [(1,.is (.one (.ptr 8 0))),(3,fg)] [(8,[.v (Ob.pt p)])]
def aeq (R:Rt) (c:Cell):St:=ar mj.ntmps 15 [(1,.is (.one (.ptr 8 0))),(3,fg)] ((8,[c])::CB R (bh++[.v (.int .i64 R.fault)]))
def aiV (R:Rt) (c:Cell):St:=ar mj.ntmps 15 [(1,.is (.one (.ptr 8 0))),(3,fg),(15,.is (.one (.ro iK R.takers))),(16,sI .i64 R.takers.length),(17,sI .i64 0)] ((8,[c])::CB R (bh++[.v (.int .i64 R.fault)]))
def aiW (p:Nat) (a:List Int):St:=ar mj.ntmps 9 [(1,.is (.one (.ptr 8 0))),(3,fg),(15,.is (.one (.ro iK a))),(16,sI .i64 a.length),(17,sI .i64 0)] [(8,[.v (Ob.pt p)])]
def aiX (p:Nat) (l:List Int):St:=ar mj.ntmps 9 [(1,.is (.one (.ptr 8 0))),(3,lM l)] [(8,[.v (Ob.pt p)])]
def aiY (p:Nat) (l:List Int):St:=ar mj.ntmps 8 [(44,aG p),(45,lM l)] []
theorem Wv (gl:Nat->Option (Sigma aA)):Ob.dG Tryz.prog gl 38 (fun z:c1=>[aG z.R.p]) c1.ok c1.ef (fun z (q:Nat × Nat × Nat)=>.is (.one (.ro cH (gC z q)))) (fun z q=>(rX z q).ef) (fun _ _=>True):=by
 refine Ob.cA (sp:=WM) IX ab (fun z=>by show 1<=mj.ntmps;exact Odt ab) (fun z _=>rfl) ?_;rintro⟨R,H⟩ ⟨c,n,a⟩ w0 M0 F0;have a:eE c R H:=a;have g:=a.tk;have f:=a.aY;have j:=a.faults;show Ob.aK _ _ (Ob.GH _ _ _ (Ob.ai.sep (bw R) (bu H))) _ _ _;refine Ob.aO (G':=Ob.ai.obj (dF R (bh++[.v (.int .i64 R.fault)])) R.p (bu H)) (by unfold bw;exact (Ob.bB _ _ _).symm) ?_;refine Ob.ade 8 ab ?_;refine Ob.gZ [0] (aiZ R) ?_;refine Ob.ee gb 1 (ai0 R) ?_;refine Ob.zA (E:=(p4 gl w0 M0 F0).pinned 8 R.p) 8 R.p 14 au ab ?_;refine Ob.fk (E:=(p4 gl w0 M0 F0)) (bl:=dF R (bh++[.v (.int .i64 R.fault)])) [14] [8,9,10,11,12,13] 9 (ai1 R.p) ?_;refine Ob.aO (G':=Ob.ai.sep (bw R) (bu H)) (by unfold bw;exact Ob.bB _ _ _) ?_;refine Ob.BV gb 0 [(8,14)] (aiS R.p) ?_;refine Ob.dB 1 (bo (aq (ak mj) 1)) ?_;refine Ob.c7 gb 1 (aiT R.p) ?_;refine Ob.gz (E:=(p4 gl w0 M0 F0)) (Ob.cJ (fun _=>bu H) (Jk gl)) R a.dl zl (fun _ _=>?_);refine Ob.fD gb 3 (fun m=>bg .bool 10 m) (fun q=>aep R.p q) (fun q=>q=!decide (R.me∈R.dealers)) ?_ (fun q e=>Ob.dv ?_);intro w ids M num;refine @al ((aep R.p !decide (R.me∈R.dealers)).ag ((!decide (R.me∈R.dealers))=!decide (R.me∈R.dealers))) _ ?_ ?_;kernel_rfl;exact ao rfl;cases q
 ·have d:R.me∈R.dealers:=by
   have:decide (R.me∈R.dealers)=true:=by cases h:decide (R.me∈R.dealers) with|true=>rfl|false=>rw[h] at e;cases e
   exact Odt this
  refine Ob.eQ (aq (ak mj) 2) ?_;refine Ob.aO (G':=Ob.ai.obj (dF R (bh++[.v (.int .i64 R.fault)])) R.p (bu H)) (by unfold bw;exact (Ob.bB _ _ _).symm) ?_;refine Ob.ee gb 1 (aiU R.p) ?_;refine Ob.gZ [] (aeq R (.v (Ob.pt R.p))) ?_;refine Ob.Eu (E:=(p4 gl w0 M0 F0).pinned 9 R.p) 9 R.p 8 au ab ?_;refine Ob.gA (aeq R (.ptr 9 0)) ?_;refine Ob.ee gb 1 (aiV R (.ptr 9 0)) ?_;refine Ob.zA (E:=(p4 gl w0 M0 F0).pinned 9 R.p) 9 R.p 8 au ab ?_;refine Ob.fk (E:=(p4 gl w0 M0 F0)) (bl:=dF R (bh++[.v (.int .i64 R.fault)])) [8] [9,10,11,12,13,14] 10 (aiW R.p R.takers) ?_;refine Ob.aO (G':=Ob.ai.sep (bw R) (bu H)) (by unfold bw;exact Ob.bB _ _ _) ?_;refine Ob.qS 3 1 (.ints .u8 0 []) ab ?_;refine Ob.gA (ot R.p R.takers 0 0 [] 10 [] []) ?_;refine Ob.yy gb mixed (c:=YG) (fun k=>ot R.p R.takers (k:Int) (kQ R (R.takers.take k)).length (kQ R (R.takers.take k)) 10 [] []) (fun k=>Ob.ai.sep (bw R) (bu H)) R.takers.length ab ab (fun k i w ids M num=>?_) (fun k i=>?_) ?_;refine al (X:=((decide ((k:Int)<(R.takers.length:Int))=true->(ot R.p R.takers (k:Int) (kQ R (take k R.takers)).length (kQ R (take k R.takers)) 10 [] []).ag (k<R.takers.length))/\(decide ((k:Int)<(R.takers.length:Int))=false->(ot R.p R.takers (k:Int) (kQ R (take k R.takers)).length (kQ R (take k R.takers)) 10 [] []).ag (k=R.takers.length)))) ab ?_;exact⟨fun h=>ao (by have:=dec_lt h;omega),fun h=>ao (by have:=bW h;omega)⟩;exact WN gl w0 M0 F0 R f ⟨aa,a.whom⟩ R.takers a.tI g k i (bu H);rw[aV];have l:=Ib R R.takers;refine Ob.sN 3 9 (kQ R R.takers).length 1 .u8 (kQ R R.takers) ab ab rfl ?_;refine Ob.gA (aiX R.p (kQ R R.takers)) ?_;refine Ob.dB 13 (bo (aq (ak mj) 6)) ?_;refine Ob.c7 gb 2 (aiY R.p (kQ R R.takers)) ?_;refine Ob.gz (E:=(p4 gl w0 M0 F0)) (LL gl) ⟨R,H,3,kQ R R.takers⟩ ⟨a.hub,Mf R _,(by omega:(kQ R R.takers).length<1048576),a.hp,a.IQ aa⟩ qN (fun q _=>?_);refine Ob.c7 gb 4 (ar mj.ntmps 8 [(2,.is (.one (.ro cH (dN (ia ⟨R,H,3,kQ R R.takers⟩ q)))))] []) (Ob.dv ?_);refine Ob.g9 gb mixed _ ?_ ⟨q,trivial,Ob.a7 _,?_⟩;intro w ids M num;refine @al (SV.is (TV.one (Cell.ro cH (dN (ia { R:=R,H:=H,tp:=3,b:=kQ R R.takers } q))))=SV.is (TV.one (Cell.ro cH (gC { R:=R,H:=H } q)))) _ ?_ ?_;kernel_rfl;show _=SV.is (.one (.ro cH (gC ⟨R,H⟩ q)));unfold gC;rw[aj d];rfl;show _=(rX ⟨R,H⟩ q).ef;unfold rX;rw[aj d];rfl
 ·have d:¬ R.me∈R.dealers:=by
   have:decide (R.me∈R.dealers)=false:=by cases h:decide (R.me∈R.dealers) with|false=>rfl|true=>rw[h] at e;cases e
   exact Odf this
  refine Ob.jx (aq (ak mj) 2) ?_;refine Ob.gF gb mixed fg ?_ ⟨(0,0,0),trivial,?_,?_⟩;intro w ids M num;refine @al (SV.is (TV.one (Cell.v (Value.slice none 0 0)))=fg) _ ?_ ?_;kernel_rfl;rfl;show cG _ (.is (.one (.ro cH (gC ⟨R,H⟩ (0,0,0)))));unfold gC;rw[ah d];exact yN cH;show _=(rX ⟨R,H⟩ (0,0,0)).ef;unfold rX;rw[ah d]
set_option maxHeartbeats 4000000
def dV (R:Rt) (a:List Int):List Int:=a.filter fun d=>(cb R d).2
def ed (R:Rt) (a:List Int):List Fr:=(dV R a).map fun d=>(cb R d).1
def gM (R:Rt) (a:List Int):Fr × Int:=law22.ur R.dealers R.old a (dV R a) (ed R a)
theorem MN (R:Rt) (a b:List Int):dV R (a++b)=dV R a++dV R b:=by rw[dV,qz];rfl
theorem Xw (R:Rt) (a b:List Int):ed R (a++b)=ed R a++ed R b:=by rw[ed,MN,de];rfl
theorem MO (R:Rt) (a:List Int):(dV R a).length<=a.length:=oM _ _
theorem Xx (R:Rt) (a:List Int):(ed R a).length=(dV R a).length:=by rw[ed,bU]
theorem w7:enters Tryz.prog 72 Tryz.f72:=ek
abbrev D7:Func:=Tryz.f72
abbrev Xr:=aP [law22.abo]
theorem mL:aD Tryz.prog Xr:=aJ (aM law22.VW) bp
abbrev ML:Code:=aq (ak D7) 4
abbrev toB:List Code:=da (aq (aZ ML) 2)
def Y4 (p:Nat) (a:List Int):St:=ar D7.ntmps 8 [(0,aG p),(1,.is (.one (.ro iK a))),(4,.is (.one (.ptr 0 0))),(6,fg),(7,fg),(12,.is (.one (.ro iK a))),(13,sI .i64 a.length),(14,sI .i64 0)] [(0,[.row .fr 1 [(0:Fr)]])]
def lP (p:Nat) (a:List Int) (k:Int) (n m:Nat) (l:List Int) (s:List Fr) (e:Nat) (d:List (Nat × SV)) (b:List (Nat × List Cell)):St:=ar D7.ntmps e ([(0,aG p),(1,.is (.one (.ro iK a))),(4,.is (.one (.ptr 0 0))),(6,.is (.one (.sl 8 0 0 n 1))),(7,.is (.one (.sl 9 0 0 m 4))),(12,.is (.one (.ro iK a))),(13,sI .i64 a.length),(14,sI .i64 k)]++d) ((0,[.row .fr 1 [(0:Fr)]])::(8,[.ints .i64 n l])::(9,[.row .fr m s])::b)
def toO (R:Rt) (a:List Int) (n m:Nat) (l:List Int) (s:List Fr):St:=ar D7.ntmps 16 [(0,.is (.one (.ptr 10 0))),(1,.is (.one (.ro iK a))),(4,.is (.one (.ptr 0 0))),(6,.is (.one (.sl 8 0 0 n 1))),(7,.is (.one (.sl 9 0 0 m 4)))] ((0,[.row .fr 1 [(0:Fr)]])::(8,[.ints .i64 n l])::(9,[.row .fr m s])::Ro R (bh++[.v (.int .i64 R.fault)]))
def toP (R:Rt) (x:List Fr) (e:Int):St:=ar D7.ntmps 16 [(4,.is (.one (.ptr 0 0))),(5,sI .i64 e)] ((0,[.row .fr 1 x])::Ro R (bh++[.v (.int .i64 R.fault)]))
def toN (x:Fr) (e:Int):St:=ar D7.ntmps 8 [(4,.is (.one (.ptr 0 0))),(5,sI .i64 e)] [(0,[.row .fr 1 [x]])]
abbrev toV (y:Fr × Int):SV:=.tup [.agg [.row .fr 1 [y.1]],.one (.v (.int .i64 y.2))]
abbrev YN (R:Rt):Prop:=R.deals.length<1000000/\R.aW.length=R.shares.length/\R.shares.length<1000000/\R.proofs.length<1000000000000/\fh R.me/\∀ d∈R.deals,d.2.length<1000000
section
variable (gl:Nat->Option (Sigma aA)) (w0:World) (M0:Mem) (F0:Nat->Prop)
abbrev PC:Ob.b5:=Ob.kO Tryz.prog Xr gl w0 M0 F0
theorem Xs (R:Rt) (z:YN R) (d:List Int) (C:d.length<100000) (k:Nat) (o:k<d.length) (G:Ob.ai) {r:Act->World->Prop} {x:Nat->Act->World->Prop} :
  Ob.aK Tryz.prog ((aZ ML).drop 2) (Ob.GH (PC gl w0 M0 F0) D7.ntmps (lP R.p d (k:Int) (dV R (d.take k)).length (ed R (d.take k)).length (dV R (d.take k)) (ed R (d.take k)) 10 [] []) (Ob.ai.sep (bw R) G)) (Ob.GH (PC gl w0 M0 F0) D7.ntmps (lP R.p d ((k+1:Nat):Int) (dV R (d.take (k+1))).length (ed R (d.take (k+1))).length (dV R (d.take (k+1))) (ed R (d.take (k+1))) 10 [] []) (Ob.ai.sep (bw R) G)) r x:=by
 have e:d.take (k+1)=d.take k++[d.getD k 0]:=by rw[cr o,aX,bz o];rfl
 rw[e,MN,Xw];have i:=MO R (d.take k);have j:=Xx R (d.take k);rw[cX] at i;generalize dV R (d.take k)=L at i j;generalize ed R (d.take k)=S at j;have u:∀ t,dV R [t]=if (cb R t).2 then [t] else []:=fun t=>by rw[dV,tH];rfl
 have y:∀ t,ed R [t]=if (cb R t).2 then [(cb R t).1] else []:=fun t=>by rw[ed,u];split<;>rfl
 rw[u,y];refine Ob.eR (E:=(PC gl w0 M0 F0)) (c:=aq (aZ ML) 2) (Ob.GH (PC gl w0 M0 F0) D7.ntmps (lP R.p d (k:Int) (L++(if (cb R (d.getD k 0)).2 then [d.getD k 0] else [])).length (S++(if (cb R (d.getD k 0)).2 then [(cb R (d.getD k 0)).1] else [])).length (L++(if (cb R (d.getD k 0)).2 then [d.getD k 0] else [])) (S++(if (cb R (d.getD k 0)).2 then [(cb R (d.getD k 0)).1] else [])) 10 [] []) (Ob.ai.sep (bw R) G)) ab ab ?_ ?_;refine Ob.gcd mL 1 (fun f=>bg iK 9 f) (fun q=>lP R.p d (k:Int) L.length S.length L S 10 [(9,sI .i64 q)] []) (fun q=>q=d.getD k 0) ?_ (fun q s=>?_);intro w ids M num;refine @al ((0<=(k:Int)/\(k:Int)<(d.length:Int))/\(k:Int).toNat<d.length/\(lP R.p d (k:Int) L.length S.length L S 10 [(9,sI IntKind.i64 (d.getD (k:Int).toNat 0))] []).ag (d.getD (k:Int).toNat 0=d.getD k 0)) _ ?_ ?_;kernel_rfl;rw[aB];exact⟨⟨aa,aa⟩,o,ao rfl⟩;rw[<- s];refine Ob.dB 6 (bo (aq toB 1)) ?_;refine Ob.c7 mL 2 (lP R.p d (k:Int) L.length S.length L S 10 [(9,sI .i64 q),(19,aG R.p),(20,sI .i64 q)] []) ?_;refine Ob.gz (E:=(PC gl w0 M0 F0)) (Ob.cJ (fun _=>G) (LM gl)) (R,q) z BG (fun _ _=>?_);refine Ob.c7 mL 9 (lP R.p d (k:Int) L.length S.length L S 59 [(9,sI .i64 q),(10,.is (.one (.ptr 58 0))),(11,av (cb R q).2)] [(58,[.row .fr 1 [(cb R q).1]])]) (Ob.dv ?_);refine Ob.kJ mL mixed 1 [(1,58)] (fun f=>bg .bool 24 f) (fun b=>lP R.p d (k:Int) L.length S.length L S 10 [(9,sI .i64 q),(10,.is (.one (.ptr 1 0))),(24,av b)] [(1,[.row .fr 1 [(cb R q).1]])]) (fun b=>b=(cb R q).2) (fun _=>False) (fun _ _=>False) ?_ (fun b A=>?_) (fun _ _ _ h _=>h.elim) (fun _ _ _ _ h _=>h.elim);intro w ids M num;refine @al ((lP R.p d (k:Int) L.length S.length L S 10 [(9,sI IntKind.i64 q),(10,SV.is (TV.one (Cell.ptr 1 0))),(24,av (cb R q).snd)] [(1,[Cell.row Kd.fr 1 [(cb R q).fst]])]).ag ((cb R q).snd=(cb R q).snd)) _ ?_ ?_;kernel_rfl;exact ao rfl;rw[<- A];cases b;refine Ob.eQ (aq toB 3) ?_;refine Ob.gA (lP R.p d (k:Int) L.length S.length L S 10 [] []) ?_;refine Ob.cF fun a w n=>?_;show Ob.GH _ _ (lP R.p d (k:Int) (L++[]).length (S++[]).length (L++[]) (S++[]) 10 [] []) _ _ _;rw[bq,bq];exact n;refine Ob.jx (aq toB 3) ?_;refine Ob.kJ mL mixed 1 [(8,34)] (fun f=>cU iK 8 f) (fun b=>lP R.p d (k:Int) (L.length+1) S.length b S 10 [(9,sI .i64 q),(10,.is (.one (.ptr 1 0)))] [(1,[.row .fr 1 [(cb R q).1]])]) (fun b=>b=L++[q]) (fun _=>False) (fun _ _=>False) ?_ (fun b g=>?_) (fun _ _ _ h _=>h.elim) (fun _ _ _ _ h _=>h.elim);intro w ids M num;refine @al (0+1<=1/\L.length<=L.length/\(L.length+1)*8<=140737488355328/\L.length+1<=4611686018427387904/\(lP R.p d (k:Int) (L.length+1) S.length (take L.length L++take 1 [q]) S 10 [(9,sI IntKind.i64 q),(10,SV.is (TV.one (Cell.ptr 1 0)))] [(1,[Cell.row Kd.fr 1 [(cb R q).fst]])]).ag (take L.length L++take 1 [q]=L++[q])) _ ?_ ?_;kernel_rfl;refine⟨ae,aE _,aa,aa,ao ?_⟩;rw[aV];rfl;subst g;refine Ob.kJ mL mixed 1 [(9,34)] (fun f=>cU .fr 9 f) (fun b=>lP R.p d (k:Int) (L.length+1) (S.length+1) (L++[q]) b 10 [] []) (fun b=>b=S++[(cb R q).1]) (fun _=>False) (fun _ _=>False) ?_ (fun b g=>?_) (fun _ _ _ h _=>h.elim) (fun _ _ _ _ h _=>h.elim);intro w ids M num;refine @al (0+1<=1/\S.length<=S.length/\(S.length+1)*32<=140737488355328/\S.length+1<=4611686018427387904/\(lP R.p d (k:Int) (L.length+1) (S.length+1) (L++[q]) (take S.length S++take 1 [(cb R q).fst]) 10 [] []).ag (take S.length S++take 1 [(cb R q).fst]=S++[(cb R q).fst])) _ ?_ ?_;kernel_rfl;refine⟨ae,aE _,aa,aa,ao ?_⟩;rw[aV];rfl;subst g;refine Ob.cF fun a w n=>?_;show Ob.GH _ _ (lP R.p d (k:Int) (L++[q]).length (S++[(cb R q).1]).length (L++[q]) (S++[(cb R q).1]) 10 [] []) _ _ _;rw[bb,bb];exact n;generalize (L++(if (cb R (d.getD k 0)).2 then [d.getD k 0] else []))=l;generalize (S++(if (cb R (d.getD k 0)).2 then [(cb R (d.getD k 0)).1] else []))=m;refine Ob.gcd mL 1 (fun f=>bg iK 14 f) (fun q=>lP R.p d q l.length m.length l m 10 [] []) (fun q=>q=((k+1:Nat):Int)) ?_ (fun q s=>?_);intro w ids M num;refine @al ((lP R.p d (IntKind.i64.wrap ((k:Int)+1)) l.length m.length l m 10 [] []).ag (IntKind.i64.wrap ((k:Int)+1)=(↑(k+1):Int))) _ ?_ ?_;kernel_rfl;exact ao (aS aa);subst s;exact Ob.cF fun _ _ h=>h
end
theorem Ww (gl:Nat->Option (Sigma aA)):Ob.dG Tryz.prog gl 72 (fun z:Rt × List Int=>[aG z.1.p,.is (.one (.ro iK z.2))]) (fun z=>YN z.1/\z.2.length<100000/\z.1.old.length<1000) (fun z=>bw z.1) (fun z (_:Unit)=>toV (gM z.1 z.2)) (fun z _=>bw z.1) (fun _ _=>True):=by refine Ob.cA (sp:=Xr) w7 ab (fun z=>by show 2<=D7.ntmps;exact Odt ab) (fun z _=>rfl) ?_;rintro⟨R,a⟩ ⟨e,b,d⟩ w0 M0 F0;have e:YN R:=e;have b:a.length<100000:=b;have d:R.old.length<1000:=d;show Ob.aK _ _ (Ob.GH _ _ _ (bw R)) _ _ _;refine Ob.ee mL 4 (Y4 R.p a) ?_;refine Ob.qS 6 1 (.ints .i64 0 []) ab ?_;refine Ob.qS 7 4 (.row .fr 0 []) ab ?_;refine Ob.aO (G':=Ob.ai.sep (bw R) Ob.ai.none) (by unfold bw;exact Ob.bB _ _ _) ?_;refine Ob.gA (lP R.p a 0 0 0 [] [] 10 [] []) ?_;refine Ob.yy mL mixed (c:=ML) (fun k=>lP R.p a (k:Int) (dV R (a.take k)).length (ed R (a.take k)).length (dV R (a.take k)) (ed R (a.take k)) 10 [] []) (fun k=>Ob.ai.sep (bw R) Ob.ai.none) a.length ab ab (fun k f w ids M num=>?_) (fun k f=>?_) ?_;refine al (X:=((decide ((k:Int)<(a.length:Int))=true->(lP R.p a (k:Int) (dV R (take k a)).length (ed R (take k a)).length (dV R (take k a)) (ed R (take k a)) 10 [] []).ag (k<a.length))/\(decide ((k:Int)<(a.length:Int))=false->(lP R.p a (k:Int) (dV R (take k a)).length (ed R (take k a)).length (dV R (take k a)) (ed R (take k a)) 10 [] []).ag (k=a.length)))) ab ?_;exact⟨fun h=>ao (by have:=dec_lt h;omega),fun h=>ao (by have:=bW h;omega)⟩;exact Xs gl w0 M0 F0 R e a b k f Ob.ai.none;rw[aV];have j:=MO R a;refine Ob.aO (G':=Ob.ai.obj (dF R (bh++[.v (.int .i64 R.fault)])) R.p Ob.ai.none) (by unfold bw;exact (Ob.bB _ _ _).symm) ?_;refine Ob.gZ [0] (toO R a (dV R a).length (ed R a).length (dV R a) (ed R a)) ?_;refine Ob.gcd mL 1 (fun g=>(cU .fr 0 g,bg iK 5 g)) (fun q=>toP R q.1 q.2) (fun q=>q=([(gM R a).1],(gM R a).2)) ?_ (fun q i=>?_);intro w ids M num;refine @al (0+(dV R a).length<=(dV R a).length/\0+(ed R a).length<=(ed R a).length/\zW ((R.dealers,R.takers,R.need,R.old),a,take (dV R a).length (dV R a),take (ed R a).length (ed R a),())/\(toP R ([((law22.ur R.dealers R.old a (take (dV R a).length (dV R a)) (take (ed R a).length (ed R a))).fst,(law22.ur R.dealers R.old a (take (dV R a).length (dV R a)) (take (ed R a).length (ed R a))).snd,()).fst],(law22.ur R.dealers R.old a (take (dV R a).length (dV R a)) (take (ed R a).length (ed R a))).snd).fst ([((law22.ur R.dealers R.old a (take (dV R a).length (dV R a)) (take (ed R a).length (ed R a))).fst,(law22.ur R.dealers R.old a (take (dV R a).length (dV R a)) (take (ed R a).length (ed R a))).snd,()).fst],(law22.ur R.dealers R.old a (take (dV R a).length (dV R a)) (take (ed R a).length (ed R a))).snd).snd).ag (([(law22.ur R.dealers R.old a (take (dV R a).length (dV R a)) (take (ed R a).length (ed R a))).fst],(law22.ur R.dealers R.old a (take (dV R a).length (dV R a)) (take (ed R a).length (ed R a))).snd)=([(gM R a).fst],(gM R a).snd))) _ ?_ ?_;kernel_rfl;refine⟨aa,aa,⟨by show R.old.length<_;omega,by show a.length<_;omega,by show (take _ _).length<_;rw[aV];omega⟩,ao ?_⟩;rw[aV,aV];rfl;subst i;refine Ob.fk (E:=(PC gl w0 M0 F0)) (bl:=dF R (bh++[.v (.int .i64 R.fault)])) [0] [10,11,12,13,14,15] 11 (toN (gM R a).1 (gM R a).2) ?_;exact Ob.pM mL (toV (gM R a)) ⟨(),trivial,Ob.a7 _,rfl⟩
end rite
namespace sha
open Go.Eng Go.RowKit Cr
open Go.IntKind(i64)
open Go.IntKind(i64 u8)
open Go.IntKind(i64 u64 u32)
abbrev uK:Kd:=.int .u32
abbrev bK:Kd:=.int .u8
abbrev kZ:Kd:=.pair (.arr 8 uK) (.pair (.arr 64 bK) (.int .i64))
def ep:List Int:=[1779033703,3144134277,1013904242,2773480762,1359893119,2600822924,528734635,1541459225]
def jD:List Int:=[1116352408,1899447441,3049323471,3921009573,961987163,1508970993,2453635748,2870763221,3624381080,310598401,607225278,1426881987,1925078388,2162078206,2614888103,3248222580,3835390401,4022224774,264347078,604807628,770255983,1249150122,1555081692,1996064986,2554220882,2821834349,2952996808,3210313671,3336571891,3584528711,113926993,338241895,666307205,773529912,1294757372,1396182291,1695183700,1986661051,2177026350,2456956037,2730485921,2820302411,3259730800,3345764771,3516065817,3600352804,4094571909,275423344,430227734,506948616,659060556,883997877,958139571,1322822218,1537002063,1747873779,1955562222,2024104815,2227730452,2361852424,2428436474,2756734187,3204031479,3329325298]
def dE:gi:=fun g=>if g=0 then some ⟨.arr 8 uK,ep⟩ else if g=1 then some ⟨.arr 64 uK,jD⟩ else none
theorem ZR:enters Tryz.prog 180 Tryz.f180:=ek
def ajd (x k:Int):Int:=aF .or .u32 (u32.wrap (x*2^min (aF .and .u64 (u64.wrap k) 31).toNat u32.bits)) (Int.fdiv x (2^min (u64.wrap (32-aF .and .u64 (u64.wrap k) 31)).toNat u32.bits))
def hV (x k:Int):Int:=eS (ajd x k)
theorem PT (x:Int):0<=u64.wrap x:=by simp only[IntKind.wrap,IntKind.signed,IntKind.bits];simp;omega
theorem acT:aL Tryz.prog 180 [uK,.int .i64] [.val uK] bx (fun _=>True) (fun (x,k,_)=>(hV x k,())):=by
 refine a8 (sp:=aP []) bp mixed ZR ae ae ?_;rintro w b ⟨x,k,⟨⟩⟩;revert x k;intro (x:Int) (k:Int) _ _;refine al (X:=((0:Int)<=aF BinOp.and u64 (u64.wrap k) (31:Int)/\(0:Int)<=u64.wrap ((32:Int)-aF BinOp.and u64 (u64.wrap k) (31:Int))/\(aF BinOp.or u32 (u32.wrap (x*(2:Int)^min (aF BinOp.and u64 (u64.wrap k) (31:Int)).toNat u32.bits)) (x.fdiv ((2:Int)^min (u64.wrap ((32:Int)-aF BinOp.and u64 (u64.wrap k) (31:Int))).toNat u32.bits)),())=(hV x k,()))) ab ?_;refine⟨?_,?_,by show _=(hV x k,());rw[hV,bf];rfl⟩
 ·have h:(0:Int)<=aF .and .u64 (u64.wrap k) 31:=by
   show (0:Int)<=u64.wrap _;exact PT _
  exact h
 exact PT _
def Y0:Nat × Eng.Spec:=(180,aH [uK,.int .i64] [.val uK] (fun _=>True) (fun (x,k,_)=>(hV x k,())))
theorem VD:enters Tryz.prog 177 Tryz.f177:=ek
abbrev TK:List Code:=ak Tryz.f177
def AM (d b p:List Int) (e:Int) (g:Int × List Int):St:=ar Tryz.f177.ntmps 25 [(0,.is (.one (.ptr 0 0))),(3,.is (.one (.ptr 1 0))),(4,.is (.one (.ptr 9 0))),(23,sI .i64 g.1)] [(9,[.ints .u32 64 g.2]),(1,[.ints .u8 64 p]),(0,[.ints .u32 8 d,.ints .u8 64 b,.v (.int .i64 e)])]
def MK (d b p:List Int) (e:Int) (i:Nat) (g:Int × List Int):St:=ar Tryz.f177.ntmps 25 [(0,.is (.one (.ptr 0 0))),(3,.is (.one (.ptr 1 0))),(4,.is (.one (.ptr 9 0))),(5,sI .i64 i),(23,sI .i64 i),(26,sI .i64 g.1)] [(9,[.ints .u32 64 g.2]),(1,[.ints .u8 64 p]),(0,[.ints .u32 8 d,.ints .u8 64 b,.v (.int .i64 e)])]
def wB (p:List Int) (i j:Nat) (w:List Int):List Int:=w.set i (aF .or .u32 (u32.wrap (w.getD i 0*2^min (8:Nat) u32.bits)) (u32.wrap (p.getD (4*i+j) 0)))
def Ec (p:List Int) (i:Nat) (w:List Int):Nat->List Int
 | 0=>w
 | j+1=>wB p i j (Ec p i w j)
def Eb (p:List Int):Nat->List Int
 | 0=>replicate 64 0
 | i+1=>Ec p i (Eb p i) 4
theorem PM (p:List Int) (i:Nat) (w:List Int):∀ j,(Ec p i w j).length=w.length
 | 0=>rfl
 | j+1=>by show (wB p i j _).length=_;rw[wB,im,PM p i w j]
theorem PL (p:List Int):∀ i,(Eb p i).length=64
 | 0=>oL
 | i+1=>by show (Ec p i (Eb p i) 4).length=_;rw[PM,PL p i]
def G6 (d b _p:List Int) (e:Int) (g:Int × List Int):St:=ar Tryz.f177.ntmps 25 [(0,.is (.one (.ptr 0 0))),(4,.is (.one (.ptr 9 0))),(45,sI .i64 g.1)] [(9,[.ints .u32 64 g.2]),(0,[.ints .u32 8 d,.ints .u8 64 b,.v (.int .i64 e)])]
def Pw (d b _p:List Int) (e:Int) (w:List Int) (g:Int × List Int):St:=ar Tryz.f177.ntmps 81 [(0,.is (.one (.ptr 0 0))),(4,.is (.one (.ptr 9 0))),(12,.is (.one (.ptr 57 0))),(92,sI .i64 g.1)] [(57,[.ints .u32 8 g.2]),(9,[.ints .u32 64 w]),(0,[.ints .u32 8 d,.ints .u8 64 b,.v (.int .i64 e)])]
def sg0 (a:Int):Int:=aF .xor .u32 (aF .xor .u32 (hV a (-7)) (hV a (-18))) (a.fdiv (2^min (3:Nat) u32.bits))
def sg1 (a:Int):Int:=aF .xor .u32 (aF .xor .u32 (hV a (-17)) (hV a (-19))) (a.fdiv (2^min (10:Nat) u32.bits))
def wC (w:List Int) (i:Nat):List Int:=w.set (i+16) (u32.wrap (u32.wrap (u32.wrap (w.getD i 0+sg0 (w.getD (i+1) 0))+w.getD (i+9) 0)+sg1 (w.getD (i+14) 0)))
def G8 (w:List Int):Nat->List Int
 | 0=>w
 | i+1=>wC (G8 w i) i
theorem PN (w:List Int):∀ i,(G8 w i).length=w.length
 | 0=>rfl
 | i+1=>by show (wC _ i).length=_;rw[wC,im,PN w i]
def Px (b:List Int) (d:Int) (_w v:List Int) (g:Int × List Int):St:=ar Tryz.f177.ntmps 81 [(0,.is (.one (.ptr 0 0))),(12,.is (.one (.ptr 57 0))),(172,sI .i64 g.1)] [(57,[.ints .u32 8 v]),(0,[.ints .u32 8 g.2,.ints .u8 64 b,.v (.int .i64 d)])]
theorem eight:∀ {v:List Int},v.length=8->∃ a b c d e f g h,v=[a,b,c,d,e,f,g,h]
 | [a,b,c,d,e,f,g,h],_=>⟨a,b,c,d,e,f,g,h,rfl⟩
def rT (w:List Int) (e f g h:Int) (i:Nat):Int:=u32.wrap (u32.wrap (h+aF .xor .u32 (aF .xor .u32 (hV e (-6)) (hV e (-11))) (hV e (-25)))+u32.wrap (u32.wrap (aF .xor .u32 (aF .and .u32 e f) (aF .and .u32 (aF .xor .u32 (if u32.signed=true then (-1:Int) else u32.max) e) g)+jD.getD i 0)+w.getD i 0))
def rU (a b c:Int):Int:=u32.wrap (aF .xor .u32 (aF .xor .u32 (hV a (-2)) (hV a (-13))) (hV a (-22))+aF .xor .u32 (aF .xor .u32 (aF .and .u32 a b) (aF .and .u32 a c)) (aF .and .u32 b c))
def vC (w:List Int):List Int->Nat->List Int
 | [a,b,c,d,e,f,g,h],i=>[u32.wrap (rT w e f g h i+rU a b c),a,b,c,u32.wrap (d+rT w e f g h i),e,f,g]
 | v,_=>v
def CK (w v:List Int):Nat->List Int
 | 0=>v
 | i+1=>vC w (CK w v i) i
theorem PK (w:List Int) {v:List Int} (j:v.length=8):∀ i,(CK w v i).length=8
 | 0=>j
 | i+1=>by obtain⟨a,b,c,d,e,f,g,h,k⟩:=eight (PK w j i);show (vC w (CK w v i) i).length=8;rw[k];rfl
def FO (v s:List Int):Nat->List Int
 | 0=>s
 | i+1=>(FO v s i).set i (u32.wrap ((FO v s i).getD i 0+v.getD i 0))
def Y2 (b p:List Int):List Int:=FO (CK (G8 (Eb p 16) 48) b 64) b 8
def fH (b p:List Int):List Int:=eS (Y2 b p)
theorem aac:CR Tryz.prog 177 kZ [.arr 64 bK] [] dE (fun _=>True) (fun ((n,l,o),p,_)=>((fH n p,l,o),())):=by
 have u:aD Tryz.prog (aP [Y0]):=aJ (aM acT) bp;refine BP (sp:=aP [Y0]) VD ae ae ab ?_;rintro w M0 b0 ⟨n,l,o⟩ ⟨p,⟨⟩⟩;revert n l o p;intro (n:List Int) (l:List Int) (o:Int) (p:List Int) hw K _;have V:n.length=8:=hw.1.1;have hp:p.length=64:=K.1.1;show Tr _ _ _ _ _ _ _;refine bd u mixed 3 (AM n l p o (0,replicate 64 0)) True ?_ (fun _=>?_);refine al (X:=((AM n l p o ((0:Int),replicate (64:Nat) (0:Int))).ag True)) ab ?_;exact ao trivial;refine pg h9 (fun r=>(bg (.int .i64) 23 r,cU uK 9 r)) (AM n l p o) (fun g=>∃ k:Nat,k<=16/\g.1=(k:Int)/\g.2=Eb p k) (fun g=>16-g.1.toNat)
  (fun r=>(bg (.int .i64) 23 r,cU uK 9 r)) (AM n l p o) (fun g=>g.2=Eb p 16) (0,replicate 64 0) (c:=aq TK 3) ab ab (aw ab ab ?_) ?_ ?_
 exact⟨0,ae,rfl,rfl⟩
 ·rintro⟨i,x⟩ L;revert i x;intro (i:Int) (x:List Int) ⟨k,hk,R,ew⟩;have R:i=(k:Int):=R;have kw:x=Eb p k:=ew;subst R;refine bd u mixed 2 (AM n l p o ((k:Int),x)) (k<16) ?_ (fun U=>?_)
  ·refine al (X:=((decide ((k:Int)<(16:Int))=true->(AM n l p o ((k:Int),x)).ag (k<(16:Nat)))/\(decide ((k:Int)<(16:Int))=false->(AM n l p o ((k:Int),x)).ag (x=Eb p (16:Nat))))) ab ?_;refine⟨fun h=>ao (by have:=Odt h;omega),fun h=>ao ?_⟩;have:k=16:=by have:=Odf h;omega
   rw[kw,this]
  refine mf (c:=aq (aZ (aq (ak Tryz.f177) 3)) 2) ab ab ?_;refine bd u mixed 2 (MK n l p o k (0,x)) True ?_ (fun _=>?_);refine al (X:=((MK n l p o k ((0:Int),x)).ag True)) ab ?_;exact ao trivial;refine cd u mixed h9 (fun r=>(bg (.int .i64) 26 r,cU uK 9 r)) (MK n l p o k) (fun g=>∃ j:Nat,j<=4/\g.1=(j:Int)/\g.2=Ec p k x j) (fun g=>4-g.1.toNat)
   (fun r=>cU uK 9 r) (fun w=>AM n l p o ((k:Int),w)) (fun w=>w=Ec p k x 4) (0,x) (c:=aq (da (aq (aZ (aq (ak Tryz.f177) 3)) 2)) 2) ab ab (aw ab ab ?_) ?_ ?_
  exact⟨0,ae,rfl,rfl⟩
  ·rintro⟨j,wj⟩ L;revert j wj;intro (j:Int) (wj:List Int) ⟨t,W,y,E⟩;have y:j=(t:Int):=y;have A:wj=Ec p k x t:=E;subst y;refine al (X:=((decide ((t:Int)<(4:Int))=true->((0:Int)<=(k:Int)/\(k:Int)<(↑(64:Nat):Int))/\(k:Int).toNat<(64:Nat)/\(0:Int)<=(8:Int)/\((0:Int)<=i64.wrap (i64.wrap ((4:Int)*(k:Int))+(t:Int))/\i64.wrap (i64.wrap ((4:Int)*(k:Int))+(t:Int))<(↑(64:Nat):Int))/\(i64.wrap (i64.wrap ((4:Int)*(k:Int))+(t:Int))).toNat<(64:Nat)/\((0:Int)<=(k:Int)/\(k:Int)<(↑(64:Nat):Int))/\(k:Int).toNat<(64:Nat)/\(MK n l p o k (i64.wrap ((t:Int)+(1:Int)),wj.set (k:Int).toNat (aF BinOp.or u32 (u32.wrap (wj.getD (k:Int).toNat (0:Int)*(2:Int)^min (8:Nat) u32.bits)) (u32.wrap (p.getD (i64.wrap (i64.wrap ((4:Int)*(k:Int))+(t:Int))).toNat (0:Int)))))).ag ((∃ j,j<=(4:Nat)/\i64.wrap ((t:Int)+(1:Int))=(j:Int)/\wj.set (k:Int).toNat (aF BinOp.or u32 (u32.wrap (wj.getD (k:Int).toNat (0:Int)*(2:Int)^min (8:Nat) u32.bits)) (u32.wrap (p.getD (i64.wrap (i64.wrap ((4:Int)*(k:Int))+(t:Int))).toNat (0:Int))))=Ec p k x j)/\(4:Nat)-(i64.wrap ((t:Int)+(1:Int))).toNat<(4:Nat)-(t:Int).toNat))/\(decide ((t:Int)<(4:Int))=false->(AM n l p o ((k:Int),wj)).ag (wj=Ec p k x (4:Nat))))) ab ?_;refine⟨fun h=>?_,fun h=>ao ?_⟩
   ·have C:t<4:=by have:=Odt h;omega
    have H:i64.wrap (i64.wrap ((4:Int)*(k:Int))+(t:Int))=((4*k+t:Nat):Int):=by rw[ba (a:=4*(k:Int)) aa aa,ba aa aa];omega
    rw[H,aS aa,aB,aB];exact⟨⟨aa,aa⟩,aa,ae,⟨aa,aa⟩,aa,⟨aa,aa⟩,aa,ao ⟨⟨t+1,C,rfl,by rw[A];rfl⟩,by rw[aB,aB];omega⟩⟩
   ·have:t=4:=by have:=Odf h;omega
    rw[A,this]
  intro (w':List Int) (Z:w'=Ec p k x 4);refine ke ?_;refine bE u mixed _ _ ?_;refine al (X:=((AM n l p o (i64.wrap ((k:Int)+(1:Int)),w')).ag ((∃ G,G<=(16:Nat)/\i64.wrap ((k:Int)+(1:Int))=(G:Int)/\w'=Eb p G)/\(16:Nat)-(i64.wrap ((k:Int)+(1:Int))).toNat<(16:Nat)-(k:Int).toNat))) ab ?_;rw[aS aa];exact ao ⟨⟨k+1,U,rfl,by rw[Z,kw];rfl⟩,by rw[aB,aB];omega⟩
 rintro⟨i1,z⟩ F;revert i1 z;intro (i1:Int) (z:List Int) (F:z=Eb p 16);have I:z.length=64:=by rw[F,PL]
 refine bd u mixed 1 (G6 n l p o (0,z)) True ?_ (fun _=>?_);refine al (X:=((G6 n l p o ((0:Int),z)).ag True)) ab ?_;exact ao trivial;refine cd u mixed h9 (fun r=>(bg (.int .i64) 45 r,cU uK 9 r)) (G6 n l p o) (fun g=>∃ j:Nat,j<=48/\g.1=(j:Int)/\g.2=G8 z j) (fun g=>48-g.1.toNat)
  (fun r=>(bg (.int .i64) 45 r,cU uK 9 r)) (G6 n l p o) (fun g=>g.2=G8 z 48) (0,z) (c:=aq (ak Tryz.f177) 5) ab ab (aw ab ab ?_) ?_ ?_
 exact⟨0,ae,rfl,rfl⟩
 ·rintro⟨j,wj⟩ L;revert j wj;intro (j:Int) (wj:List Int) ⟨t,W,y,E⟩;have y:j=(t:Int):=y;have A:wj=G8 z t:=E;subst y;refine al (X:=((decide ((t:Int)<(48:Int))=true->((0:Int)<=i64.wrap ((t:Int)+(1:Int))/\i64.wrap ((t:Int)+(1:Int))<(↑(64:Nat):Int))/\(i64.wrap ((t:Int)+(1:Int))).toNat<(64:Nat)/\((0:Int)<=i64.wrap ((t:Int)+(14:Int))/\i64.wrap ((t:Int)+(14:Int))<(↑(64:Nat):Int))/\(i64.wrap ((t:Int)+(14:Int))).toNat<(64:Nat)/\True/\True/\(0:Int)<=(3:Int)/\True/\True/\(0:Int)<=(10:Int)/\((0:Int)<=(t:Int)/\(t:Int)<(↑(64:Nat):Int))/\(t:Int).toNat<(64:Nat)/\((0:Int)<=i64.wrap ((t:Int)+(9:Int))/\i64.wrap ((t:Int)+(9:Int))<(↑(64:Nat):Int))/\(i64.wrap ((t:Int)+(9:Int))).toNat<(64:Nat)/\((0:Int)<=i64.wrap ((t:Int)+(16:Int))/\i64.wrap ((t:Int)+(16:Int))<(↑(64:Nat):Int))/\(i64.wrap ((t:Int)+(16:Int))).toNat<(64:Nat)/\(G6 n l p o (i64.wrap ((t:Int)+(1:Int)),wj.set (i64.wrap ((t:Int)+(16:Int))).toNat (u32.wrap (u32.wrap (u32.wrap (wj.getD (t:Int).toNat (0:Int)+aF BinOp.xor u32 (aF BinOp.xor u32 (hV (wj.getD (i64.wrap ((t:Int)+(1:Int))).toNat (0:Int)) (-7:Int),()).fst (hV (wj.getD (i64.wrap ((t:Int)+(1:Int))).toNat (0:Int)) (-18:Int),()).fst) ((wj.getD (i64.wrap ((t:Int)+(1:Int))).toNat (0:Int)).fdiv ((2:Int)^min (3:Nat) u32.bits)))+wj.getD (i64.wrap ((t:Int)+(9:Int))).toNat (0:Int))+aF BinOp.xor u32 (aF BinOp.xor u32 (hV (wj.getD (i64.wrap ((t:Int)+(14:Int))).toNat (0:Int)) (-17:Int),()).fst (hV (wj.getD (i64.wrap ((t:Int)+(14:Int))).toNat (0:Int)) (-19:Int),()).fst) ((wj.getD (i64.wrap ((t:Int)+(14:Int))).toNat (0:Int)).fdiv ((2:Int)^min (10:Nat) u32.bits)))))).ag ((∃ j,j<=(48:Nat)/\i64.wrap ((t:Int)+(1:Int))=(j:Int)/\wj.set (i64.wrap ((t:Int)+(16:Int))).toNat (u32.wrap (u32.wrap (u32.wrap (wj.getD (t:Int).toNat (0:Int)+aF BinOp.xor u32 (aF BinOp.xor u32 (hV (wj.getD (i64.wrap ((t:Int)+(1:Int))).toNat (0:Int)) (-7:Int)) (hV (wj.getD (i64.wrap ((t:Int)+(1:Int))).toNat (0:Int)) (-18:Int))) ((wj.getD (i64.wrap ((t:Int)+(1:Int))).toNat (0:Int)).fdiv ((2:Int)^min (3:Nat) u32.bits)))+wj.getD (i64.wrap ((t:Int)+(9:Int))).toNat (0:Int))+aF BinOp.xor u32 (aF BinOp.xor u32 (hV (wj.getD (i64.wrap ((t:Int)+(14:Int))).toNat (0:Int)) (-17:Int)) (hV (wj.getD (i64.wrap ((t:Int)+(14:Int))).toNat (0:Int)) (-19:Int))) ((wj.getD (i64.wrap ((t:Int)+(14:Int))).toNat (0:Int)).fdiv ((2:Int)^min (10:Nat) u32.bits))))=G8 z j)/\(48:Nat)-(i64.wrap ((t:Int)+(1:Int))).toNat<(48:Nat)-(t:Int).toNat))/\(decide ((t:Int)<(48:Int))=false->(G6 n l p o ((t:Int),wj)).ag (wj=G8 z (48:Nat))))) ab ?_;refine⟨fun h=>?_,fun h=>ao ?_⟩
  ·have C:t<48:=by have:=Odt h;omega
   have H:∀ m:Nat,m<20->i64.wrap ((t:Int)+(m:Int))=((t+m:Nat):Int):=fun m hm=>by rw[ba aa aa];omega
   have N:i64.wrap ((t:Int)+1)=((t+1:Nat):Int):=H 1 ae;have O:i64.wrap ((t:Int)+9)=((t+9:Nat):Int):=H 9 ae;have P:i64.wrap ((t:Int)+14)=((t+14:Nat):Int):=H 14 ae;have Q:i64.wrap ((t:Int)+16)=((t+16:Nat):Int):=H 16 ae;rw[N,O,P,Q];simp only[aB];exact⟨⟨aa,aa⟩,aa,⟨aa,aa⟩,aa,trivial,trivial,ae,trivial,trivial,ae,⟨aa,aa⟩,aa,⟨aa,aa⟩,aa,⟨aa,aa⟩,aa,ao ⟨⟨t+1,C,rfl,by rw[A];rfl⟩,aa⟩⟩
  ·have:t=48:=by have:=Odf h;omega
   rw[A,this]
 rintro⟨i2,q⟩ K;revert i2 q;intro (i2:Int) (q:List Int) (D:q=G8 z 48);refine bd u mixed 2 (Pw n l p o q (0,n)) True ?_ (fun _=>?_);refine al (X:=((Pw n l p o q ((0:Int),n)).ag True)) ab ?_;exact ao trivial;have x0:q.length=64:=by rw[D,PN,I]
 refine cd u mixed h9 (fun r=>(bg (.int .i64) 92 r,cU uK 57 r)) (Pw n l p o q) (fun g=>∃ j:Nat,j<=64/\g.1=(j:Int)/\g.2=CK q n j) (fun g=>64-g.1.toNat)
  (fun r=>(bg (.int .i64) 92 r,cU uK 57 r)) (Pw n l p o q) (fun g=>g.2=CK q n 64) (0,n) (c:=aq (ak Tryz.f177) 8) ab ab (aw ab ab ?_) ?_ ?_
 exact⟨0,ae,rfl,rfl⟩
 ·rintro⟨j,v⟩ L;revert j v;intro (j:Int) (v:List Int) ⟨t,W,y,ev⟩;have y:j=(t:Int):=y;have kv:v=CK q n t:=ev;subst y;have Y:v.length=8:=by rw[kv,PK _ V]
  obtain⟨a,b,c,d,e,f,g,h,rfl⟩:=eight Y;refine al (X:=((decide ((t:Int)<(64:Int))=true->True/\True/\True/\((0:Int)<=(t:Int)/\(t:Int)<(↑(64:Nat):Int))/\(t:Int).toNat<jD.length/\((0:Int)<=(t:Int)/\(t:Int)<(↑(64:Nat):Int))/\(t:Int).toNat<(64:Nat)/\True/\True/\True/\(Pw n l p o q (i64.wrap ((t:Int)+(1:Int)),[u32.wrap (u32.wrap (u32.wrap (h+aF BinOp.xor u32 (aF BinOp.xor u32 (hV e (-6:Int),()).fst (hV e (-11:Int),()).fst) (hV e (-25:Int),()).fst)+u32.wrap (u32.wrap (aF BinOp.xor u32 (aF BinOp.and u32 e f) (aF BinOp.and u32 (aF BinOp.xor u32 (if u32.signed=true then (-1:Int) else u32.max) e) g)+jD.getD (t:Int).toNat (0:Int))+q.getD (t:Int).toNat (0:Int)))+u32.wrap (aF BinOp.xor u32 (aF BinOp.xor u32 (hV a (-2:Int),()).fst (hV a (-13:Int),()).fst) (hV a (-22:Int),()).fst+aF BinOp.xor u32 (aF BinOp.xor u32 (aF BinOp.and u32 a b) (aF BinOp.and u32 a c)) (aF BinOp.and u32 b c))),a,b,c,u32.wrap (d+u32.wrap (u32.wrap (h+aF BinOp.xor u32 (aF BinOp.xor u32 (hV e (-6:Int),()).fst (hV e (-11:Int),()).fst) (hV e (-25:Int),()).fst)+u32.wrap (u32.wrap (aF BinOp.xor u32 (aF BinOp.and u32 e f) (aF BinOp.and u32 (aF BinOp.xor u32 (if u32.signed=true then (-1:Int) else u32.max) e) g)+jD.getD (t:Int).toNat (0:Int))+q.getD (t:Int).toNat (0:Int)))),e,f,g])).ag ((∃ j,j<=(64:Nat)/\i64.wrap ((t:Int)+(1:Int))=(j:Int)/\[u32.wrap (u32.wrap (u32.wrap (h+aF BinOp.xor u32 (aF BinOp.xor u32 (hV e (-6:Int)) (hV e (-11:Int))) (hV e (-25:Int)))+u32.wrap (u32.wrap (aF BinOp.xor u32 (aF BinOp.and u32 e f) (aF BinOp.and u32 (aF BinOp.xor u32 (if u32.signed=true then (-1:Int) else u32.max) e) g)+jD.getD (t:Int).toNat (0:Int))+q.getD (t:Int).toNat (0:Int)))+u32.wrap (aF BinOp.xor u32 (aF BinOp.xor u32 (hV a (-2:Int)) (hV a (-13:Int))) (hV a (-22:Int))+aF BinOp.xor u32 (aF BinOp.xor u32 (aF BinOp.and u32 a b) (aF BinOp.and u32 a c)) (aF BinOp.and u32 b c))),a,b,c,u32.wrap (d+u32.wrap (u32.wrap (h+aF BinOp.xor u32 (aF BinOp.xor u32 (hV e (-6:Int)) (hV e (-11:Int))) (hV e (-25:Int)))+u32.wrap (u32.wrap (aF BinOp.xor u32 (aF BinOp.and u32 e f) (aF BinOp.and u32 (aF BinOp.xor u32 (if u32.signed=true then (-1:Int) else u32.max) e) g)+jD.getD (t:Int).toNat (0:Int))+q.getD (t:Int).toNat (0:Int)))),e,f,g]=CK q n j)/\(64:Nat)-(i64.wrap ((t:Int)+(1:Int))).toNat<(64:Nat)-(t:Int).toNat))/\(decide ((t:Int)<(64:Int))=false->(Pw n l p o q ((t:Int),[a,b,c,d,e,f,g,h])).ag ([a,b,c,d,e,f,g,h]=CK q n (64:Nat))))) ab ?_;refine⟨fun T=>?_,fun T=>ao ?_⟩
  ·have C:t<64:=by have:=Odt T;omega
   have x1:jD.length=64:=rfl;rw[aS aa,aB];exact⟨trivial,trivial,trivial,⟨aa,aa⟩,aa,⟨aa,aa⟩,aa,trivial,trivial,trivial,ao ⟨⟨t+1,C,rfl,by show _=vC q (CK q n t) t;rw[<- kv];rfl⟩,by rw[aB];omega⟩⟩
  ·have:t=64:=by have:=Odf T;omega
   rw[kv,this]
 rintro⟨i3,v⟩ hv;revert i3 v;intro (i3:Int) (v:List Int) (hv:v=CK q n 64);refine bd u mixed 1 (Px l o q v (0,n)) True ?_ (fun _=>?_);refine al (X:=((Px l o q v ((0:Int),n)).ag True)) ab ?_;exact ao trivial;refine cd u mixed h9 (fun r=>(bg (.int .i64) 172 r,(pP kZ 0 r).1)) (Px l o q v) (fun g=>∃ j:Nat,j<=8/\g.1=(j:Int)/\g.2=FO v n j) (fun g=>8-g.1.toNat)
  (fun r=>(bg (.int .i64) 172 r,(pP kZ 0 r).1)) (Px l o q v) (fun g=>g.2=FO v n 8) (0,n) (c:=aq (ak Tryz.f177) 10) ab ab (aw ab ab ?_) ?_ ?_
 exact⟨0,ae,rfl,rfl⟩
 ·rintro⟨j,s⟩ L;revert j s;intro (j:Int) (s:List Int) ⟨t,W,y,es⟩;have y:j=(t:Int):=y;have ks:s=FO v n t:=es;subst y;refine al (X:=((decide ((t:Int)<(8:Int))=true->((0:Int)<=(t:Int)/\(t:Int)<(↑(8:Nat):Int))/\(t:Int).toNat<(8:Nat)/\((0:Int)<=(t:Int)/\(t:Int)<(↑(8:Nat):Int))/\(t:Int).toNat<(8:Nat)/\((0:Int)<=(t:Int)/\(t:Int)<(↑(8:Nat):Int))/\(t:Int).toNat<(8:Nat)/\(Px l o q v (i64.wrap ((t:Int)+(1:Int)),(s.set (t:Int).toNat (u32.wrap (s.getD (t:Int).toNat (0:Int)+v.getD (t:Int).toNat (0:Int))),l,o).fst)).ag ((∃ j,j<=(8:Nat)/\i64.wrap ((t:Int)+(1:Int))=(j:Int)/\s.set (t:Int).toNat (u32.wrap (s.getD (t:Int).toNat (0:Int)+v.getD (t:Int).toNat (0:Int)))=FO v n j)/\(8:Nat)-(i64.wrap ((t:Int)+(1:Int))).toNat<(8:Nat)-(t:Int).toNat))/\(decide ((t:Int)<(8:Int))=false->(Px l o q v ((t:Int),(s,l,o).fst)).ag (s=FO v n (8:Nat))))) ab ?_;refine⟨fun h=>?_,fun h=>ao ?_⟩
  ·have C:t<8:=by have:=Odt h;omega
   rw[aS aa,aB];exact⟨⟨aa,aa⟩,C,⟨aa,aa⟩,C,⟨aa,aa⟩,C,ao ⟨⟨t+1,C,rfl,by rw[ks];rfl⟩,by rw[aB];omega⟩⟩
  ·have:t=8:=by have:=Odf h;omega
   rw[ks,this]
 rintro⟨i4,s⟩ hs;revert i4 s;intro (i4:Int) (s:List Int) (hs:s=FO v n 8);refine bE u mixed _ _ ?_;refine al (X:=(((s,l,o),())=((fH n p,l,o),()))) ab ?_;show ((s,l,o),())=((fH n p,l,o),());rw[hs,hv,D,F,fH,bf,Y2]
def Uq:Nat × Eng.Spec:=(177,vA dE kZ [.arr 64 bK] [] (fun _=>True) (fun ((b,a,d),p,_)=>((fH b p,a,d),())))
end sha
end Go.Proofs.YtofofalgjibokaaGreatDoor
namespace Cr
open Go.IntKind(i64)
open Go.IntKind(i64 u8)
open Go.IntKind(i64 u64 u32)
section
variable (tk:List Int->List Int->List Int) (first:List Int)
def nj (a b:List Int):Nat->List Int
 | 0=>a
 | k+1=>tk (nj a b k) ((b.drop (64*k)).take 64)
theorem Ed (a X Y:List Int):∀ j,64*j<=X.length->nj tk a (X++Y) j=nj tk a X j
 | 0,_=>rfl
 | j+1,h=>by show tk _ _=tk _ _;rw[Ed a X Y j aa,qe aa,lR (by rw[gm];omega)]
theorem zg (a X Y:List Int) (k:Nat) (c:X.length=64*k):∀ j,nj tk a (X++Y) (k+j)=nj tk (nj tk a X k) Y j
 | 0=>Ed tk a X Y k aa
 | j+1=>by show tk (nj tk a (X++Y) (k+j)) _=tk _ _;rw[zg a X Y k c j];congr 2;have b:X.length<=64*(k+j):=aa;rw[show k.add j=k+j from rfl,oA,A4 b,dH];congr 1;omega
def dC (L:List Int):List Int:=L.drop (64*(L.length/64))
def Hs (L:List Int):List Int:=nj tk first L (L.length/64)
theorem lO (L:List Int):(dC L).length=L.length%64:=by rw[dC,gm];omega
theorem uX (X Y:List Int) (k:Nat) (a:X.length=64*k):dC (X++Y)=dC Y:=by rw[dC,dC,bb,oA,A4 aa,dH];congr 1;omega
theorem Kh (X Y:List Int) (k:Nat) (a:X.length=64*k):Hs tk first (X++Y)=nj tk (nj tk first X k) Y (Y.length/64):=by rw[Hs,bb,show (X.length+Y.length)/64=k+Y.length/64 by omega,zg tk first X Y k a]
def k9 (d a b:List Int):List Int × List Int:=(nj tk d b (b.length/64),dC b++a.drop (dC b).length)
def kf (e a:List Int) (d:Int) (b:List Int):List Int × List Int × Int :=
 match decide ((d%64).toNat=0) with
 | true=>((k9 tk (bif decide (d=0) then first else e) a b).1,(k9 tk (bif decide (d=0) then first else e) a b).2,d+b.length)
 | false=>match decide ((d%64).toNat+b.length<64) with
  | true=>(e,a.take (d%64).toNat++(b++a.drop ((d%64).toNat+b.length)),d+b.length)
  | false=>((k9 tk (tk e (a.take (d%64).toNat++b.take (64-(d%64).toNat))) (a.take (d%64).toNat++b.take (64-(d%64).toNat)) (b.drop (64-(d%64).toNat))).1,
    (k9 tk (tk e (a.take (d%64).toNat++b.take (64-(d%64).toNat))) (a.take (d%64).toNat++b.take (64-(d%64).toNat)) (b.drop (64-(d%64).toNat))).2,d+b.length)
def uy (L:List Int) (b a:List Int) (d:Int):Prop:=d=(L.length:Int)/\a.length=64/\(L≠[]->b=Hs tk first L)/\a.take (L.length%64)=dC L
theorem Xu (b a:List Int) (h:a.length=64):uy tk first [] b a 0:=⟨rfl,h,fun h=>absurd rfl h,by simp[dC]⟩
theorem abB {L f a:List Int} {p:Int} (h:uy tk first L f a p) (b:List Int):uy tk first (L++b) (kf tk first f a p b).1 (kf tk first f a p b).2.1 (kf tk first f a p b).2.2:=by
 obtain⟨C,r,t,u⟩:=h;subst C;have E:(((L.length:Int))%64).toNat=L.length%64:=aa;have c:L=L.take (64*(L.length/64))++dC L:=(dR _ L).symm;have d:(L.take (64*(L.length/64))).length=64*(L.length/64):=by rw[cX];omega
 unfold kf;rw[E];have i:(L.length:Int)+(b.length:Int)=((L++b).length:Int):=by rw[bb];omega
 cases y:decide (L.length%64=0) with
 | true =>
  have q:L.length%64=0:=Odt y;have G:dC L=[]:=dP (by rw[lO,q]);have w:L.length=64*(L.length/64):=aa;have F:(bif decide ((L.length:Int)=0) then first else f)=nj tk first L (L.length/64):=by
   cases L with
   | nil=>rfl
   | cons x l=>rw[cp (by simp only[bG];omega),cond_false];exact t au
  refine⟨i,?_,fun _=>?_,?_⟩;show (dC b++a.drop _).length=64;rw[bb,gm,lO,r];omega;show nj tk _ b (b.length/64)=_;rw[F,Kh tk first L b _ w];show (dC b++a.drop _).take _=_;rw[uX L b _ w,bb,show (L.length+b.length)%64=(dC b).length by rw[lO];omega,lr rfl]
 | false =>
  have q:L.length%64≠0:=Odf y;have s:L≠[]:=by rintro rfl;exact q rfl
  have n:f=nj tk first (L.take (64*(L.length/64))) (L.length/64):=by rw[t s,Hs];have:=Ed tk first (L.take (64*(L.length/64))) (dC L) (L.length/64) aa;rw[<- c] at this;exact this
  have g:L++b=L.take (64*(L.length/64))++(dC L++b):=by rw[<- cB,<- c]
  cases k:decide (L.length%64+b.length<64) with
  | true =>
   have D:L.length%64+b.length<64:=Odt k;refine⟨i,?_,fun _=>?_,?_⟩;show (a.take _++(b++a.drop _)).length=64;rw[bb,bb,gm,cX,r];omega;show f=_;rw[g,Kh tk first _ _ _ d,<- n,show (dC L++b).length/64=0 by rw[bb,lO];omega];rfl
   ·show (a.take _++(b++a.drop _)).take _=_;rw[g,uX _ _ _ d];have z:dC (dC L++b)=dC L++b:=by
     rw[dC,show (dC L++b).length/64=0 by rw[bb,lO];omega];rfl
    have A:(L.take (64*(L.length/64))++(dC L++b)).length%64=(dC L++b).length:=by rw[bb,bb,lO,d];omega
    rw[z,u,A,<- cB];exact lr rfl
  | false =>
   have D:¬ L.length%64+b.length<64:=Odf k;have m:(a.take (L.length%64)++b.take (64-L.length%64)).length=64:=by rw[bb,cX,cX,r];omega
   have j:L++b=(L.take (64*(L.length/64))++(a.take (L.length%64)++b.take (64-L.length%64)))++b.drop (64-L.length%64):=by rw[u,cB,cB,dR];exact g
   have e:(L.take (64*(L.length/64))++(a.take (L.length%64)++b.take (64-L.length%64))).length=64*(L.length/64+1):=by rw[bb,m,d];omega
   have o:nj tk first (L.take (64*(L.length/64))++(a.take (L.length%64)++b.take (64-L.length%64))) (L.length/64+1)=tk f (a.take (L.length%64)++b.take (64-L.length%64)):=by rw[zg tk first _ _ _ d 1,<- n];show tk f _=_;rw[Nat.mul_zero,gT,bQ aa]
   refine⟨i,?_,fun _=>?_,?_⟩;show (dC _++drop _ (_++_)).length=64;rw[bb,gm,lO,m];omega;show nj tk _ _ _=_;rw[j,Kh tk first _ _ _ e,o];show (dC _++drop _ (_++_)).take _=_;rw[j,uX _ _ _ e];rw[show (L.take (64*(L.length/64))++(a.take (L.length%64)++b.take (64-L.length%64))++b.drop (64-L.length%64)).length%64=(dC (b.drop (64-L.length%64))).length by rw[lO,bb,e];omega,lr rfl]
end
end Cr
open Go Go.Eng Go.RowKit Cr
namespace Go.Proofs.YtofofalgjibokaaGreatDoor
namespace sha
open Go.IntKind(i64)
open Go.IntKind(i64 u8)
open Go.IntKind(i64 u64 u32)
def iP (n:Nat):List Int:=128::(replicate ((64+55-n%64)%64) 0++(range 8).map fun i=>((n:Int)*8)/2^(56-8*i)%256)
def WD (s:List Int):List Int:=(range 32).map fun i=>IntKind.u8.wrap ((s.getD (i/4) 0).fdiv (2^(24-8*(i%4))))
def aca (L:List Int):List Int:=WD (Hs fH ep (L++iP L.length))
def IW (L:List Int):List Int:=eS (aca L)
theorem BK:enters Tryz.prog 160 Tryz.f160:=ek
def cL (e d:List Int) (f:Int) (b:List Int):aA kZ:=eS (kf fH ep e d f b)
theorem MM {L d a:List Int} {e:Int} (h:uy fH ep L d a e) (b:List Int):uy fH ep (L++b) (cL d a e b).1 (cL d a e b).2.1 (cL d a e b).2.2:=by rw[cL,bf];exact abB fH ep h b
theorem RR (d a b:List Int) (h:64<=b.length):k9 fH (fH d (b.take 64)) a (b.drop 64)=k9 fH d a b:=by
 have f:b.take 64++b.drop 64=b:=dR _ _;have g:(b.take 64).length=64*1:=by rw[cX];omega
 have i:dC (b.drop 64)=dC b:=by have:=uX (b.take 64) (b.drop 64) 1 g;rw[f] at this;exact this.symm
 have j:nj fH (fH d (b.take 64)) (b.drop 64) ((b.drop 64).length/64)=nj fH d b (b.length/64):=by
  have:=zg fH d (b.take 64) (b.drop 64) 1 g ((b.drop 64).length/64);rw[f] at this;have e:nj fH d (b.take 64) 1=fH d (b.take 64):=by show fH d _=_;rw[Nat.mul_zero,gT,lv];rfl
  rw[e] at this;rw[<- this];congr 1;rw[gm];omega
 unfold k9;rw[i,j]
abbrev Wg:Type:=(List Int × List Int × Int) × List Int
def Hb (g:Wg):St:=ar Tryz.f160.ntmps 201 [(0,.is (.one (.ptr 0 0))),(1,.is (.one (.ro bK g.2)))] [(0,[.ints .u32 8 g.1.1,.ints .u8 64 g.1.2.1,.v (.int .i64 g.1.2.2)])]
abbrev J5:aA kZ × HL [.sl bK]->Prop:=fun ((_,_,d),b,_)=>(0:Int)<=d/\d<=(1152921504606846976:Int)/\length b<=1152921504606846976
def AQ (d a:List Int) (e:Int) (b:List Int) (g:Wg):Prop:=((k9 fH g.1.1 g.1.2.1 g.2).1,(k9 fH g.1.1 g.1.2.1 g.2).2,g.1.2.2)=cL d a e b/\g.1.2.1.length=64
theorem PU {e a:List Int} {d:Int} {b:List Int} (h:(d%64).toNat=0):cL e a d b=((k9 fH (bif decide (d=0) then ep else e) a b).1,(k9 fH (bif decide (d=0) then ep else e) a b).2,d+b.length):=by rw[cL,bf,kf,bX h]
theorem abF {f d:List Int} {e:Int} {b:List Int} {a:Nat} (i:a=(e%64).toNat) (h:a≠0) (g:a+b.length<64):cL f d e b=(f,d.take a++(b++d.drop (a+b.length)),e+b.length):=by subst i;rw[cL,bf,kf,cp h,bX g]
theorem abG {e d:List Int} {f:Int} {b:List Int} {a:Nat} (i:a=(f%64).toNat) (h:a≠0) (g:¬a+b.length<64):cL e d f b =
  ((k9 fH (fH e (d.take a++b.take (64-a))) (d.take a++b.take (64-a)) (b.drop (64-a))).1,(k9 fH (fH e (d.take a++b.take (64-a))) (d.take a++b.take (64-a)) (b.drop (64-a))).2,f+b.length):=by
 subst i;rw[cL,bf,kf,cp h,cp g]
theorem zv:CR Tryz.prog 160 kZ [.sl bK] [] dE J5 (fun ((m,d,e),b,_)=>(cL m d e b,())):=by
 have E:aD Tryz.prog (aP [Uq]):=aJ (th aac) bp;refine BP (sp:=aP [Uq]) BK ae ae ab ?_;rintro w M0 b0 ⟨m,d,e⟩ ⟨b,⟨⟩⟩;revert m d e b;intro (m:List Int) (d:List Int) (e:Int) (b:List Int) Y x2 hp;obtain⟨D,nN,V⟩:=hp;have D:(0:Int)<=e:=D;have nN:e<=(1152921504606846976:Int):=nN;have V:b.length<=1152921504606846976:=V;have x1:m.length=8:=Y.1.1;have L:d.length=64:=Y.2.1.1;show Tr _ _ _ _ _ _ _;refine jO E mixed 8 (fun A=>(pP kZ 0 A,GB bK 1 A)) Hb (AQ m d e b) ?_ ?_
 ·refine al (X:=(((e==0)=true->0<[ep].length/\((64:Int)=0->False)/\(decide (e.tmod (64:Int)>0)=true->(0<=e.tmod 64/\e.tmod 64<=(↑(64:Nat):Int))/\(e.tmod 64).toNat+((↑(64:Nat):Int)-e.tmod 64).toNat<=64/\(decide (i64.wrap (e.tmod 64+(↑(b.length.min ((↑(64:Nat):Int)-e.tmod 64).toNat):Int))<64)=true->(([1779033703,3144134277,1013904242,2773480762,1359893119,2600822924,528734635,1541459225],take (e.tmod 64).toNat d++(take (b.length.min ((↑(64:Nat):Int)-e.tmod 64).toNat) b++drop ((e.tmod 64).toNat+b.length.min ((↑(64:Nat):Int)-e.tmod 64).toNat) d),i64.wrap (e+(b.length:Int))),())=(cL m d e b,()))/\(decide (i64.wrap (e.tmod 64+(↑(b.length.min ((↑(64:Nat):Int)-e.tmod 64).toNat):Int))<64)=false->(0<=(↑(b.length.min ((↑(64:Nat):Int)-e.tmod 64).toNat):Int)/\(↑(b.length.min ((↑(64:Nat):Int)-e.tmod 64).toNat):Int)<=(b.length:Int))/\(∀ (g:Nat) (s:Sigma aA),dE g=some s->Decidable.rec (fun h=>(fun x=>if g=1 then some ⟨Kd.arr 64 uK,jD⟩ else none) h) (fun h=>(fun x=>some ⟨Kd.arr 8 uK,ep⟩) h) (instDecidableEqNat g 0)=some s)/\True/\(Hb ((fH ep (take (e.tmod 64).toNat d++(take (b.length.min ((↑(64:Nat):Int)-e.tmod 64).toNat) b++drop ((e.tmod 64).toNat+b.length.min ((↑(64:Nat):Int)-e.tmod 64).toNat) d)),take (e.tmod 64).toNat d++(take (b.length.min ((↑(64:Nat):Int)-e.tmod 64).toNat) b++drop ((e.tmod 64).toNat+b.length.min ((↑(64:Nat):Int)-e.tmod 64).toNat) d),i64.wrap (e+(b.length:Int))),take ((b.length:Int)-(↑(b.length.min ((↑(64:Nat):Int)-e.tmod 64).toNat):Int)).toNat (drop (↑(b.length.min ((↑(64:Nat):Int)-e.tmod 64).toNat):Int).toNat b))).ag (AQ m d e b ((fH ep (take (e.tmod 64).toNat d++(take (b.length.min ((↑(64:Nat):Int)-e.tmod 64).toNat) b++drop ((e.tmod 64).toNat+b.length.min ((↑(64:Nat):Int)-e.tmod 64).toNat) d)),take (e.tmod 64).toNat d++(take (b.length.min ((↑(64:Nat):Int)-e.tmod 64).toNat) b++drop ((e.tmod 64).toNat+b.length.min ((↑(64:Nat):Int)-e.tmod 64).toNat) d),i64.wrap (e+(b.length:Int))),take ((b.length:Int)-(↑(b.length.min ((↑(64:Nat):Int)-e.tmod 64).toNat):Int)).toNat (drop (↑(b.length.min ((↑(64:Nat):Int)-e.tmod 64).toNat):Int).toNat b)))))/\(decide (e.tmod (64:Int)>0)=false->(Hb (([1779033703,3144134277,1013904242,2773480762,1359893119,2600822924,528734635,1541459225],d,i64.wrap (e+(b.length:Int))),b)).ag (AQ m d e b (([1779033703,3144134277,1013904242,2773480762,1359893119,2600822924,528734635,1541459225],d,i64.wrap (e+(b.length:Int))),b))))/\((e==0)=false->((64:Int)=0->False)/\(decide (e.tmod (64:Int)>0)=true->(0<=e.tmod 64/\e.tmod 64<=(↑(64:Nat):Int))/\(e.tmod 64).toNat+((↑(64:Nat):Int)-e.tmod 64).toNat<=64/\(decide (i64.wrap (e.tmod 64+(↑(b.length.min ((↑(64:Nat):Int)-e.tmod 64).toNat):Int))<64)=true->((m,take (e.tmod 64).toNat d++(take (b.length.min ((↑(64:Nat):Int)-e.tmod 64).toNat) b++drop ((e.tmod 64).toNat+b.length.min ((↑(64:Nat):Int)-e.tmod 64).toNat) d),i64.wrap (e+(b.length:Int))),())=(cL m d e b,()))/\(decide (i64.wrap (e.tmod 64+(↑(b.length.min ((↑(64:Nat):Int)-e.tmod 64).toNat):Int))<64)=false->(0<=(↑(b.length.min ((↑(64:Nat):Int)-e.tmod 64).toNat):Int)/\(↑(b.length.min ((↑(64:Nat):Int)-e.tmod 64).toNat):Int)<=(b.length:Int))/\(∀ (g:Nat) (s:Sigma aA),dE g=some s->Decidable.rec (fun h=>(fun x=>if g=1 then some ⟨Kd.arr 64 uK,jD⟩ else none) h) (fun h=>(fun x=>some ⟨Kd.arr 8 uK,ep⟩) h) (instDecidableEqNat g 0)=some s)/\True/\(Hb ((fH m (take (e.tmod 64).toNat d++(take (b.length.min ((↑(64:Nat):Int)-e.tmod 64).toNat) b++drop ((e.tmod 64).toNat+b.length.min ((↑(64:Nat):Int)-e.tmod 64).toNat) d)),take (e.tmod 64).toNat d++(take (b.length.min ((↑(64:Nat):Int)-e.tmod 64).toNat) b++drop ((e.tmod 64).toNat+b.length.min ((↑(64:Nat):Int)-e.tmod 64).toNat) d),i64.wrap (e+(b.length:Int))),take ((b.length:Int)-(↑(b.length.min ((↑(64:Nat):Int)-e.tmod 64).toNat):Int)).toNat (drop (↑(b.length.min ((↑(64:Nat):Int)-e.tmod 64).toNat):Int).toNat b))).ag (AQ m d e b ((fH m (take (e.tmod 64).toNat d++(take (b.length.min ((↑(64:Nat):Int)-e.tmod 64).toNat) b++drop ((e.tmod 64).toNat+b.length.min ((↑(64:Nat):Int)-e.tmod 64).toNat) d)),take (e.tmod 64).toNat d++(take (b.length.min ((↑(64:Nat):Int)-e.tmod 64).toNat) b++drop ((e.tmod 64).toNat+b.length.min ((↑(64:Nat):Int)-e.tmod 64).toNat) d),i64.wrap (e+(b.length:Int))),take ((b.length:Int)-(↑(b.length.min ((↑(64:Nat):Int)-e.tmod 64).toNat):Int)).toNat (drop (↑(b.length.min ((↑(64:Nat):Int)-e.tmod 64).toNat):Int).toNat b)))))/\(decide (e.tmod (64:Int)>0)=false->(Hb ((m,d,i64.wrap (e+(b.length:Int))),b)).ag (AQ m d e b ((m,d,i64.wrap (e+(b.length:Int))),b)))))) ab ?_;obtain⟨a,ha,U,H⟩:∃ a:Nat,e.tmod 64=(a:Int)/\a<64/\a=(e%64).toNat:=⟨(e%64).toNat,by rw[m9 D];omega,aa,rfl⟩;have N:((↑(64:Nat):Int)-(a:Int)).toNat=64-a:=aa;have Z:i64.wrap (e+(b.length:Int))=e+b.length:=ba aa aa;rw[ha,N,Z];obtain⟨n,W⟩:∃ n,n=b.length.min (64-a):=⟨_,rfl⟩;have x0:n=min b.length (64-a):=W;have O:i64.wrap ((a:Int)+(n:Int))=((a+n:Nat):Int):=by rw[ba aa aa];omega
  rw[<- W,O];simp only[aB];refine⟨fun u=>⟨ae,ae,fun o=>?_,fun R=>ao ?_⟩,fun u=>⟨ae,fun o=>⟨⟨aa,aa⟩,aa,fun t=>?_,fun I=>⟨⟨aa,aa⟩,fun _ _ h=>h,trivial,ao ?_⟩⟩,fun R=>ao ?_⟩⟩
  ·exfalso;have u:e=0:=by simpa using u
   have:=Odt o;subst u;omega
  ·have u:e=0:=by simpa using u
   refine⟨?_,L⟩;rw[PU aa,bX u];rfl
  have t:=Odt t;have o:=Odt o;have z:n=b.length:=aa;rw[abF H aa aa,z,bQ (aE _)]
  ·have I:=Odf I;have o:=Odt o;have z:n=64-a:=aa;have Q:d.take a++(b.take n++d.drop (a+n))=d.take a++b.take (64-a):=by
    rw[z,A4 aa,bq]
   have P:take ((b.length:Int)-(n:Int)).toNat (drop n b)=b.drop (64-a):=by rw[bQ (by rw[gm];omega),z]
   rw[Q,P];refine⟨?_,?_⟩;rw[abG H aa aa];show (d.take a++b.take (64-a)).length=64;rw[bb,cX,cX];omega
  ·have R:=Odf R;have u:¬ e=0:=by simpa using u
   refine⟨?_,L⟩;rw[PU aa,cp u];rfl
 rintro⟨⟨k,f,l⟩,j⟩ T;revert k f l j;intro (j:List Int) (k:List Int) (f:List Int) (l:Int) (T:AQ m d e b ((k,f,l),j));refine cd E mixed h9 (fun A=>(pP kZ 0 A,GB bK 1 A)) Hb (AQ m d e b) (fun g=>g.2.length)
  (fun A=>(pP kZ 0 A,GB bK 1 A)) Hb (fun g=>AQ m d e b g/\g.2.length<64) ((k,f,l),j) (c:=aq (ak Tryz.f160) 8) ab ab (aw ab ab ?_) ?_ ?_
 exact T
 ·rintro⟨⟨k,f,l⟩,j⟩ K;revert k f l j;intro (j:List Int) (k:List Int) (f:List Int) (l:Int) (K:AQ m d e b ((k,f,l),j));refine al (X:=((decide ((j.length:Int)>=64)=true->64<=j.length/\0+Tryz.prog.cellsOf 228/width bK<=j.length/\(∀ (g:Nat) (s:Sigma aA),dE g=some s->Decidable.rec (fun h=>(fun x=>if g=1 then some ⟨Kd.arr 64 uK,jD⟩ else none) h) (fun h=>(fun x=>some ⟨Kd.arr 8 uK,ep⟩) h) (instDecidableEqNat g 0)=some s)/\True/\((0:Int)<=64/\64<=(j.length:Int))/\(Hb ((fH k (take (Tryz.prog.cellsOf 228/width bK) j),f,l),take ((j.length:Int)-64).toNat (drop 64 j))).ag (AQ m d e b ((fH k (take (Tryz.prog.cellsOf 228/width bK) j),f,l),take ((j.length:Int)-64).toNat (drop 64 j))/\(take ((j.length:Int)-64).toNat (drop 64 j)).length<j.length))/\(decide ((j.length:Int)>=64)=false->(Hb ((k,f,l),j)).ag (AQ m d e b ((k,f,l),j)/\j.length<64)))) ab ?_;have F:Tryz.prog.cellsOf 228/width bK=64:=ab;obtain⟨y,C⟩:=K;refine⟨fun h=>?_,fun h=>ao ⟨⟨y,C⟩,by have:=Odf h;omega⟩⟩;have G:64<=j.length:=by have:=Odt h;omega
  have hd:take ((j.length:Int)-(64:Int)).toNat (drop 64 j)=j.drop 64:=bQ (by rw[gm];omega);show 64<=j.length/\0+Tryz.prog.cellsOf 228/width bK<=j.length/\_;rw[F,hd];refine⟨G,aa,fun _ _ h=>h,trivial,⟨aa,aa⟩,ao ⟨⟨?_,C⟩,?_⟩⟩;show ((k9 fH (fH k (take (Tryz.prog.cellsOf 228/width bK) j)) f (j.drop 64)).1,(k9 fH (fH k (take (Tryz.prog.cellsOf 228/width bK) j)) f (j.drop 64)).2,l)=_;rw[F,RR _ _ _ G];exact y;rw[gm];omega
 rintro⟨⟨q,i,r⟩,p⟩ K;revert q i r p;intro (p:List Int) (q:List Int) (i:List Int) (r:Int) (K:AQ m d e b ((q,i,r),p)/\p.length<64);refine bE E mixed _ _ ?_;refine al (X:=(0+64<=64/\((q,take 0 i++(take (p.length.min 64) p++drop (0+p.length.min 64) i),r),())=(cL m d e b,()))) ab ?_;obtain⟨⟨y,C⟩,t⟩:=K;have t:p.length<64:=t;refine⟨ae,?_⟩;have N:p.length.min 64=p.length:=iY aa;have O:dC p=p:=by rw[dC,show p.length/64=0 by omega];rfl
 rw[<- y,N];show ((q,take 0 i++(take p.length p++drop (0+p.length) i),r),())=(((k9 fH q i p).1,(k9 fH q i p).2,r),());unfold k9;rw[O,bQ (aE _),show p.length/64=0 by omega,bH];rfl
def Dw:Nat × Eng.Spec:=(160,vA dE kZ [.sl bK] [] J5 (fun ((e,d,f),b,_)=>(cL e d f b,())))
open Go.IntKind(i64 u64 u8 u32)
theorem Mt (f:Nat->Int) (p:List Int) (k n:Nat):(p++((range k).map f++replicate (n+1) 0)).set (p.length+k) (f k)=p++((range (k+1)).map f++replicate n 0):=by rw[qg _ _ aa,show p.length+k-p.length=k by omega,qg _ _ au];rw[show k-((range k).map f).length=0 by simp,oN,oy,qD,de,cB];rfl
theorem wrap_u8 (x:Int):u8.wrap x=x%256:=by simp only[IntKind.wrap,IntKind.signed,IntKind.bits];simp
theorem HG:enters Tryz.prog 161 Tryz.f161:=ek
def nn (b:Int):Nat:=(64+55-b.toNat%64)%64
def Ux (b:Int) (i:Nat):Int:=b*8/2^(56-8*i)%256
def sm (b:Int) (k:Nat):List Int:=(128::replicate (nn b) 0)++((range k).map (Ux b)++replicate (71-nn b-k) 0)
theorem Pz (b:Int) (h:0<=b):(sm b 8).take (1+nn b+8)=iP b.toNat:=by
 have e:sm b 8=((128::replicate (nn b) 0)++(range 8).map (Ux b))++replicate (71-nn b-8) 0:=by rw[sm,cB]
 rw[e,lr (by simp;omega)];have d:((b.toNat:Nat):Int)=b:=aa;unfold iP Ux nn;rw[d];rfl
def Pk (d b:List Int) (e:Int) (n:Int) (g:Int × List Int):St:=ar Tryz.f161.ntmps 129 [(0,.is (.one (.ptr 0 0))),(2,.is (.one (.ptr 1 0))),(3,.is (.one (.ptr 9 0))),(4,.is (.one (.ptr 33 0))),(5,sI .i64 n),(20,sI .i64 g.1)] [(33,[.ints .u8 72 g.2]),(9,[.ints .u8 32 (replicate 32 0)]),(1,[.ints .u8 32 (replicate 32 0)]),(0,[.ints .u32 8 d,.ints .u8 64 b,.v (.int .i64 e)])]
def Pl (d b:List Int) (e:Int) (y:aA kZ) (g:Int × List Int):St:=ar Tryz.f161.ntmps 217 [(2,.is (.one (.ptr 1 0))),(3,.is (.one (.ptr 9 0))),(7,.is (.one (.ptr 153 0))),(48,sI .i64 g.1)] [(153,[.ints .u32 8 y.1,.ints .u8 64 y.2.1,.v (.int .i64 y.2.2)]),(9,[.ints .u8 32 g.2]),(1,[.ints .u8 32 (replicate 32 0)]),(0,[.ints .u32 8 d,.ints .u8 64 b,.v (.int .i64 e)])]
def WE (s:List Int) (i:Nat):Int:=u8.wrap ((s.getD (i/4) 0).fdiv (2^(24-8*(i%4))))
def oK (s:List Int) (k:Nat):List Int:=[]++((range k).map (WE s)++replicate (32-k) 0)
def Fa (e b:List Int) (d:Int):List Int:=eS (WD (cL e b d (iP d.toNat)).1)
theorem Xv {L f a:List Int} {d:Int} (h:uy fH ep L f a d):Fa f a d=IW L:=by
 have e:d.toNat=L.length:=by have:=h.1;omega
 have k:=MM h (iP L.length);have b:L++iP L.length≠[]:=by simp[iP]
 rw[Fa,bf,IW,bf,aca,e,k.2.2.1 b]
theorem KY:CR Tryz.prog 161 kZ [] [.val (.arr 32 bK)] dE (fun ((_,_,b),_)=>(0:Int)<=b/\b<=(1152921504606846976:Int)) (fun ((f,d,b),_)=>((f,d,b),(Fa f d b,()))):=by
 have o:aD Tryz.prog (aP [Dw]):=aJ (th zv) bp;refine BP (sp:=aP [Dw]) HG ae ae ab ?_;rintro w M0 b0 ⟨f,d,b⟩ ⟨⟩;revert f d b;intro (f:List Int) (d:List Int) (b:Int) hw x1 T;have n:(0:Int)<=b:=T.1;have nN:b<=(1152921504606846976:Int):=T.2;have x0:nn b<64:=Nat.mod_lt _ ae;have I:(119-b.tmod 64).tmod 64=(nn b:Int):=by rw[m9 n,m9 aa];show _=(((64+55-b.toNat%64)%64:Nat):Int);omega
 have z:u64.wrap b=b:=by simp only[IntKind.wrap,IntKind.signed,IntKind.bits];simp;omega
 have K:u64.wrap (b*8)=b*8:=by simp only[IntKind.wrap,IntKind.signed,IntKind.bits];simp;omega
 show Tr _ _ _ _ _ _ _;refine jO o mixed 8 (fun j=>(bg (.int .i64) 5 j,cU bK 33 j)) (fun g=>Pk f d b g.1 (0,g.2)) (fun g=>g.1=(nn b:Int)/\g.2=sm b 0) ?_ ?_
 ·refine al (X:=((0:Nat)<(72:Nat)/\((64:Int)=(0:Int)->False)/\((64:Int)=(0:Int)->False)/\(Pk f d b ((i64.wrap ((119:Int)-b.tmod (64:Int))).tmod (64:Int),[(128:Int),(0:Int),(0:Int),(0:Int),(0:Int),(0:Int),(0:Int),(0:Int),(0:Int),(0:Int),(0:Int),(0:Int),(0:Int),(0:Int),(0:Int),(0:Int),(0:Int),(0:Int),(0:Int),(0:Int),(0:Int),(0:Int),(0:Int),(0:Int),(0:Int),(0:Int),(0:Int),(0:Int),(0:Int),(0:Int),(0:Int),(0:Int),(0:Int),(0:Int),(0:Int),(0:Int),(0:Int),(0:Int),(0:Int),(0:Int),(0:Int),(0:Int),(0:Int),(0:Int),(0:Int),(0:Int),(0:Int),(0:Int),(0:Int),(0:Int),(0:Int),(0:Int),(0:Int),(0:Int),(0:Int),(0:Int),(0:Int),(0:Int),(0:Int),(0:Int),(0:Int),(0:Int),(0:Int),(0:Int),(0:Int),(0:Int),(0:Int),(0:Int),(0:Int),(0:Int),(0:Int),(0:Int)]).fst ((0:Int),((i64.wrap ((119:Int)-b.tmod (64:Int))).tmod (64:Int),[(128:Int),(0:Int),(0:Int),(0:Int),(0:Int),(0:Int),(0:Int),(0:Int),(0:Int),(0:Int),(0:Int),(0:Int),(0:Int),(0:Int),(0:Int),(0:Int),(0:Int),(0:Int),(0:Int),(0:Int),(0:Int),(0:Int),(0:Int),(0:Int),(0:Int),(0:Int),(0:Int),(0:Int),(0:Int),(0:Int),(0:Int),(0:Int),(0:Int),(0:Int),(0:Int),(0:Int),(0:Int),(0:Int),(0:Int),(0:Int),(0:Int),(0:Int),(0:Int),(0:Int),(0:Int),(0:Int),(0:Int),(0:Int),(0:Int),(0:Int),(0:Int),(0:Int),(0:Int),(0:Int),(0:Int),(0:Int),(0:Int),(0:Int),(0:Int),(0:Int),(0:Int),(0:Int),(0:Int),(0:Int),(0:Int),(0:Int),(0:Int),(0:Int),(0:Int),(0:Int),(0:Int),(0:Int)]).snd)).ag ((i64.wrap ((119:Int)-b.tmod (64:Int))).tmod (64:Int)=(↑(nn b):Int)/\[(128:Int),(0:Int),(0:Int),(0:Int),(0:Int),(0:Int),(0:Int),(0:Int),(0:Int),(0:Int),(0:Int),(0:Int),(0:Int),(0:Int),(0:Int),(0:Int),(0:Int),(0:Int),(0:Int),(0:Int),(0:Int),(0:Int),(0:Int),(0:Int),(0:Int),(0:Int),(0:Int),(0:Int),(0:Int),(0:Int),(0:Int),(0:Int),(0:Int),(0:Int),(0:Int),(0:Int),(0:Int),(0:Int),(0:Int),(0:Int),(0:Int),(0:Int),(0:Int),(0:Int),(0:Int),(0:Int),(0:Int),(0:Int),(0:Int),(0:Int),(0:Int),(0:Int),(0:Int),(0:Int),(0:Int),(0:Int),(0:Int),(0:Int),(0:Int),(0:Int),(0:Int),(0:Int),(0:Int),(0:Int),(0:Int),(0:Int),(0:Int),(0:Int),(0:Int),(0:Int),(0:Int),(0:Int)]=sm b (0:Nat)))) ab ?_;have e:i64.wrap (119-b.tmod 64)=119-b.tmod 64:=by
   rw[m9 n];exact ba aa aa
  rw[e,I];refine⟨ae,ae,ae,ao ⟨rfl,?_⟩⟩;show _=(128::replicate (nn b) 0)++([]++replicate (71-nn b-0) 0);rw[dH,iX,List.replicate_append_replicate,show nn b+(71-nn b-0)=71 by omega];rfl
 rintro⟨N,O⟩ hK;revert N O;intro (N:Int) (O:List Int) ⟨D,G⟩;have D:N=(nn b:Int):=D;have G:O=sm b 0:=G;subst D G;refine cd o mixed h9 (fun j=>(bg (.int .i64) 20 j,cU bK 33 j)) (Pk f d b (nn b)) (fun g=>∃ k:Nat,k<=8/\g.1=(k:Int)/\g.2=sm b k) (fun g=>8-g.1.toNat)
  (fun j=>(bg (.int .i64) 20 j,cU bK 33 j)) (Pk f d b (nn b)) (fun g=>g.2=sm b 8) (0,sm b 0) (c:=aq (ak Tryz.f161) 8) ab ab (aw ab ab ?_) ?_ ?_
 exact⟨0,ae,rfl,rfl⟩
 ·rintro⟨i,l⟩ Y;revert i l;intro (i:Int) (l:List Int) ⟨k,Z,p,E⟩;have p:i=(k:Int):=p;have kl:l=sm b k:=E;subst p;refine al (X:=((decide ((k:Int)<(8:Int))=true->(0:Int)<=i64.wrap ((56:Int)-i64.wrap ((8:Int)*(k:Int)))/\((0:Int)<=i64.wrap (i64.wrap ((1:Int)+(↑(nn b):Int))+(k:Int))/\i64.wrap (i64.wrap ((1:Int)+(↑(nn b):Int))+(k:Int))<(↑(72:Nat):Int))/\(i64.wrap (i64.wrap ((1:Int)+(↑(nn b):Int))+(k:Int))).toNat<(72:Nat)/\(Pk f d b (↑(nn b):Int) (i64.wrap ((k:Int)+(1:Int)),l.set (i64.wrap (i64.wrap ((1:Int)+(↑(nn b):Int))+(k:Int))).toNat (u8.wrap ((u64.wrap (u64.wrap b*(8:Int))).fdiv ((2:Int)^min (i64.wrap ((56:Int)-i64.wrap ((8:Int)*(k:Int)))).toNat u64.bits))))).ag ((∃ m,m<=(8:Nat)/\i64.wrap ((k:Int)+(1:Int))=(m:Int)/\l.set (i64.wrap (i64.wrap ((1:Int)+(↑(nn b):Int))+(k:Int))).toNat (u8.wrap ((u64.wrap (u64.wrap b*(8:Int))).fdiv ((2:Int)^min (i64.wrap ((56:Int)-i64.wrap ((8:Int)*(k:Int)))).toNat u64.bits)))=sm b m)/\(8:Nat)-(i64.wrap ((k:Int)+(1:Int))).toNat<(8:Nat)-(k:Int).toNat))/\(decide ((k:Int)<(8:Int))=false->(Pk f d b (↑(nn b):Int) ((k:Int),l)).ag (l=sm b (8:Nat))))) ab ?_;refine⟨fun h=>?_,fun h=>ao ?_⟩
  ·have A:k<8:=by have:=Odt h;omega
   have q:i64.wrap (i64.wrap ((1:Int)+(nn b:Int))+(k:Int))=((1+nn b+k:Nat):Int):=by rw[ba (a:=1+(nn b:Int)) aa aa,ba aa aa];omega
   have r:i64.wrap (56-i64.wrap (8*(k:Int)))=((56-8*k:Nat):Int):=by rw[ba (a:=8*(k:Int)) aa aa,ba aa aa];omega
   rw[q,r,aS aa,z,K];simp only[aB];refine⟨aa,⟨aa,aa⟩,aa,ao ⟨⟨k+1,A,rfl,?_⟩,aa⟩⟩;have ev:u8.wrap ((b*8).fdiv (2^min (56-8*k) u64.bits))=Ux b k:=by have H:min (56-8*k) u64.bits=56-8*k:=iY (show 56-8*k<=64 by omega);rw[wrap_u8,H,sr _ (eJ (Int.pow_pos ae))];rfl
   rw[ev,kl,sm,sm,show 71-nn b-k=(71-nn b-(k+1))+1 by omega];have:=Mt (Ux b) (128::replicate (nn b) 0) k (71-nn b-(k+1));rw[show (128::replicate (nn b) (0:Int)).length=1+nn b by simp;omega] at this;exact this
  ·have:k=8:=by have:=Odf h;omega
   rw[kl,this]
 rintro⟨V,L⟩ t;revert V L;intro (V:Int) (L:List Int) (t:L=sm b 8);subst t;refine jO o mixed 3 (fun j=>pP kZ 153 j) (fun y=>Pl f d b y (0,replicate 32 0)) (fun y=>y=cL f d b (iP b.toNat)) ?_ ?_
 ·refine al (X:=(((0:Int)<=i64.wrap (i64.wrap ((1:Int)+(↑(nn b):Int))+(8:Int))/\i64.wrap (i64.wrap ((1:Int)+(↑(nn b):Int))+(8:Int))<=(↑(72:Nat):Int))/\(∀ (g:Nat) (s:Sigma aA),dE g=some s->Decidable.rec (fun h=>(fun x=>if g=(1:Nat) then some ⟨Kd.arr (64:Nat) uK,jD⟩ else none) h) (fun h=>(fun x=>some ⟨Kd.arr (8:Nat) uK,ep⟩) h) (instDecidableEqNat g (0:Nat))=some s)/\(0:Nat)+(i64.wrap (i64.wrap ((1:Int)+(↑(nn b):Int))+(8:Int))-(0:Int)).toNat<=(72:Nat)/\J5 ((f,d,b),take (i64.wrap (i64.wrap ((1:Int)+(↑(nn b):Int))+(8:Int))-(0:Int)).toNat (sm b (8:Nat)),())/\(Pl f d b (cL f d b (take (i64.wrap (i64.wrap ((1:Int)+(↑(nn b):Int))+(8:Int))-(0:Int)).toNat (sm b (8:Nat)))) ((0:Int),replicate (32:Nat) (0:Int))).ag (cL f d b (take (i64.wrap (i64.wrap ((1:Int)+(↑(nn b):Int))+(8:Int))-(0:Int)).toNat (sm b (8:Nat)))=cL f d b (iP b.toNat)))) ab ?_;have q:i64.wrap (i64.wrap ((1:Int)+(nn b:Int))+8)=((1+nn b+8:Nat):Int):=by
   rw[ba (a:=1+(nn b:Int)) aa aa,ba aa aa];omega
  have r:(((1+nn b+8:Nat):Int)-0).toNat=1+nn b+8:=aa;rw[q,r,Pz b n];refine⟨⟨aa,aa⟩,fun _ _ h=>h,aa,⟨n,nN,?_⟩,ao rfl⟩;show (iP b.toNat).length<=_;rw[<- Pz b n,cX];omega
 rintro⟨P,Q,R⟩ U;revert P Q R;intro (P:List Int) (Q:List Int) (R:Int) (U:(P,Q,R)=cL f d b (iP b.toNat));rw[U];refine cd o mixed h9 (fun j=>(bg (.int .i64) 48 j,cU bK 9 j)) (Pl f d b (cL f d b (iP b.toNat))) (fun g=>∃ k:Nat,k<=32/\g.1=(k:Int)/\g.2=oK (cL f d b (iP b.toNat)).1 k) (fun g=>32-g.1.toNat)
  (fun j=>(bg (.int .i64) 48 j,cU bK 9 j)) (Pl f d b (cL f d b (iP b.toNat))) (fun g=>g.2=oK (cL f d b (iP b.toNat)).1 32) (0,replicate 32 0) (c:=aq (ak Tryz.f161) 12) ab ab (aw ab ab ?_) ?_ ?_
 exact⟨0,ae,rfl,rfl⟩
 ·rintro⟨i,l⟩ Y;revert i l;intro (i:Int) (l:List Int) ⟨k,Z,p,E⟩;have p:i=(k:Int):=p;have kl:l=oK (cL f d b (iP b.toNat)).1 k:=E;subst p;refine al (X:=((decide ((k:Int)<(32:Int))=true->((4:Int)=(0:Int)->False)/\((0:Int)<=i64.wrap ((k:Int).tdiv (4:Int))/\i64.wrap ((k:Int).tdiv (4:Int))<(↑(8:Nat):Int))/\(i64.wrap ((k:Int).tdiv (4:Int))).toNat<(8:Nat)/\((4:Int)=(0:Int)->False)/\(0:Int)<=i64.wrap ((24:Int)-i64.wrap ((8:Int)*(k:Int).tmod (4:Int)))/\((0:Int)<=(k:Int)/\(k:Int)<(↑(32:Nat):Int))/\(k:Int).toNat<(32:Nat)/\(Pl f d b (cL f d b (iP b.toNat)) (i64.wrap ((k:Int)+(1:Int)),l.set (k:Int).toNat (u8.wrap (((cL f d b (iP b.toNat)).fst.getD (i64.wrap ((k:Int).tdiv (4:Int))).toNat (0:Int)).fdiv ((2:Int)^min (i64.wrap ((24:Int)-i64.wrap ((8:Int)*(k:Int).tmod (4:Int)))).toNat u32.bits))))).ag ((∃ m,m<=(32:Nat)/\i64.wrap ((k:Int)+(1:Int))=(m:Int)/\l.set (k:Int).toNat (u8.wrap (((cL f d b (iP b.toNat)).fst.getD (i64.wrap ((k:Int).tdiv (4:Int))).toNat (0:Int)).fdiv ((2:Int)^min (i64.wrap ((24:Int)-i64.wrap ((8:Int)*(k:Int).tmod (4:Int)))).toNat u32.bits)))=oK (cL f d b (iP b.toNat)).fst m)/\(32:Nat)-(i64.wrap ((k:Int)+(1:Int))).toNat<(32:Nat)-(k:Int).toNat))/\(decide ((k:Int)<(32:Int))=false->(Pl f d b (cL f d b (iP b.toNat)) ((k:Int),l)).ag (l=oK (cL f d b (iP b.toNat)).fst (32:Nat))))) ab ?_;refine⟨fun h=>?_,fun h=>ao ?_⟩
  ·have A:k<32:=by have:=Odt h;omega
   have q:i64.wrap ((k:Int).tdiv 4)=((k/4:Nat):Int):=by rw[ss aa,ba aa aa];omega
   have r:i64.wrap (24-i64.wrap (8*(k:Int).tmod 4))=((24-8*(k%4):Nat):Int):=by rw[m9 aa,ba (a:=8*((k:Int)%4)) aa aa,ba aa aa];omega
   rw[q,r,aS aa];simp only[aB];refine⟨ae,⟨aa,aa⟩,aa,ae,aa,⟨aa,aa⟩,A,ao ⟨⟨k+1,A,rfl,?_⟩,aa⟩⟩;have ev:u8.wrap (((cL f d b (iP b.toNat)).1.getD (k/4) 0).fdiv (2^min (24-8*(k%4)) u32.bits))=WE (cL f d b (iP b.toNat)).1 k:=by have H:min (24-8*(k%4)) u32.bits=24-8*(k%4):=iY (show 24-8*(k%4)<=32 by omega);rw[H];rfl
   rw[ev,kl,oK,oK,show 32-k=(32-(k+1))+1 by omega];have:=Mt (WE (cL f d b (iP b.toNat)).1) [] k (32-(k+1));rw[show ([]:List Int).length+k=k by simp] at this;exact this
  ·have:k=32:=by have:=Odf h;omega
   rw[kl,this]
 rintro⟨W,C⟩ u;revert W C;intro (W:Int) (C:List Int) (u:C=oK (cL f d b (iP b.toNat)).1 32);refine bE o mixed _ _ ?_;refine al (X:=(((f,d,b),C,())=((f,d,b),Fa f d b,()))) ab ?_;rw[u,Fa,bf];have e:oK (cL f d b (iP b.toNat)).1 32=WD (cL f d b (iP b.toNat)).1:=by show []++(_++[])=_;rw[bq,dH];rfl
 rw[e]
def Kb:Nat × Eng.Spec:=(161,vA dE kZ [] [.val (.arr 32 bK)] (fun ((_,_,b),_)=>(0:Int)<=b/\b<=(1152921504606846976:Int)) (fun ((d,a,b),_)=>((d,a,b),(Fa d a b,()))))
theorem tX:enters Tryz.prog 117 Tryz.f117:=ek
def OT (a:List (List Int)) (g:Int × aA kZ):St:=ar Tryz.f117.ntmps 40 [(2,.is (.one (.ptr 0 0))),(3,.is (.one (.ptr 8 0))),(6,.is (.one (.ro (.sl bK) a))),(7,sI .i64 a.length),(8,sI .i64 g.1)] [(8,[.ints .u32 8 g.2.1,.ints .u8 64 g.2.2.1,.v (.int .i64 g.2.2.2)]),(0,[.ints .u8 32 (replicate 32 0)])]
abbrev Q8:HL [.sl (.sl bK)]->Prop:=fun (a,_)=>length (List.flatten a)<=1099511627776/\length a<=1099511627776
theorem ti:aL Tryz.prog 117 [.sl (.sl bK)] [.val (.arr 32 bK)] dE Q8 (fun (a,_)=>(IW (List.flatten a),())):=by
 have l:aD Tryz.prog (aP [Dw,Kb]):=aJ (th zv) (aJ (th KY) bp);refine bI (sp:=aP [Dw,Kb]) tX ae ae ab ?_;rintro w D ⟨a,⟨⟩⟩;revert a;intro (a:List (List Int)) _ y;have G:(List.flatten a).length<=1099511627776:=y.1;have H:a.length<=1099511627776:=y.2;show Tr _ _ _ _ _ _ _;refine bd l mixed 3 (OT a (0,(replicate 8 0,replicate 64 0,0))) True ?_ (fun _=>?_);refine al (X:=((OT a ((0:Int),replicate (8:Nat) (0:aA uK),replicate (64:Nat) (0:aA bK),(0:aA (Kd.int i64)))).ag True)) ab ?_;exact ao trivial;refine cd l mixed h9 (fun o=>(bg (.int .i64) 8 o,pP kZ 8 o)) (OT a) (fun g=>∃ k:Nat,k<=a.length/\g.1=(k:Int)/\uy fH ep (List.flatten (a.take k)) g.2.1 g.2.2.1 g.2.2.2) (fun g=>a.length-g.1.toNat)
  (fun o=>(bg (.int .i64) 8 o,pP kZ 8 o)) (OT a) (fun g=>uy fH ep (List.flatten a) g.2.1 g.2.2.1 g.2.2.2) (0,(replicate 8 0,replicate 64 0,0)) (c:=aq (ak Tryz.f117) 3) ab ab (aw ab ab ?_) ?_ ?_
 exact⟨0,a2 _,rfl,Xu fH ep _ _ oL⟩
 ·rintro⟨i,e,b,d⟩ z;revert i e b d;intro (i:Int) (e:List Int) (b:List Int) (d:Int) ⟨k,E,t,j⟩;have t:i=(k:Int):=t;have j:uy fH ep (List.flatten (a.take k)) e b d:=j;subst t;refine al (X:=((decide ((k:Int)<(a.length:Int))=true->((0:Int)<=(k:Int)/\(k:Int)<(a.length:Int))/\(k:Int).toNat<a.length/\(∀ (g:Nat) (s:Sigma aA),dE g=some s->Decidable.rec (fun h=>(fun x=>if g=(1:Nat) then some ⟨Kd.arr (64:Nat) uK,jD⟩ else none) h) (fun h=>(fun x=>some ⟨Kd.arr (8:Nat) uK,ep⟩) h) (instDecidableEqNat g (0:Nat))=some s)/\J5 ((e,b,d),a.getD (k:Int).toNat [],())/\(OT a (i64.wrap ((k:Int)+(1:Int)),cL e b d (a.getD (k:Int).toNat []))).ag ((∃ m,m<=a.length/\i64.wrap ((k:Int)+(1:Int))=(m:Int)/\uy fH ep (take m a).flatten (cL e b d (a.getD (k:Int).toNat [])).fst (cL e b d (a.getD (k:Int).toNat [])).snd.fst (cL e b d (a.getD (k:Int).toNat [])).snd.snd)/\a.length-(i64.wrap ((k:Int)+(1:Int))).toNat<a.length-(k:Int).toNat))/\(decide ((k:Int)<(a.length:Int))=false->(OT a ((k:Int),e,b,d)).ag (uy fH ep a.flatten e b d)))) ab ?_;refine⟨fun h=>?_,fun h=>ao ?_⟩
  ·have p:k<a.length:=by have:=Odt h;omega
   have C:a.getD k []=a[k]:=by simp[bz p]
   have u:(a.take (k+1)).flatten=(a.take k).flatten++a.getD k []:=by rw[cr p,tA,C];simp
   have n:(a.take (k+1)).flatten.length<=a.flatten.length:=by
    have:a.flatten=(a.take (k+1)).flatten++(a.drop (k+1)).flatten:=by rw[<- tA,dR]
    rw[this,bb];omega
   have f:d=(((a.take k).flatten.length:Nat):Int):=j.1;have A:(a.take k).flatten.length+(a.getD k []).length<=1099511627776:=by rw[u,bb] at n;omega
   rw[aS aa];simp only[aB];have q:(0:Int)<=d:=by rw[f];omega
   have r:d<=(1152921504606846976:Int):=by rw[f];omega
   refine⟨⟨aa,aa⟩,p,fun _ _ h=>h,⟨q,r,?_⟩,ao ⟨⟨k+1,p,rfl,?_⟩,aa⟩⟩;show (a.getD k []).length<=_;omega;rw[u];exact MM j _
  ·have:k=a.length:=by have:=Odf h;omega
   rw[this,aV] at j;exact j
 rintro⟨i,e,b,d⟩ z;revert i e b d;intro (i:Int) (e:List Int) (b:List Int) (d:Int) (j:uy fH ep (List.flatten a) e b d);refine bE l mixed _ _ ?_;refine al (X:=((∀ (g:Nat) (s:Sigma aA),dE g=some s->Decidable.rec (fun h=>(fun x=>if g=(1:Nat) then some ⟨Kd.arr (64:Nat) uK,jD⟩ else none) h) (fun h=>(fun x=>some ⟨Kd.arr (8:Nat) uK,ep⟩) h) (instDecidableEqNat g (0:Nat))=some s)/\((0:Int)<=d/\d<=(1152921504606846976:Int))/\(Fa e b d,())=(IW a.flatten,()))) ab ?_;have f:d=((a.flatten.length:Nat):Int):=j.1;have q:(0:Int)<=d:=by rw[f];omega
 have r:d<=(1152921504606846976:Int):=by rw[f];omega
 exact⟨fun _ _ h=>h,⟨q,r⟩,by rw[Xv j]⟩
def ta:Nat × Eng.Spec:=(117,CX dE [.sl (.sl bK)] [.val (.arr 32 bK)] Q8 (fun (a,_)=>(IW (List.flatten a),())))
end sha
namespace rite
open Go.IntKind(i64)
open Go.IntKind(i64 u8)
open Go.IntKind(i64 u64 u32)
open Go.IntKind(i64 u64 u8 u32)
set_option maxHeartbeats 4000000
open hub deal
theorem Qj:enters Tryz.prog 73 Tryz.f73:=ek
def Bz (q:List Int):List Int:=u8.wrap q.length::q.map u8.wrap
def mW (q:List Int) (c:List Pt):List Int:=eS (sha.IW (List.flatten [Bz q,law22.cL c]))
def X2 (q:List Int) (c:List Pt) (g:Int × Nat × List Int):St:=ar Tryz.f73.ntmps 72 [(0,.is (.one (.ro iK q))),(1,.is (.one (.ro aN c))),(4,.is (.one (.ptr 0 0))),(5,.is (.one (.sl 32 0 0 g.2.1 1))),(12,.is (.one (.ro iK q))),(13,sI .i64 q.length),(14,sI .i64 g.1)] [(0,[.ints .u8 32 (replicate 32 0)]),(32,[.ints .u8 g.2.1 g.2.2])]
def dgO (c:List Pt) (l:Nat × List Int):St:=ar Tryz.f73.ntmps 72 [(1,.is (.one (.ro aN c))),(4,.is (.one (.ptr 0 0))),(5,.is (.one (.sl 32 0 0 l.1 1)))] [(0,[.ints .u8 32 (replicate 32 0)]),(32,[.ints .u8 l.1 l.2])]
def yp (q:List Int) (k:Nat):List Int:=u8.wrap q.length::(q.take k).map u8.wrap
theorem Zv (q:List Int) (k:Nat) (h:k<=q.length):(yp q k).length=k+1:=by rw[yp,bG,bU,cX];omega
theorem Vb (q:List Int) {k:Nat} (h:k<q.length):yp q (k+1)=yp q k++[u8.wrap (q.getD k 0)]:=by rw[yp,yp,cr h,de,aX,bz h];rfl
abbrev Q7:HL [.sl iK,.sl aN]->Prop:=fun (q,c,_)=>length q<100000/\length c<1000000
theorem SG:aL Tryz.prog 73 [.sl iK,.sl aN] [.val (.arr 32 (.int .u8))] sha.dE Q7 (fun (q,c,_)=>(mW q c,())):=by
 have j:aD Tryz.prog (aP [sha.ta,W6]):=aJ (fgk sha.ti) (aJ (aM law22.K1.AE) bp);refine bI (sp:=aP [sha.ta,W6]) Qj ae ae ab ?_;rintro w E ⟨q,c,⟨⟩⟩;revert q c;intro (q:List Int) (c:List Pt) _ ⟨y,u⟩;have y:q.length<100000:=y;have u:c.length<1000000:=u;show Tr _ _ _ _ _ _ _;refine jO j mixed 3 (fun b=>cU (.int .u8) 32 b) (fun l=>X2 q c (0,1,l)) (fun l=>l=yp q 0) ?_ ?_;refine al (X:=((X2 q c (0,1,[u8.wrap (q.length:Int)])).ag ([u8.wrap (q.length:Int)]=yp q 0))) ab ?_;exact ao rfl;intro l D;subst D;refine cd j mixed (fun _=>[(32,136)]) (fun b=>(bg iK 14 b,ou 5 b,cU (.int .u8) 32 b)) (X2 q c) (fun g=>∃ k:Nat,k<=q.length/\g.1=(k:Int)/\g.2.1=k+1/\g.2.2=yp q k) (fun g=>q.length-g.1.toNat)
  (fun b=>(ou 5 b,cU (.int .u8) 32 b)) (dgO c) (fun g=>g=(q.length+1,Bz q)) (0,1,yp q 0) (c:=aq (ak Tryz.f73) 3) ab ab (aw ab ab ?_) ?_ ?_
 exact⟨0,a2 _,rfl,rfl,rfl⟩
 ·rintro⟨i,n,l⟩ F;revert i n l;intro (i:Int) (n:Nat) (l:List Int) ⟨k,C,m,p,o⟩;have z:i=(k:Int):=m;have A:n=k+1:=p;have r:l=yp q k:=o;clear m p o;subst z A;have d:l.length=k+1:=by rw[r];exact Zv q k C
  refine @al ((decide ((k:Int)<(q.length:Int))=true->(0<=(k:Int)/\(k:Int)<(q.length:Int))/\(k:Int).toNat<q.length/\0+1<=1/\k+1<=k+1/\(k+1+1)*1<=140737488355328/\k+1+1<=4611686018427387904/\(X2 q c (i64.wrap ((k:Int)+1),k+1+1,take (k+1) l++take 1 [u8.wrap (q.getD (k:Int).toNat 0)])).ag ((∃ a,a<=q.length/\i64.wrap ((k:Int)+1)=(a:Int)/\k+1+1=a+1/\take (k+1) l++take 1 [u8.wrap (q.getD (k:Int).toNat 0)]=yp q a)/\q.length-(i64.wrap ((k:Int)+1)).toNat<q.length-(k:Int).toNat))/\(decide ((k:Int)<(q.length:Int))=false->(dgO c (k+1,l)).ag ((k+1,l)=(q.length+1,Bz q)))) _ ?_ ?_;kernel_rfl;refine⟨fun h=>?_,fun h=>ao ?_⟩
  ·have f:k<q.length:=by have:=dec_lt h;omega
   rw[aB,aS aa];refine⟨⟨aa,aa⟩,f,ae,aE _,aa,aa,ao ⟨⟨k+1,f,rfl,rfl,?_⟩,by rw[aB];omega⟩⟩;rw[Vb q f,bQ aa,<- r];rfl
  ·have e:k=q.length:=by have:=bW h;omega
   rw[r,e,yp,aV];rfl
 intro g t;have t:g=(q.length+1,Bz q):=t;subst t;have d:(Bz q).length=q.length+1:=by rw[Bz,bG,bU]
 refine PH 5 32 (q.length+1) 1 .u8 (Bz q) ab ab d ?_;refine bE j mixed _ _ ?_;refine @al (vW (c,())/\(∀ (g:Nat) (s:Sigma aA),sha.dE g=some s->Decidable.rec (fun h=>(fun x=>if g=1 then some ⟨Kd.arr 64 sha.uK,sha.jD⟩ else none) h) (fun h=>(fun x=>some ⟨Kd.arr 8 sha.uK,sha.ep⟩) h) (instDecidableEqNat g 0)=some s)/\0+2<=2/\sha.Q8 (take 2 [Bz q,law22.cL c],())/\(sha.IW (take 2 [Bz q,law22.cL c]).flatten,())=(mW q c,())) _ ?_ ?_;kernel_rfl;refine⟨by show c.length<=_;omega,fun g s h=>h,ae,⟨?_,by show (2:Nat)<=_;omega⟩,?_⟩;show (List.flatten [Bz q,law22.cL c]).length<=_;simp only[tE,List.flatten_nil,bq,bb];rw[d,DE];omega;show (sha.IW (List.flatten [Bz q,law22.cL c]),())=(mW q c,());rw[mW,bf]
def W8:Nat × Eng.Spec:=(73,CX sha.dE [.sl iK,.sl aN] [.val (.arr 32 (.int .u8))] Q7 (fun (q,c,_)=>(mW q c,())))
end rite
namespace deal
open law14 poly
open Go.IntKind(i64)
open Go.IntKind(i64 u8)
open Go.IntKind(i64 u64 u32)
open Go.IntKind(i64 u64 u8 u32)
abbrev sU:HL [dU,.sl iK,.sl cl]->HO [.own aN,.val iK]:=fun ((d,_,n,o),q,a,_)=>((nv d n o q a).1,(nv d n o q a).2,())
def jpA (d t:List Int) (n:Int) (o:List (Fp × Fp)) (b:List Dl) (f:List Int) (a:List Fr) (e:Int):St:=ar Tryz.f71.ntmps 104 [(2,.is (.one (.ro cl b))),(3,.is (.one (.ptr 0 0))),(6,.is (.one (.v (.slice none 0 0)))),(7,sI .i64 0),(8,.is (.one (.ro iK f))),(9,.is (.one (.sl 40 0 0 a.length 4))),(10,sI .i64 e)] [(40,[.row .fr a.length a]),(0,[.ro iK d,.ro iK t,.v (.int .i64 n),.ro aN o])]
def jpB (d t:List Int) (n:Int) (o:List (Fp × Fp)) (e:List Dl) (b:List Int) (a:List Fr):St:=ar Tryz.f71.ntmps 152 [(2,.is (.one (.ro cl e))),(3,.is (.one (.ptr 0 0))),(9,.is (.one (.sl 40 0 0 a.length 4))),(11,.is (.one (.v (.slice none 0 0)))),(28,.is (.one (.ro iK b))),(29,sI .i64 b.length),(30,sI .i64 0)] [(40,[.row .fr a.length a]),(0,[.ro iK d,.ro iK t,.v (.int .i64 n),.ro aN o])]
def Lr (d t:List Int) (n:Int) (o:List (Fp × Fp)) (e:List Dl) (b:List Int) (a:List Fr) (g:Int × List (Fp × Fp)):St:=ar Tryz.f71.ntmps 153 [(2,.is (.one (.ro cl e))),(3,.is (.one (.ptr 0 0))),(9,.is (.one (.sl 40 0 0 a.length 4))),(11,.is (.one (.sl 152 0 0 g.2.length 12))),(28,.is (.one (.ro iK b))),(29,sI .i64 b.length),(30,sI .i64 g.1)] [(152,[.row aN g.2.length g.2]),(40,[.row .fr a.length a]),(0,[.ro iK d,.ro iK t,.v (.int .i64 n),.ro aN o])]
def Yq (d t:List Int) (n:Int) (o:List (Fp × Fp)) (e:List Dl) (b:List Int) (a:List Fr) (g:Int × List (Fp × Fp)):St:=ar Tryz.f71.ntmps 449 [(2,.is (.one (.ro cl e))),(3,.is (.one (.ptr 0 0))),(9,.is (.one (.sl 40 0 0 a.length 4))),(11,.is (.one (.sl 433 0 0 g.2.length 12))),(28,.is (.one (.ro iK b))),(29,sI .i64 b.length),(30,sI .i64 g.1)] [(433,[.row aN g.2.length g.2]),(40,[.row .fr a.length a]),(0,[.ro iK d,.ro iK t,.v (.int .i64 n),.ro aN o])]
def jpC (d t:List Int) (n:Int) (o:List (Fp × Fp)) (e:List Dl) (b:List Int) (a:List Fr) (l:List (Fp × Fp)) (k:Nat) (I:Int):St:=ar Tryz.f71.ntmps 233 [(2,.is (.one (.ro cl e))),(3,.is (.one (.ptr 0 0))),(9,.is (.one (.sl 40 0 0 a.length 4))),(11,.is (.one (.sl 152 0 0 l.length 12))),(12,sI .i64 k),(14,sI .i64 I),(28,.is (.one (.ro iK b))),(29,sI .i64 b.length),(30,sI .i64 k)] [(152,[.row aN l.length l]),(40,[.row .fr a.length a]),(0,[.ro iK d,.ro iK t,.v (.int .i64 n),.ro aN o])]
def jpD (d t:List Int) (n:Int) (o:List (Fp × Fp)) (e:List Dl) (b:List Int) (a:List Fr) (l:List (Fp × Fp)) (k:Nat) (c:List (Fp × Fp)):St:=ar Tryz.f71.ntmps 417 [(2,.is (.one (.ro cl e))),(3,.is (.one (.ptr 0 0))),(9,.is (.one (.sl 40 0 0 a.length 4))),(11,.is (.one (.sl 152 0 0 l.length 12))),(12,sI .i64 k),(28,.is (.one (.ro iK b))),(29,sI .i64 b.length),(30,sI .i64 k),(15,.is (.one (.sl 377 0 0 c.length 12))),(59,.is (.one (.v (.bool (decide ((a.length:Int)>0))))))] [(152,[.row aN l.length l]),(377,[.row aN c.length c]),(40,[.row .fr a.length a]),(0,[.ro iK d,.ro iK t,.v (.int .i64 n),.ro aN o])]
def OF (d t:List Int) (n:Int) (o:List (Fp × Fp)) (e:List Dl) (b:List Int) (a:List Fr) (l:List (Fp × Fp)) (k:Nat) (m:Nat) (g:Int × List (Fp × Fp)):St:=ar Tryz.f71.ntmps 417 [(2,.is (.one (.ro cl e))),(3,.is (.one (.ptr 0 0))),(9,.is (.one (.sl 40 0 0 a.length 4))),(11,.is (.one (.sl 152 0 0 l.length 12))),(12,sI .i64 k),(28,.is (.one (.ro iK b))),(29,sI .i64 b.length),(30,sI .i64 k),(15,.is (.one (.sl 377 0 0 m 12))),(60,.is (.one (.sl 377 0 0 m 12))),(61,sI .i64 m),(62,sI .i64 g.1)] [(152,[.row aN l.length l]),(377,[.row aN m g.2]),(40,[.row .fr a.length a]),(0,[.ro iK d,.ro iK t,.v (.int .i64 n),.ro aN o])]
theorem VM:aL Tryz.prog 71 [dU,.sl iK,.sl cl] [.own aN,.val iK] bx Df sU:=by
 have r:aD Tryz.prog (aP [Dv,YS,Ip,g1.Ds,um]):=aJ (aM KZ) (aJ (aM acZ) (aJ (aM Er) (aJ (aM g1.FQ) (aJ (aM sG) bp))));refine bI (sp:=aP [Dv,YS,Ip,g1.Ds,um]) Vo ae ae ab ?_;rintro w M0 ⟨⟨d,t,n,o⟩,q,a,⟨⟩⟩;revert d t n o q a;intro (d:List Int) (t:List Int) (n:Int) (o:List (Fp × Fp)) (q:List Int) (a:List Dl) _ hp;obtain⟨ho,hq,K,hn⟩:=hp;have ho:o.length<1048576:=ho;have hq:q.length<4611686018427387904:=hq;have K:a.length<4611686018427387904:=K;have hn:n<1048576:=hn;show Tr _ _ _ _ _ _ _;refine bd r mixed 2 (jpA d t n o a (cK d o q).1 (cK d o q).2.1 (cK d o q).2.2) True ?_ (fun _=>?_);refine al (X:=(Gx ((d,t,n,o),q,())/\(jpA d t n o a (cK d o q).fst (cK d o q).snd.fst (cK d o q).snd.snd).ag True)) ab ?_;exact⟨⟨ho,hq⟩,ao trivial⟩;have hF:nv d n o q a=xd n a (cK d o q).1 (cK d o q).2.1 (cK d o q).2.2:=rfl;obtain⟨x4,x1⟩:=Py d o q;generalize (cK d o q).1=b at *;generalize (cK d o q).2.1=f at *;generalize (cK d o q).2.2=e at *;refine bd r mixed 4 (jpB d t n o a b f) (e=0) ?_ (fun he=>?_);refine al (X:=(((e != 0)=true->([],e,())=sU ((d,t,n,o),q,a,()))/\((e != 0)=false->(jpB d t n o a b f).ag (e=0)))) ab ?_;refine⟨fun h=>?_,fun h=>ao (by simpa using h)⟩;show _=((nv d n o q a).1,(nv d n o q a).2,());rw[hF,xd,ah (by simpa using h)];subst he;refine Ob.Ar 11 12 (.row aN 0 []) ab ?_;refine pg (fun _=>[(152,433)]) (fun z=>(bg (.int .i64) 30 z,cU aN 152 z)) (Lr d t n o a b f) (Yp n a b f) (fun g=>b.length-g.1.toNat)
  (fun z=>(bg (.int .i64) 30 z,cU aN 152 z)) (Lr d t n o a b f) (fun g=>b.all (nK a n)=true/\g.2=jS a b f b.length) (0,[]) (c:=aq (ak Tryz.f71) 6) ab ab (aw ab ab ?_) ?_ ?_
 exact⟨0,a2 _,rfl,rfl,au⟩
 ·rintro⟨i,l⟩ Q;revert i l;intro (i:Int) (l:List (Fp × Fp)) ⟨k,hk,Z,O,E⟩;have Z:i=(k:Int):=Z;have kl:l=jS a b f k:=O;subst Z;have R:l.length<1048576:=by
   have:=Te a b f n k hk E;rw[kl];omega
  refine bd r mixed 2 (Lr d t n o a b f ((k:Int),l)) (k<b.length) ?_ (fun u=>?_)
  ·refine al (X:=((decide ((k:Int)<(b.length:Int))=true->(Lr d t n o a b f ((k:Int),l)).ag (k<b.length))/\(decide ((k:Int)<(b.length:Int))=false->(Lr d t n o a b f ((k:Int),l)).ag (b.all (nK a n)=true/\l=jS a b f b.length)))) ab ?_;refine⟨fun h=>ao (by have:=dec_lt h;omega),fun h=>ao ?_⟩;have:k=b.length:=by have:=bW h;omega
   rw[this,aV] at E;exact⟨List.all_eq_true.2 E,by rw[kl,this]⟩
  refine mf (c:=aq (aZ (aq (ak Tryz.f71) 6)) 2) ab ab ?_;refine bd r mixed 2 (jpC d t n o a b f l k (ib a (b.getD (k:Int).toNat 0))) True ?_ (fun _=>?_);refine al (X:=((0<=(k:Int)/\(k:Int)<(b.length:Int))/\(k:Int).toNat<b.length/\a.length<4611686018427387904/\(jpC d t n o a b f l k (ib a (b.getD (k:Int).toNat 0))).ag True)) ab ?_;rw[aB];exact⟨⟨aa,aa⟩,u,K,ao trivial⟩;generalize hx:b.getD (k:Int).toNat 0=x;generalize V:ib a x=I;refine jO r mixed 4 (fun z=>cU aN 377 z) (jpD d t n o a b f l k) (fun c=>c=cO a x/\nK a n x=true) ?_ ?_
  ·refine al (X:=((decide (I<0)=true->([],41,())=sU ((d,t,n,o),q,a,()))/\(decide (I<0)=false->(0<=I/\I<(a.length:Int))/\I.toNat<a.length/\(((↑(a.getD I.toNat (0,[])).snd.length:Int) != n)=true->([],41,())=sU ((d,t,n,o),q,a,()))/\(((↑(a.getD I.toNat (0,[])).snd.length:Int) != n)=false->(0<=I/\I<(a.length:Int))/\I.toNat<a.length/\o5 ((a.getD I.toNat (0,[])).snd,())/\(jpD d t n o a b f l k ((a.getD I.toNat (0,[])).snd,()).fst).ag ((a.getD I.toNat (0,[])).snd=cO a x/\nK a n x=true))))) ab ?_;have hP:(a.getD I.toNat ((0:Int),([]:List (Fp × Fp)))).2=cO a x:=by rw[cO,V]
   have x2:x∈b:=by rw[<- hx,aB,aX,bz u,ct];exact dx u
   have F:nK a n x=false->([],(41:Int),())=sU ((d,t,n,o),q,a,()):=fun hb=>by
    show _=((nv d n o q a).1,(nv d n o q a).2,());have:¬ b.all (nK a n)=true:=fun c=>by have:=List.all_eq_true.1 c x x2;rw[hb] at this;cases this
    rw[hF,xd,aj rfl,ah this]
   rw[hP];have x3:I.toNat<a.length\/I<0:=by rcases Int.lt_or_le I 0 with h|h;exact .inr h;left;rw[<- V,ib,bf,du] at h ⊢;split at h;rename_i C;rw[aj C];omega;exact absurd h aa
   refine⟨fun h=>F (by rw[nK,V,cp (by have:=Odt h;omega)];rfl),fun h=>?_⟩;have h0:0<=I:=by have:=Odf h;omega
   have h1:I.toNat<a.length:=aa;refine⟨⟨h0,aa⟩,h1,fun C=>F ?_,fun C=>?_⟩
   ·have C:¬ ((cO a x).length:Int)=n:=by simpa using C
    rw[nK,cp C,fK]
   ·have C:((cO a x).length:Int)=n:=by simpa using C
    exact⟨⟨h0,aa⟩,h1,by show (cO a x).length<_;omega,ao ⟨rfl,by rw[nK,V,bX h0,bX C];rfl⟩⟩
  intro (c:List (Fp × Fp)) ⟨hc,A⟩;have N:b.getD k 0=x:=by rw[<- hx,aB]
  have x0:c.length<1048576:=by rw[nK,aQ] at A;have:=Odt A.2;rw[hc];omega
  have H:∀ Y:List (Fp × Fp),Y=iz l (jW f k c)->Yp n a b f (((k+1:Nat):Int),Y):=fun Y e=>by refine⟨k+1,u,rfl,?_,?_⟩;show Y=iz (jS a b f k) (jW f k (cO a (b.getD k 0)));rw[e,N,kl,hc];intro y W;rw[cr u,lu,gk] at W;rcases W with W|rfl;exact E y W;rw[aX,bz u,ct] at N;rw[N];exact A
  refine PF (c:=aq (da (aq (aZ (aq (ak Tryz.f71) 6)) 2)) 6) (decide ((f.length:Int)>0)) ab ab ab (fun ht=>?_) (fun ht=>?_)
  ·have T:f.length=b.length:=by have:=Odt ht;have:=x1 rfl;omega
   refine bd r mixed 1 (OF d t n o a b f l k c.length (0,c)) True ?_ (fun _=>?_);refine al (X:=((OF d t n o a b f l k c.length (0,c)).ag True)) ab ?_;exact ao trivial;refine cd r mixed h9 (fun z=>(bg (.int .i64) 62 z,cU aN 377 z)) (OF d t n o a b f l k c.length) (adX c (fun p=>g1.cV p (f.getD k 0))) (fun g=>c.length-g.1.toNat)
    (fun z=>(bg (.int .i64) 62 z,cU aN 377 z)) (OF d t n o a b f l k c.length) (fun g=>g.2=c.map (fun p=>g1.cV p (f.getD k 0))) (0,c) (c:=aq (fV (aq (da (aq (aZ (aq (ak Tryz.f71) 6)) 2)) 6)) 1) ab ab (aw ab ab ?_) ?_ ?_
   exact⟨0,a2 _,rfl,rfl⟩
   ·rintro⟨j,s⟩ Q;revert j s;intro (j:Int) (s:List (Fp × Fp)) ⟨m,hm,ej,ec⟩;have ej:j=(m:Int):=ej;have U:s=xR (fun p=>g1.cV p (f.getD k 0)) c m:=ec;subst ej;refine @al ((decide ((m:Int)<(c.length:Int))=true->(0<=(m:Int)/\(m:Int)<(c.length:Int))/\(m:Int).toNat<c.length/\(0<=(k:Int)/\(k:Int)<(f.length:Int))/\(k:Int).toNat<f.length/\True/\(0<=(m:Int)/\(m:Int)<(c.length:Int))/\(m:Int).toNat<c.length/\(OF d t n o a b f l k c.length (i64.wrap ((m:Int)+1),s.set (m:Int).toNat (g1.cV (s.getD (m:Int).toNat ((0:Fp),(0:Fp))) (f.getD (k:Int).toNat (0:Fr))))).ag (adX c (fun p=>g1.cV p (f.getD k (0:Fr))) (i64.wrap ((m:Int)+1),s.set (m:Int).toNat (g1.cV (s.getD (m:Int).toNat ((0:Fp),(0:Fp))) (f.getD (k:Int).toNat (0:Fr))))/\c.length-(i64.wrap ((m:Int)+1)).toNat<c.length-(m:Int).toNat))/\(decide ((m:Int)<(c.length:Int))=false->(OF d t n o a b f l k c.length ((m:Int),s)).ag (s=List.map (fun p=>g1.cV p (f.getD k (0:Fr))) c))) _ ?_ ?_;kernel_rfl;rw[aB,aB];refine⟨fun h=>?_,fun h=>ao ?_⟩
    ·have D:m<c.length:=by have:=dec_lt h;omega
     rw[aS aa];refine⟨⟨aa,aa⟩,D,⟨aa,aa⟩,aa,trivial,⟨aa,aa⟩,D,ao ⟨⟨m+1,D,rfl,?_⟩,by rw[aB];omega⟩⟩;show s.set m _=_;rw[U];exact Tm (fun p=>g1.cV p (f.getD k 0)) c D
    ·have:m=c.length:=by have:=bW h;omega
     rw[U,xR,this,aV,oC,bq]
   rintro⟨j,s⟩ Q;revert j s;intro (j:Int) (s:List (Fp × Fp)) Q;have U:s=c.map (fun p=>g1.cV p (f.getD k 0)):=Q;have G:s.length=c.length:=by rw[U,bU]
   have L:s=jW f k c:=by rw[jW,ah aa,U]
   refine bd r mixed 1 (Yq d t n o a b f ((k:Int),iz (l.take l.length) (s.take c.length))) True ?_ (fun _=>?_);refine al (X:=(0+l.length<=l.length/\0+c.length<=c.length/\Dh (take l.length l,take c.length s,())/\(Yq d t n o a b f ((k:Int),iz (take l.length l) (take c.length s))).ag True)) ab ?_;rw[<- G,aV,aV];exact⟨aa,aa,⟨R,by show s.length<_;omega⟩,ao trivial⟩;rw[<- G,aV,aV];refine ke ?_;refine bE r mixed _ _ ?_;refine @al ((Lr d t n o a b f (i64.wrap ((k:Int)+1),iz l s)).ag (Yp n a b f (i64.wrap ((k:Int)+1),iz l s)/\b.length-(i64.wrap ((k:Int)+1)).toNat<b.length-(k:Int).toNat)) _ ?_ ?_;kernel_rfl;rw[aS aa];exact ao ⟨H _ (by rw[L]),by rw[aB,aB];omega⟩
  ·have T:f.length=0:=by have:=Odf ht;omega
   have L:c=jW f k c:=by rw[jW,aj T]
   refine bd r mixed 1 (Yq d t n o a b f ((k:Int),iz (l.take l.length) (c.take c.length))) True ?_ (fun _=>?_);refine al (X:=(0+l.length<=l.length/\0+c.length<=c.length/\Dh (take l.length l,take c.length c,())/\(Yq d t n o a b f ((k:Int),iz (take l.length l) (take c.length c))).ag True)) ab ?_;rw[aV,aV];exact⟨aa,aa,⟨R,x0⟩,ao trivial⟩;rw[aV,aV];refine ke ?_;refine bE r mixed _ _ ?_;refine @al ((Lr d t n o a b f (i64.wrap ((k:Int)+1),iz l c)).ag (Yp n a b f (i64.wrap ((k:Int)+1),iz l c)/\b.length-(i64.wrap ((k:Int)+1)).toNat<b.length-(k:Int).toNat)) _ ?_ ?_;kernel_rfl;rw[aS aa];exact ao ⟨H _ (by rw[<- L]),by rw[aB,aB];omega⟩
 rintro⟨i,l⟩ Q;revert i l;intro (i:Int) (l:List (Fp × Fp)) ⟨P,O⟩;have O:l=jS a b f b.length:=O;refine bE r mixed _ _ ?_;refine @al (0+l.length<=l.length/\(take l.length l,0,())=sU ((d,t,n,o),q,a,())) _ ?_ ?_;kernel_rfl;refine⟨aa,?_⟩;rw[aV];show _=((nv d n o q a).1,(nv d n o q a).2,());rw[hF,xd,aj rfl,aj P,O]
open law22
theorem Vk:enters Tryz.prog 155 Tryz.f155:=ek
abbrev Pf:Type:=Int × Int × Fr
def nS (x t:Int) (c:List (Fp × Fp)) (p:Pf):Bool:=eS (p.1==x&&(p.2.1==t&&sh c t p.2.2))
abbrev rW:Int->List (Fp × Fp)->Prop:=fun t c=>length c<4611686018427387904/\fh t
theorem ZZ:aL Tryz.prog 155 [cz,.ptr iK,.ptr iK,.ptr (.sl aN)] [.val .bool] bx (fun (_,_,t,c,_)=>rW t c) (fun (p,x,t,c,_)=>(nS x t c p,())):=by
 refine a8 (sp:=aP [Ue]) (aJ (aM Oo) bp) mixed Vk ae ae ?_;rintro w i ⟨⟨a,b,d⟩,x,t,c,⟨⟩⟩;revert a b d x t c;intro (a:Int) (b:Int) (d:Fr) (x:Int) (t:Int) (c:List (Fp × Fp)) _ h;refine al (X:=(0<[x].length/\((a==x)=true->0<[t].length/\((b==t)=true->0<[c].length/\0<[t].length/\vi (c,t,d,())/\(sh c t d,())=(nS x t c (a,b,d),()))/\((b==t)=false->(false,())=(nS x t c (a,b,d),())))/\((a==x)=false->(false,())=(nS x t c (a,b,d),())))) ab ?_;have e:nS x t c (a,b,d)=(a==x&&(b==t&&sh c t d)):=by rw[nS,bf]
 rw[e];refine⟨jU,fun f=>⟨jU,fun g=>⟨jU,jU,h,by rw[f,g];rfl⟩,fun g=>by rw[f,g];rfl⟩,fun f=>by rw[f];rfl⟩
def Uj:Nat × Eng.Spec:=(155,aH [cz,.ptr iK,.ptr iK,.ptr (.sl aN)] [.val .bool] (fun (_,_,t,c,_)=>rW t c) (fun (p,x,t,c,_)=>(nS x t c p,())))
abbrev By:Kd:=.cap (.cap (.cap (.fn 155) iK) iK) (.sl aN)
theorem ZH:enters Tryz.prog 175 Tryz.f175:=ek
def QI (a:List Pf) (x t:Int) (c:List (Fp × Fp)) (g:Int):St:=ar Tryz.f175.ntmps 32 [(0,.is (.one (.ro cz a))),(1,.is (.one (.fv By ((((),x),t),c)))),(7,sI .i64 a.length),(8,sI .i64 g)] []
theorem acz:aL Tryz.prog 175 [.sl cz,By] [.val iK] bx (fun (a,(((_,_),t),c),_)=>length a<4611686018427387904/\rW t c) (fun (a,(((_,x),t),c),_)=>(du (nS x t c) a,())):=by
 have d:aD Tryz.prog (aP [Uj]):=aJ (aM ZZ) bp;refine bI (sp:=aP [Uj]) ZH ae ae ab ?_;rintro w p ⟨a,⟨⟨⟨⟨⟩,x⟩,t⟩,c⟩,⟨⟩⟩;revert a x t c;intro (a:List Pf) (c:List (Fp × Fp)) (t:Int) (x:Int) _ ⟨l,n⟩;have l:a.length<4611686018427387904:=l;show Tr _ _ _ _ _ _ _;refine bd d mixed 2 (QI a x t c 0) True ?_ (fun _=>?_);refine al (X:=((QI a x t c 0).ag True)) ab ?_;exact ao trivial;refine cd d mixed h9 (fun o=>bg (.int .i64) 8 o) (QI a x t c) (fun g=>∃ k:Nat,k<=a.length/\g=(k:Int)/\k<=a.findIdx (nS x t c)) (fun g=>a.length-g.toNat)
  (fun _=>()) (fun _=>ar Tryz.f175.ntmps 32 [] []) (fun _=>a.length<=a.findIdx (nS x t c)) 0 (c:=aq (ak Tryz.f175) 2) ab ab (aw ab ab ?_) ?_ ?_
 exact⟨0,a2 _,rfl,a2 _⟩
 ·intro (i:Int) ⟨k,q,m,f⟩;subst m;refine al (X:=((decide ((k:Int)<(a.length:Int))=true->(0<=(k:Int)/\(k:Int)<(a.length:Int))/\(k:Int).toNat<a.length/\rW t c/\(nS x t c (a.getD (k:Int).toNat (0,0,(0:Fr)))=true->((k:Int),())=(du (nS x t c) a,()))/\(nS x t c (a.getD (k:Int).toNat (0,0,(0:Fr)))=false->(QI a x t c (i64.wrap ((k:Int)+1))).ag ((∃ e,e<=a.length/\i64.wrap ((k:Int)+1)=(e:Int)/\e<=List.findIdx (nS x t c) a)/\a.length-(i64.wrap ((k:Int)+1)).toNat<a.length-(k:Int).toNat)))/\(decide ((k:Int)<(a.length:Int))=false->(ar Tryz.f175.ntmps 32 [] []).ag (a.length<=List.findIdx (nS x t c) a)))) ab ?_;rw[aB];refine⟨fun h=>?_,fun h=>ao (by have:=bW h;omega)⟩;have b:k<a.length:=by have:=dec_lt h;omega
  rw[aS aa];refine⟨⟨aa,aa⟩,b,n,fun j=>?_,fun j=>ao ⟨⟨k+1,b,rfl,qX ((0:Int),(0:Int),(0:Fr)) b f (by exact j)⟩,by rw[aB];omega⟩⟩;show ((k:Int),())=(du _ a,());rw[ve ((0:Int),(0:Int),(0:Fr)) b f (by exact j)]
 rintro⟨⟩ (f:_<=_);refine bE d mixed _ _ ?_;refine al (X:=(((-1:Int),())=(du (nS x t c) a,()))) ab ?_;show _=(du _ a,());rw[sO f]
def af1:Nat × Eng.Spec:=(175,aH [.sl cz,By] [.val iK] (fun (a,(((_,_),t),c),_)=>length a<4611686018427387904/\rW t c) (fun (a,(((_,x),t),c),_)=>(du (nS x t c) a,())))
theorem ZD:enters Tryz.prog 154 Tryz.f154:=ek
def qi (a:List Pf) (x t:Int) (c:List (Fp × Fp)):Bool:=eS (a.any (nS x t c))
theorem acv:aL Tryz.prog 154 [.sl cz,By] [.val .bool] bx (fun (a,(((_,_),t),c),_)=>length a<4611686018427387904/\rW t c) (fun (a,(((_,x),t),c),_)=>(qi a x t c,())):=by
 refine a8 (sp:=aP [af1]) (aJ (aM acz) bp) mixed ZD ae ae ?_;rintro w g ⟨a,⟨⟨⟨⟨⟩,x⟩,t⟩,c⟩,⟨⟩⟩;revert a x t c;intro (a:List Pf) (c:List (Fp × Fp)) (t:Int) (x:Int) _ d;refine al (X:=((a.length<4611686018427387904/\rW t c)/\(decide (du (nS x t c) a>=0),())=(qi a x t c,()))) ab ?_;refine⟨d,?_⟩;show (decide ((if a.findIdx (nS x t c)<a.length then ((a.findIdx (nS x t c):Nat):Int) else -1)>=0),())=(qi a x t c,());rw[qi,bf];by_cases h:a.findIdx (nS x t c)<a.length;have b:a.any (nS x t c)=true:=List.any_eq_true.2 ⟨_,dx h,wA⟩;rw[aj h,b,bX aa]
 ·have b:a.any (nS x t c)=false:=by
   cases e:a.any (nS x t c) with
   | false=>rfl
   | true =>obtain⟨y,f,d⟩:=List.any_eq_true.1 e;exact absurd (wu ⟨y,f,d⟩) h
  rw[ah h,b];rfl
def YV:Nat × Eng.Spec:=(154,aH [.sl cz,By] [.val .bool] (fun (a,(((_,_),t),c),_)=>length a<4611686018427387904/\rW t c) (fun (a,(((_,x),t),c),_)=>(qi a x t c,())))
abbrev cu:Kd:=.pair iK (.sl iK)
abbrev oa:Type:=Int × List Int
def n7 (t:List Int) (x:Int):List oa->List Int->List Int
 | [],by'=>by'
 | f::a,by'=>n7 t x a (if f.1∈t/\f.1∉by'/\x∈f.2 then by'++[f.1] else by')
theorem Ko (t:List Int) (x:Int) {a:List oa} {k:Nat} (l:List Int) (h:k<a.length):n7 t x (a.drop k) l=n7 t x (a.drop (k+1)) (if (a.getD k ((0:Int),[])).1∈t/\(a.getD k ((0:Int),[])).1∉l/\x∈(a.getD k ((0:Int),[])).2 then l++[(a.getD k ((0:Int),[])).1] else l):=by
 have b:a.getD k ((0:Int),[])=a[k]:=by rw[aX,bz h,ct]
 rw[lS h,b];rfl
theorem K2 {a:List oa} {k:Nat} (h:k<a.length):a.getD k ((0:Int),[])∈a:=by rw[aX,bz h,ct];exact dx h
theorem ZA:enters Tryz.prog 153 Tryz.f153:=ek
abbrev Gt:HL [dU,iK,.sl cu]->Prop:=fun ((_,t,_,_),_,a,_)=>length t<1048576/\length a<1048576/\∀ f∈(a:List oa),f.2.length<4611686018427387904
abbrev LV:HL [dU,iK,.sl cu]->HO [.own iK]:=fun ((_,t,_,_),x,a,_)=>(n7 t x a [],())
def my (d t:List Int) (n:Int) (o:List (Fp × Fp)) (x:Int) (a:List oa) (g:Int × Bool × Nat × List Int):St:=ar Tryz.f153.ntmps 48 [(1,sI .i64 x),(3,.is (.one (.ptr 0 0))),(7,bif g.2.1 then .is (.one (.v (.slice none 0 0))) else .is (.one (.sl 40 0 0 g.2.2.1 1))),(10,.is (.one (.ro cu a))),(11,sI .i64 a.length),(12,sI .i64 g.1)] ((0,[.ro iK d,.ro iK t,.v (.int .i64 n),.ro aN o])::(bif g.2.1 then [] else [(40,[.ints .i64 g.2.2.1 g.2.2.2])]))
def Bl (t:List Int) (x:Int) (a:List oa) (g:Int × Bool × Nat × List Int):Prop:=∃ k:Nat,k<=a.length/\g.1=(k:Int)/\n7 t x (a.drop k) g.2.2.2=n7 t x a []/\g.2.2.1=g.2.2.2.length/\(g.2.1=true->g.2.2.2=[])/\g.2.2.2.length<=k
def acO (t:List Int) (x:Int) (a:List oa) (g:Int × Bool × Nat × List Int):Prop:=g.2.2.2=n7 t x a []/\g.2.2.1=g.2.2.2.length/\(g.2.1=true->g.2.2.2=[])
theorem acs:aL Tryz.prog 153 [dU,iK,.sl cu] [.own iK] bx Gt LV:=by
 have D:aD Tryz.prog (aP [ko]):=aJ (aM lW) bp;refine bI (sp:=aP [ko]) ZA ae ae ab ?_;rintro w U ⟨⟨d,t,n,o⟩,x,a,⟨⟩⟩;revert d t n o x a;intro (d:List Int) (t:List Int) (n:Int) (o:List (Fp × Fp)) (x:Int) (a:List oa) _ R;obtain⟨L,F,y⟩:=R;have L:t.length<1048576:=L;have F:a.length<1048576:=F;have y:∀ f∈a,f.2.length<4611686018427387904:=y;show Tr _ _ _ _ _ _ _;refine bd D mixed 3 (my d t n o x a (0,true,0,[])) True ?_ (fun _=>?_);refine al (X:=((my d t n o x a (0,true,0,[])).ag True)) ab ?_;exact ao trivial;refine cd D mixed (fun r=>[(40,rdJ 40 7 r)]) (fun r=>(bg iK 12 r,O9 7 r,ou 7 r,cU iK 40 r)) (my d t n o x a) (Bl t x a) (fun g=>a.length-g.1.toNat)
  (fun r=>(bg iK 12 r,O9 7 r,ou 7 r,cU iK 40 r)) (my d t n o x a) (acO t x a) (0,true,0,[]) (c:=aq (ak Tryz.f153) 3) ab ab (aw ab ab ?_) ?_ ?_
 exact⟨0,a2 _,rfl,rfl,rfl,fun _=>rfl,aE _⟩
 ·rintro⟨i,e,m,l⟩ V;revert i l;intro (i:Int) (l:List Int) ⟨k,W,G,z,P,O,E⟩;have G:i=(k:Int):=G;have z:n7 t x (a.drop k) l=n7 t x a []:=z;have K:m=l.length:=P;have E:l.length<=k:=E;subst G;cases e with
  | true =>
   have I:l=[]:=O rfl;subst I;have Q:m=0:=K;subst Q;refine al (X:=((decide ((k:Int)<(a.length:Int))=true->(0<=(k:Int)/\(k:Int)<(a.length:Int))/\(k:Int).toNat<a.length/\hZ (t,(a.getD (k:Int).toNat (0,[])).fst,())/\(decide ((a.getD (k:Int).toNat (0,[])).fst∈t)=true->hZ ([],(a.getD (k:Int).toNat (0,[])).fst,())/\((!decide ((a.getD (k:Int).toNat (0,[])).fst∈[]))=true->hZ ((a.getD (k:Int).toNat (0,[])).snd,x,())/\(decide (x∈(a.getD (k:Int).toNat (0,[])).snd)=true->0+1<=1/\1*8<=140737488355328/\1<=4611686018427387904/\(my d t n o x a (i64.wrap ((k:Int)+1),false,1,[(a.getD (k:Int).toNat (0,[])).fst])).ag (Bl t x a (i64.wrap ((k:Int)+1),false,1,[(a.getD (k:Int).toNat (0,[])).fst])/\a.length-(i64.wrap ((k:Int)+1)).toNat<a.length-(k:Int).toNat))/\(decide (x∈(a.getD (k:Int).toNat (0,[])).snd)=false->(my d t n o x a (i64.wrap ((k:Int)+1),true,0,[])).ag (Bl t x a (i64.wrap ((k:Int)+1),true,0,[])/\a.length-(i64.wrap ((k:Int)+1)).toNat<a.length-(k:Int).toNat)))/\((!decide ((a.getD (k:Int).toNat (0,[])).fst∈[]))=false->(my d t n o x a (i64.wrap ((k:Int)+1),true,0,[])).ag (Bl t x a (i64.wrap ((k:Int)+1),true,0,[])/\a.length-(i64.wrap ((k:Int)+1)).toNat<a.length-(k:Int).toNat)))/\(decide ((a.getD (k:Int).toNat (0,[])).fst∈t)=false->(my d t n o x a (i64.wrap ((k:Int)+1),true,0,[])).ag (Bl t x a (i64.wrap ((k:Int)+1),true,0,[])/\a.length-(i64.wrap ((k:Int)+1)).toNat<a.length-(k:Int).toNat)))/\(decide ((k:Int)<(a.length:Int))=false->(my d t n o x a ((k:Int),true,0,[])).ag (acO t x a ((k:Int),true,0,[]))))) ab ?_;rw[aB];refine⟨fun h=>?_,fun h=>ao ?_⟩
   ·have b:k<a.length:=by have:=dec_lt h;omega
    have p:a.length-((k+1:Nat):Int).toNat<a.length-(k:Int).toNat:=by rw[aB,aB];omega
    have j:=Ko t x [] b;rw[z] at j;have C:=y _ (K2 b);rw[aS aa];have q:¬ ((a.getD k ((0:Int),[])).1∈t/\(a.getD k ((0:Int),[])).1∉([]:List Int)/\x∈(a.getD k ((0:Int),[])).2)->Bl t x a (((k+1:Nat):Int),true,0,[]):=fun H=>by rw[ah H] at j;exact⟨k+1,b,rfl,j.symm,rfl,fun _=>rfl,a2 _⟩
    refine⟨⟨aa,aa⟩,b,by show t.length<_;omega,fun s=>⟨by show (0:Nat)<4611686018427387904;decide,fun _=>⟨C,fun u=>⟨ae,ae,ae,ao ⟨?_,p⟩⟩,fun u=>ao ⟨q fun c=>Odf u c.2.2,p⟩⟩,fun A=>absurd A au⟩,fun s=>ao ⟨q fun c=>Odf s c.1,p⟩⟩;rw[aj ⟨Odt s,au,Odt u⟩] at j;exact⟨k+1,b,rfl,j.symm,rfl,fun h=>(by cases h),by show 1<=k+1;omega⟩
   ·have:k=a.length:=by have:=bW h;omega
    rw[this,oC] at z;exact⟨z,rfl,fun _=>rfl⟩
  | false =>
   refine al (X:=((decide ((k:Int)<(a.length:Int))=true->(0<=(k:Int)/\(k:Int)<(a.length:Int))/\(k:Int).toNat<a.length/\hZ (t,(a.getD (k:Int).toNat (0,[])).fst,())/\(decide ((a.getD (k:Int).toNat (0,[])).fst∈t)=true->0+m<=m/\hZ (take m l,(a.getD (k:Int).toNat (0,[])).fst,())/\((!decide ((a.getD (k:Int).toNat (0,[])).fst∈take m l))=true->hZ ((a.getD (k:Int).toNat (0,[])).snd,x,())/\(decide (x∈(a.getD (k:Int).toNat (0,[])).snd)=true->0+1<=1/\m<=m/\(m+1)*8<=140737488355328/\m+1<=4611686018427387904/\(my d t n o x a (i64.wrap ((k:Int)+1),false,m+1,take m l++take 1 [(a.getD (k:Int).toNat (0,[])).fst])).ag (Bl t x a (i64.wrap ((k:Int)+1),false,m+1,take m l++take 1 [(a.getD (k:Int).toNat (0,[])).fst])/\a.length-(i64.wrap ((k:Int)+1)).toNat<a.length-(k:Int).toNat))/\(decide (x∈(a.getD (k:Int).toNat (0,[])).snd)=false->(my d t n o x a (i64.wrap ((k:Int)+1),false,m,l)).ag (Bl t x a (i64.wrap ((k:Int)+1),false,m,l)/\a.length-(i64.wrap ((k:Int)+1)).toNat<a.length-(k:Int).toNat)))/\((!decide ((a.getD (k:Int).toNat (0,[])).fst∈take m l))=false->(my d t n o x a (i64.wrap ((k:Int)+1),false,m,l)).ag (Bl t x a (i64.wrap ((k:Int)+1),false,m,l)/\a.length-(i64.wrap ((k:Int)+1)).toNat<a.length-(k:Int).toNat)))/\(decide ((a.getD (k:Int).toNat (0,[])).fst∈t)=false->(my d t n o x a (i64.wrap ((k:Int)+1),false,m,l)).ag (Bl t x a (i64.wrap ((k:Int)+1),false,m,l)/\a.length-(i64.wrap ((k:Int)+1)).toNat<a.length-(k:Int).toNat)))/\(decide ((k:Int)<(a.length:Int))=false->(my d t n o x a ((k:Int),false,m,l)).ag (acO t x a ((k:Int),false,m,l))))) ab ?_;rw[aB];refine⟨fun h=>?_,fun h=>ao ?_⟩
   ·have b:k<a.length:=by have:=dec_lt h;omega
    have p:a.length-((k+1:Nat):Int).toNat<a.length-(k:Int).toNat:=by rw[aB,aB];omega
    have j:=Ko t x l b;rw[z] at j;have C:=y _ (K2 b);simp only[aS (show k<9223372036854775807 by omega),K,aV];have q:¬ ((a.getD k ((0:Int),[])).1∈t/\(a.getD k ((0:Int),[])).1∉l/\x∈(a.getD k ((0:Int),[])).2)->Bl t x a (((k+1:Nat):Int),false,l.length,l):=fun H=>by rw[ah H] at j;exact⟨k+1,b,rfl,j.symm,rfl,fun h=>(by cases h),by show l.length<=k+1;omega⟩
    refine⟨⟨aa,aa⟩,b,by show t.length<_;omega,fun s=>⟨aa,by show l.length<_;omega,fun A=>⟨C,fun u=>⟨ae,aa,aa,aa,ao ⟨?_,p⟩⟩,fun u=>ao ⟨q fun c=>Odf u c.2.2,p⟩⟩,fun A=>ao ⟨q fun c=>c.2.1 (by simpa using A),p⟩⟩,fun s=>ao ⟨q fun c=>Odf s c.1,p⟩⟩;rw[aj ⟨Odt s,by simpa using A,Odt u⟩] at j;exact⟨k+1,b,rfl,j.symm,by show l.length+1=(l++[(a.getD k ((0:Int),[])).1]).length;simp,fun h=>(by cases h),by show (l++[(a.getD k ((0:Int),[])).1]).length<=k+1;simp;omega⟩
   ·have:k=a.length:=by have:=bW h;omega
    rw[this,oC] at z;exact⟨z,K,fun h=>(by cases h)⟩
 rintro⟨i,e,m,l⟩ Y;revert i l;intro (i:Int) (l:List Int) ⟨s,A,u⟩;have N:l=n7 t x a []:=s;have T:m=l.length:=A;refine bE D mixed _ _ ?_;cases e with
 | true =>have I:l=[]:=u rfl;refine al (X:=(([],())=LV ((d,t,n,o),x,a,()))) ab ?_;show _=(n7 t x a [],());rw[<- N,I]
 | false =>refine al (X:=(0+m<=m/\(take m l,())=LV ((d,t,n,o),x,a,()))) ab ?_;rw[T,aV];exact⟨aa,by show _=(n7 t x a [],());rw[N]⟩
def nm (t:List Int) (x:Int) (a:List oa):List Int:=eS (n7 t x a [])
theorem acX:aL Tryz.prog 153 [dU,iK,.sl cu] [.val (.sl iK)] bx Gt (fun ((_,t,_,_),x,a,_)=>(nm t x a,())):=aL.out acs.AE fun ((_,t,_,_),x,a,_)=>by show (nm t x a,())=(n7 t x a [],());rw[nm,bf]
def YP:Nat × Eng.Spec:=(153,aH [dU,iK,.sl cu] [.val (.sl iK)] Gt (fun ((_,t,_,_),x,a,_)=>(nm t x a,())))
theorem acY:aL Tryz.prog 109 [.sl cl,Fz] [.val iK] bx (fun (a,_,_)=>length a<4611686018427387904) (fun (a,(_,x),_)=>(ib a x,())):=acy.out fun (a,(_,x),_)=>by show (ib a x,())=(du (fun d:Dl=>d.1==x) a,());rw[ib,bf]
def YR:Nat × Eng.Spec:=(109,aH [.sl cl,Fz] [.val iK] (fun (a,_,_)=>length a<4611686018427387904) (fun (a,(_,x),_)=>(ib a x,())))
theorem Vp:enters Tryz.prog 112 Tryz.f112:=ek
def px (t:List Int) (n x:Int) (a:List Dl) (b:List oa) (d:List Pf):Bool:=nK a n x&&(decide (((nm t x b).length:Int)<n)&&(nm t x b).all fun y=>qi d x y (cO a x))
abbrev yJ:HL [dU,iK,.sl cl,.sl cu,.sl cz]->Prop:=fun ((_,t,n,_),_,ds,fs,ps,_)=>(length t<1048576/\length fs<1048576/\(∀ f∈(fs:List oa),f.2.length<4611686018427387904))/\length ds<4611686018427387904/\length ps<4611686018427387904/\(∀ y∈(t:List Int),fh y)/\n<1048576
abbrev sW:HL [dU,iK,.sl cl,.sl cu,.sl cz]->HO [.val .bool]:=fun ((_,t,n,_),x,a,b,d,_)=>(px t n x a b d,())
def leA (d t:List Int) (n:Int) (o:List (Fp × Fp)) (x:Int) (a:List Dl) (b:List oa) (e:List Pf) (I:Int):St:=ar Tryz.f112.ntmps 56 [(2,.is (.one (.ro cl a))),(3,.is (.one (.ro cu b))),(4,.is (.one (.ro cz e))),(5,.is (.one (.ptr 0 0))),(6,.is (.one (.ptr 8 0))),(11,sI .i64 I)] [(8,[.v (.int .i64 x)]),(0,[.ro iK d,.ro iK t,.v (.int .i64 n),.ro aN o])]
def leB (d t:List Int) (n:Int) (o:List (Fp × Fp)) (x:Int) (a:List oa) (b:List Pf) (c:List (Fp × Fp)):St:=ar Tryz.f112.ntmps 216 [(3,.is (.one (.ro cu a))),(4,.is (.one (.ro cz b))),(5,.is (.one (.ptr 0 0))),(6,.is (.one (.ptr 8 0))),(12,.is (.one (.ptr 200 0)))] [(200,[.ro aN c]),(8,[.v (.int .i64 x)]),(0,[.ro iK d,.ro iK t,.v (.int .i64 n),.ro aN o])]
def leC (d t:List Int) (n:Int) (o:List (Fp × Fp)) (x:Int) (a:List Pf) (c:List (Fp × Fp)) (by':List Int):St:=ar Tryz.f112.ntmps 216 [(4,.is (.one (.ro cz a))),(6,.is (.one (.ptr 8 0))),(12,.is (.one (.ptr 200 0))),(13,.is (.one (.ro iK by')))] [(200,[.ro aN c]),(8,[.v (.int .i64 x)])]
def OI (x:Int) (a:List Pf) (c:List (Fp × Fp)) (by':List Int) (g:Int):St:=ar Tryz.f112.ntmps 216 [(4,.is (.one (.ro cz a))),(6,.is (.one (.ptr 8 0))),(12,.is (.one (.ptr 200 0))),(47,.is (.one (.ro iK by'))),(48,sI .i64 by'.length),(49,sI .i64 g)] [(200,[.ro aN c]),(8,[.v (.int .i64 x)])]
theorem NJ (t:List Int) (x:Int):∀ (a:List oa) (l:List Int),(∀ y∈l,y∈t)->∀ y∈n7 t x a l,y∈t
 | [],l,h=>h
 | f::a,l,h=>NJ t x a _ fun y hy=>by split at hy;rename_i b;rcases List.mem_append.1 hy with hy|hy;exact h y hy;rw[gk] at hy;rw[hy];exact b.1;exact h y hy
theorem yg (t:List Int) (x:Int):∀ (a:List oa) (l:List Int),(n7 t x a l).length<=l.length+a.length
 | [],l=>aE _
 | f::a,l=>by
  have:=yg t x a (if f.1∈t/\f.1∉l/\x∈f.2 then l++[f.1] else l);have b:(if f.1∈t/\f.1∉l/\x∈f.2 then l++[f.1] else l).length<=l.length+1:=by split<;>simp
  show (n7 t x a _).length<=_;simp only[bG];omega
theorem Z3:aL Tryz.prog 112 [dU,iK,.sl cl,.sl cu,.sl cz] [.val .bool] bx yJ sW:=by
 have m:aD Tryz.prog (aP [YR,YP,YV]):=aJ (aM acY) (aJ (aM acX) (aJ (aM acv) bp));refine bI (sp:=aP [YR,YP,YV]) Vp ae ae ab ?_;rintro w M0 ⟨⟨d,t,n,o⟩,x,a,e,b,⟨⟩⟩;revert d t n o x a e b;intro (d:List Int) (t:List Int) (n:Int) (o:List (Fp × Fp)) (x:Int) (a:List Dl) (e:List oa) (b:List Pf) _ hp;obtain⟨⟨O,z,N⟩,u,A,P,U⟩:=hp;have O:t.length<1048576:=O;have z:e.length<1048576:=z;have u:a.length<4611686018427387904:=u;have A:b.length<4611686018427387904:=A;have U:n<1048576:=U;show Tr _ _ _ _ _ _ _;refine bd m mixed 2 (leA d t n o x a e b (ib a x)) True ?_ (fun _=>?_);refine al (X:=(a.length<4611686018427387904/\(leA d t n o x a e b (ib a x)).ag True)) ab ?_;exact⟨u,ao trivial⟩;generalize F:ib a x=I;have R:I.toNat<a.length\/I<0:=by rcases Int.lt_or_le I 0 with h|h;exact .inr h;left;rw[<- F,ib,bf,du] at h ⊢;split at h;rename_i j;rw[aj j];omega;exact absurd h aa
 have s:nK a n x=false->(false,())=sW ((d,t,n,o),x,a,e,b,()):=fun h=>by show _=(px t n x a e b,());rw[px,h];rfl
 refine jO m mixed 3 (fun D=>pP (.sl aN) 200 D) (leB d t n o x e b) (fun c=>c=cO a x/\nK a n x=true) ?_ ?_
 ·refine al (X:=((decide (I<0)=true->(false,())=sW ((d,t,n,o),x,a,e,b,()))/\(decide (I<0)=false->(0<=I/\I<(a.length:Int))/\I.toNat<a.length/\(((↑(a.getD I.toNat (0,[])).snd.length:Int) != n)=true->(false,())=sW ((d,t,n,o),x,a,e,b,()))/\(((↑(a.getD I.toNat (0,[])).snd.length:Int) != n)=false->(0<=I/\I<(a.length:Int))/\I.toNat<a.length/\(leB d t n o x e b (a.getD I.toNat (0,[])).snd).ag ((a.getD I.toNat (0,[])).snd=cO a x/\nK a n x=true))))) ab ?_;have Z:(a.getD I.toNat ((0:Int),([]:List (Fp × Fp)))).2=cO a x:=by rw[cO,F]
  rw[Z];refine⟨fun h=>s (by rw[nK,F,cp (by have:=Odt h;omega)];rfl),fun h=>?_⟩;have H:0<=I:=by have:=Odf h;omega
  have Q:I.toNat<a.length:=aa;refine⟨⟨H,aa⟩,Q,fun j=>s ?_,fun j=>?_⟩
  ·have j:¬ ((cO a x).length:Int)=n:=by simpa using j
   rw[nK,cp j,fK]
  ·have j:((cO a x).length:Int)=n:=by simpa using j
   exact⟨⟨H,aa⟩,Q,ao ⟨rfl,by rw[nK,F,bX H,bX j];rfl⟩⟩
 intro (c:List (Fp × Fp)) ⟨L,r⟩;have x1:c.length<1048576:=by have h:=r;rw[nK,aQ] at h;have:=Odt h.2;rw[L];omega
 refine jO m mixed 3 (fun D=>GB iK 13 D) (leC d t n o x b c) (fun l=>l=nm t x e/\((nm t x e).length:Int)<n) ?_ ?_;refine al (X:=(Gt ((d,t,n,o),x,e,())/\(decide ((↑(nm t x e).length:Int)>=n)=true->(false,())=sW ((d,t,n,o),x,a,e,b,()))/\(decide ((↑(nm t x e).length:Int)>=n)=false->(leC d t n o x b c (nm t x e,()).fst).ag (nm t x e=nm t x e/\(↑(nm t x e).length:Int)<n)))) ab ?_;refine⟨⟨O,z,N⟩,fun h=>?_,fun h=>ao ⟨rfl,by have:=Odf h;omega⟩⟩;show _=(px t n x a e b,());rw[px,r,cp (show ¬ ((nm t x e).length:Int)<n by have:=Odt h;omega)];rfl;intro (by':List Int) ⟨q,E⟩;have K:∀ y∈by',y∈t:=by rw[q,nm,bf];exact NJ t x e [] au
 have x0:by'.length<1048576:=by have:=yg t x e [];rw[q,nm,bf];simp at this;omega
 refine bd m mixed 1 (OI x b c by' 0) True ?_ (fun _=>?_);refine al (X:=((OI x b c by' 0).ag True)) ab ?_;exact ao trivial;refine cd m mixed h9 (fun D=>bg iK 49 D) (OI x b c by') (fun g=>∃ k:Nat,k<=by'.length/\g=(k:Int)/\∀ y∈by'.take k,qi b x y c=true) (fun g=>by'.length-g.toNat)
  (fun D=>bg iK 49 D) (OI x b c by') (fun _=>by'.all (fun y=>qi b x y c)=true) 0 (c:=aq (ak Tryz.f112) 9) ab ab (aw ab ab ?_) ?_ ?_
 exact⟨0,a2 _,rfl,au⟩
 ·intro (i:Int) ⟨k,hk,V,f⟩;subst V;refine al (X:=((decide ((k:Int)<(↑by'.length:Int))=true->(0<=(k:Int)/\(k:Int)<(↑by'.length:Int))/\(k:Int).toNat<by'.length/\(b.length<4611686018427387904/\rW (by'.getD (k:Int).toNat 0) c)/\((!qi b x (by'.getD (k:Int).toNat 0) c)=true->(false,())=sW ((d,t,n,o),x,a,e,b,()))/\((!qi b x (by'.getD (k:Int).toNat 0) c)=false->(OI x b c by' (i64.wrap ((k:Int)+1))).ag ((∃ C,C<=by'.length/\i64.wrap ((k:Int)+1)=(C:Int)/\∀ (y:Int),y∈take C by'->qi b x y c=true)/\by'.length-(i64.wrap ((k:Int)+1)).toNat<by'.length-(k:Int).toNat)))/\(decide ((k:Int)<(↑by'.length:Int))=false->(OI x b c by' (k:Int)).ag ((by'.all fun y=>qi b x y c)=true)))) ab ?_;rw[aB];refine⟨fun h=>?_,fun h=>ao ?_⟩
  ·have p:k<by'.length:=by have:=dec_lt h;omega
   have hg:by'.getD k 0=by'[k]:=by rw[aX,bz p,ct]
   have T:by'[k]∈by':=dx p;rw[hg,aS aa];refine⟨⟨aa,aa⟩,p,⟨A,aa,P _ (K _ T)⟩,fun j=>?_,fun j=>ao ⟨⟨k+1,p,rfl,fun y G=>?_⟩,by rw[aB];omega⟩⟩
   ·have W:qi b x by'[k] c=false:=by simpa using j
    have Y:by'.all (fun y=>qi b x y c)=false:=by
     cases hb:by'.all (fun y=>qi b x y c) with
     | false=>rfl
     | true =>have:=List.all_eq_true.1 hb _ T;rw[W] at this;cases this
    show _=(px t n x a e b,());rw[px,r,bX E,<- q,<- L,Y];rfl
   rw[cr p,lu,gk] at G;rcases G with G|rfl;exact f y G;simpa using j
  ·have:k=by'.length:=by have:=bW h;omega
   rw[this,aV] at f;exact List.all_eq_true.2 f
 intro (i:Int) f;refine bE m mixed _ _ ?_;refine al (X:=((true,())=sW ((d,t,n,o),x,a,e,b,()))) ab ?_;show _=(px t n x a e b,());rw[px,r,bX E,<- q,<- L,f];rfl
def om (t:List Int) (n x:Int) (ds:List Dl) (fs:List oa) (ps:List Pf):Bool:=eS (px t n x ds fs ps)
theorem aaf:aL Tryz.prog 112 [dU,iK,.sl cl,.sl cu,.sl cz] [.val .bool] bx yJ (fun ((_,t,n,_),x,ds,fs,ps,_)=>(om t n x ds fs ps,())):=Z3.out fun ((_,t,n,_),x,ds,fs,ps,_)=>by show (om t n x ds fs ps,())=(px t n x ds fs ps,());rw[om,bf]
def Uf:Nat × Eng.Spec:=(112,aH [dU,iK,.sl cl,.sl cu,.sl cz] [.val .bool] yJ (fun ((_,t,n,_),x,ds,fs,ps,_)=>(om t n x ds fs ps,())))
theorem Vy:enters Tryz.prog 70 Tryz.f70:=ek
def gD (d t:List Int) (n:Int) (ds:List Dl) (fs:List oa) (ps:List Pf):List Int:=d.filter fun x=>om t n x ds fs ps
abbrev Di:HL [dU,.sl cl,.sl cu,.sl cz]->Prop:=fun ((d,t,n,_),ds,fs,ps,_)=>length d<1048576/\(length t<1048576/\length fs<1048576/\(∀ f∈(fs:List oa),f.2.length<4611686018427387904))/\length ds<4611686018427387904/\length ps<4611686018427387904/\(∀ y∈(t:List Int),fh y)/\n<1048576
abbrev H3:HL [dU,.sl cl,.sl cu,.sl cz]->HO [.own iK]:=fun ((d,t,n,_),ds,fs,ps,_)=>(gD d t n ds fs ps,())
def D0 (d t:List Int) (n:Int) (o:List (Fp × Fp)) (ds:List Dl) (fs:List oa) (ps:List Pf) (g:Int × Bool × Nat × List Int):St:=ar Tryz.f70.ntmps 56 [(1,.is (.one (.ro cl ds))),(2,.is (.one (.ro cu fs))),(3,.is (.one (.ro cz ps))),(4,.is (.one (.ptr 0 0))),(9,bif g.2.1 then .is (.one (.v (.slice none 0 0))) else .is (.one (.sl 48 0 0 g.2.2.1 1))),(13,.is (.one (.ro iK d))),(14,sI .i64 d.length),(15,sI .i64 g.1)] ((0,[.ro iK d,.ro iK t,.v (.int .i64 n),.ro aN o])::(bif g.2.1 then [] else [(48,[.ints .i64 g.2.2.1 g.2.2.2])]))
def TR (d t:List Int) (n:Int) (ds:List Dl) (fs:List oa) (ps:List Pf) (g:Int × Bool × Nat × List Int):Prop:=∃ k:Nat,k<=d.length/\g.1=(k:Int)/\g.2.2.2=gD (d.take k) t n ds fs ps/\g.2.2.1=g.2.2.2.length/\(g.2.1=true->g.2.2.2=[])
def quO (d t:List Int) (n:Int) (ds:List Dl) (fs:List oa) (ps:List Pf) (g:Int × Bool × Nat × List Int):Prop:=g.2.2.2=gD d t n ds fs ps/\g.2.2.1=g.2.2.2.length/\(g.2.1=true->g.2.2.2=[])
theorem Ju {d t:List Int} {n:Int} {ds:List Dl} {fs:List oa} {ps:List Pf} {k:Nat} (h:k<d.length):gD (d.take (k+1)) t n ds fs ps=gD (d.take k) t n ds fs ps++if om t n d[k] ds fs ps=true then [d[k]] else []:=by rw[gD,cr h,qz,gD];congr 1;by_cases a:om t n d[k] ds fs ps=true;rw[aj a,List.filter_cons_of_pos (by simpa using a)];rfl;rw[ah a,List.filter_cons_of_neg (by simpa using a)];rfl
theorem Z9:aL Tryz.prog 70 [dU,.sl cl,.sl cu,.sl cz] [.own iK] bx Di H3:=by
 have r:aD Tryz.prog (aP [Uf]):=aJ (aM aaf) bp;refine bI (sp:=aP [Uf]) Vy ae ae ab ?_;rintro w N ⟨⟨d,t,n,o⟩,ds,fs,ps,⟨⟩⟩;revert d t n o ds fs ps;intro (d:List Int) (t:List Int) (n:Int) (o:List (Fp × Fp)) (ds:List Dl) (fs:List oa) (ps:List Pf) _ ⟨A,C⟩;have A:d.length<1048576:=A;show Tr _ _ _ _ _ _ _;refine bd r mixed 3 (D0 d t n o ds fs ps (0,true,0,[])) True ?_ (fun _=>?_);refine al (X:=((D0 d t n o ds fs ps (0,true,0,[])).ag True)) ab ?_;exact ao trivial;refine cd r mixed (fun j=>[(48,rdJ 48 9 j)]) (fun j=>(bg iK 15 j,O9 9 j,ou 9 j,cU iK 48 j)) (D0 d t n o ds fs ps) (TR d t n ds fs ps) (fun g=>d.length-g.1.toNat)
  (fun j=>(bg iK 15 j,O9 9 j,ou 9 j,cU iK 48 j)) (D0 d t n o ds fs ps) (quO d t n ds fs ps) (0,true,0,[]) (c:=aq (ak Tryz.f70) 3) ab ab (aw ab ab ?_) ?_ ?_
 exact⟨0,a2 _,rfl,rfl,rfl,fun _=>rfl⟩
 ·rintro⟨i,e,m,l⟩ O;revert i l;intro (i:Int) (l:List Int) ⟨k,P,u,p,F,E⟩;have u:i=(k:Int):=u;have p:l=gD (d.take k) t n ds fs ps:=p;have z:m=l.length:=F;subst u;cases e with
  | true =>
   have y:l=[]:=E rfl;subst y;have K:m=0:=z;subst K;refine al (X:=((decide ((k:Int)<(d.length:Int))=true->(0<=(k:Int)/\(k:Int)<(d.length:Int))/\(k:Int).toNat<d.length/\yJ ((d,t,n,o),d.getD (k:Int).toNat 0,ds,fs,ps,())/\(om t n (d.getD (k:Int).toNat 0) ds fs ps=true->0+1<=1/\1*8<=140737488355328/\1<=4611686018427387904/\(D0 d t n o ds fs ps (i64.wrap ((k:Int)+1),false,1,[d.getD (k:Int).toNat 0])).ag (TR d t n ds fs ps (i64.wrap ((k:Int)+1),false,1,[d.getD (k:Int).toNat 0])/\d.length-(i64.wrap ((k:Int)+1)).toNat<d.length-(k:Int).toNat))/\(om t n (d.getD (k:Int).toNat 0) ds fs ps=false->(D0 d t n o ds fs ps (i64.wrap ((k:Int)+1),true,0,[])).ag (TR d t n ds fs ps (i64.wrap ((k:Int)+1),true,0,[])/\d.length-(i64.wrap ((k:Int)+1)).toNat<d.length-(k:Int).toNat)))/\(decide ((k:Int)<(d.length:Int))=false->(D0 d t n o ds fs ps ((k:Int),true,0,[])).ag (quO d t n ds fs ps ((k:Int),true,0,[]))))) ab ?_;rw[aB];refine⟨fun h=>?_,fun h=>ao ?_⟩
   ·have a:k<d.length:=by have:=dec_lt h;omega
    have x:d.getD k 0=d[k]:=by rw[aX,bz a,ct]
    have b:=Ju (t:=t) (n:=n) (ds:=ds) (fs:=fs) (ps:=ps) a;rw[<- p] at b;have f:d.length-((k+1:Nat):Int).toNat<d.length-(k:Int).toNat:=by rw[aB,aB];omega
    rw[x,aS aa];refine⟨⟨aa,aa⟩,a,C,fun q=>⟨ae,ae,ae,ao ⟨⟨k+1,a,rfl,?_,rfl,fun h=>(by cases h)⟩,f⟩⟩,fun q=>ao ⟨⟨k+1,a,rfl,?_,rfl,fun _=>rfl⟩,f⟩⟩;rw[b,aj q];rfl;rw[b,ah (by rw[q];decide)];rfl
   ·have:k=d.length:=by have:=bW h;omega
    rw[this,aV] at p;exact⟨p,rfl,fun _=>rfl⟩
  | false =>
   refine al (X:=((decide ((k:Int)<(d.length:Int))=true->(0<=(k:Int)/\(k:Int)<(d.length:Int))/\(k:Int).toNat<d.length/\yJ ((d,t,n,o),d.getD (k:Int).toNat 0,ds,fs,ps,())/\(om t n (d.getD (k:Int).toNat 0) ds fs ps=true->0+1<=1/\m<=m/\(m+1)*8<=140737488355328/\m+1<=4611686018427387904/\(D0 d t n o ds fs ps (i64.wrap ((k:Int)+1),false,m+1,take m l++take 1 [d.getD (k:Int).toNat 0])).ag (TR d t n ds fs ps (i64.wrap ((k:Int)+1),false,m+1,take m l++take 1 [d.getD (k:Int).toNat 0])/\d.length-(i64.wrap ((k:Int)+1)).toNat<d.length-(k:Int).toNat))/\(om t n (d.getD (k:Int).toNat 0) ds fs ps=false->(D0 d t n o ds fs ps (i64.wrap ((k:Int)+1),false,m,l)).ag (TR d t n ds fs ps (i64.wrap ((k:Int)+1),false,m,l)/\d.length-(i64.wrap ((k:Int)+1)).toNat<d.length-(k:Int).toNat)))/\(decide ((k:Int)<(d.length:Int))=false->(D0 d t n o ds fs ps ((k:Int),false,m,l)).ag (quO d t n ds fs ps ((k:Int),false,m,l))))) ab ?_;rw[aB];have I:l.length<=k:=by have s:l=gD (d.take k) t n ds fs ps:=p;rw[s,gD];exact ja (oM _ _) (by rw[cX];omega)
   refine⟨fun h=>?_,fun h=>ao ?_⟩
   ·have a:k<d.length:=by have:=dec_lt h;omega
    have x:d.getD k 0=d[k]:=by rw[aX,bz a,ct]
    have b:=Ju (t:=t) (n:=n) (ds:=ds) (fs:=fs) (ps:=ps) a;rw[<- p] at b;have f:d.length-((k+1:Nat):Int).toNat<d.length-(k:Int).toNat:=by rw[aB,aB];omega
    rw[x,aS aa,z,aV];refine⟨⟨aa,aa⟩,a,C,fun q=>⟨ae,aa,aa,aa,ao ⟨⟨k+1,a,rfl,?_,by show l.length+1=(l++[d[k]]).length;simp,fun h=>(by cases h)⟩,f⟩⟩,fun q=>ao ⟨⟨k+1,a,rfl,?_,rfl,fun h=>(by cases h)⟩,f⟩⟩;rw[b,aj q];rfl;rw[b,ah (by rw[q];decide)];exact (bq l).symm
   ·have:k=d.length:=by have:=bW h;omega
    rw[this,aV] at p;exact⟨p,z,fun h=>(by cases h)⟩
 rintro⟨i,e,m,l⟩ Q;revert i l;intro (i:Int) (l:List Int) ⟨G,q,H⟩;have D:l=gD d t n ds fs ps:=G;have L:m=l.length:=q;refine bE r mixed _ _ ?_;cases e with
 | true =>have y:l=[]:=H rfl;refine al (X:=(([],())=H3 ((d,t,n,o),ds,fs,ps,()))) ab ?_;show _=(gD d t n ds fs ps,());rw[<- D,y]
 | false =>refine al (X:=(0+m<=m/\(take m l,())=H3 ((d,t,n,o),ds,fs,ps,()))) ab ?_;rw[L,aV];exact⟨aa,by show _=(gD d t n ds fs ps,());rw[D]⟩
end deal
namespace rite
open Go.IntKind(i64)
open Go.IntKind(i64 u8)
open Go.IntKind(i64 u64 u32)
open Go.IntKind(i64 u64 u8 u32)
set_option maxHeartbeats 4000000
open hub deal
def cS (R:Rt):List Int:=eS (gD R.dealers R.takers R.need R.deals R.faults R.proofs)
def fO (R:Rt):List Pt × Int:=law22.rE R.dealers R.need R.old (cS R) R.deals
theorem aah:aL Tryz.prog 70 [dU,.sl cl,.sl cu,.sl cz] [.own iK] bx Di (fun ((d,t,n,_),a,b,c,_)=>(eS (gD d t n a b c),())):=Z9.out fun ((d,t,n,_),a,b,c,_)=>by show (eS (gD d t n a b c),())=(gD d t n a b c,());rw[bf]
def aeQ:Nat × Eng.Spec:=(70,aH [dU,.sl cl,.sl cu,.sl cz] [.own iK] Di (fun ((d,t,n,_),a,b,c,_)=>(eS (gD d t n a b c),())))
theorem VU:aL Tryz.prog 71 [dU,.sl iK,.sl cl] [.own aN,.val iK] bx Df (fun ((d,_,n,o),q,a,_)=>((law22.rE d n o q a).1,(law22.rE d n o q a).2,())):=VM.out fun ((d,t,n,o),q,a,_)=>by show ((law22.rE d n o q a).1,(law22.rE d n o q a).2,())=((nv d n o q a).1,(nv d n o q a).2,());rw[law22.rE,bf]
def abn:Nat × Eng.Spec:=(71,aH [dU,.sl iK,.sl cl] [.own aN,.val iK] Df (fun ((d,_,n,o),q,a,_)=>((law22.rE d n o q a).1,(law22.rE d n o q a).2,())))
theorem O8 (R:Rt):(cS R).length<=R.dealers.length:=by rw[cS,bf];exact oM _ _
theorem OE (R:Rt) (h:R.need<1000):(fO R).1.length<1000:=by rw[fO,law22.rE,bf,nv,xd];split;split;rename_i a;rcases Te R.deals (cK R.dealers R.old (cS R)).1 (cK R.dealers R.old (cS R)).2.1 R.need _ (aE _) (fun x b=>List.all_eq_true.1 a x (by rw[aV] at b;exact b)) with k|k;show (jS _ _ _ _).length<_;omega;show (jS _ _ _ _).length<_;omega;exact mS _;exact mS _
def fN (R:Rt):Option (List Int × List Pt × Fr × List Int) × Int :=
 if (fO R).2=0 then
  if R.me∈R.takers then
   if (gM R (cS R)).2=0 then (some (cS R,(fO R).1,(gM R (cS R)).1,mW (cS R) (fO R).1),0) else (none,(gM R (cS R)).2)
  else (some (cS R,(fO R).1,0,mW (cS R) (fO R).1),0)
 else (none,(fO R).2)
def kh (R:Rt):Ob.ai:=match (fN R).1 with
 | some e=>pQ R e
 | none=>bw { R with fault:=(fN R).2 }
theorem FM:enters Tryz.prog 39 Tryz.f39:=ek
abbrev jI:Func:=Tryz.f39
abbrev VH:=aP [aeQ,abn,W8]
theorem iC:aD Tryz.prog VH:=aJ (aM aah) (aJ (aM VU) (aJ (fgk SG) bp))
def fiA (p:Nat):St:=ar jI.ntmps 8 [(0,aG p)] []
def fiB (R:Rt):St:=ar jI.ntmps 14 [(0,.is (.one (.ptr 8 0)))] (ig R (bh++[.v (.int .i64 R.fault)]))
def fiC (R:Rt) (n:Nat) (q:List Int):St:=ar jI.ntmps 143 [(0,.is (.one (.ptr 8 0))),(3,.is (.one (.sl 142 0 0 n 1)))] ((142,[.ints .i64 n q])::ig R (bh++[.v (.int .i64 R.fault)]))
def fiD (R:Rt) (q:List Int):St:=ar jI.ntmps 143 [(0,.is (.one (.ptr 8 0))),(3,.is (.one (.ro iK q)))] (ig R (bh++[.v (.int .i64 R.fault)]))
def Sx (R:Rt) (q:List Int) (g:Nat × List Pt × Int) (a:List (Nat × SV)):St:=ar jI.ntmps 216 ([(0,.is (.one (.ptr 8 0))),(3,.is (.one (.ro iK q))),(4,.is (.one (.sl 215 0 0 g.1 12))),(5,sI .i64 g.2.2)]++a) ((215,[.row aN g.1 g.2.1])::ig R (bh++[.v (.int .i64 R.fault)]))
def fiG (R:Rt) (e:Int):St:=ar jI.ntmps 14 [(2,fg)] (ig R (bh++[.v (.int .i64 (e))]))
def fiN:St:=ar jI.ntmps 8 [(2,fg)] []
def fiH (R:Rt) (q:List Int) (c:List Pt) (e:Int):St:=ar jI.ntmps 217 [(0,.is (.one (.ptr 8 0))),(3,.is (.one (.ro iK q))),(4,.is (.one (.ro aN c))),(5,sI .i64 e),(6,.is (.one (.ptr 216 0)))] ((216,[.row .fr 1 [(0:Fr)]])::ig R (bh++[.v (.int .i64 R.fault)]))
def BM (p:Nat) (q:List Int) (c:List Pt) (s:Fr) (b i:Nat) (a:List (Nat × SV)):St:=ar jI.ntmps b ([(0,aG p),(3,.is (.one (.ro iK q))),(4,.is (.one (.ro aN c))),(6,.is (.one (.ptr i 0)))]++a) [(i,[.row .fr 1 [s]])]
def fiO (R:Rt) (q:List Int) (c:List Pt) (s:Fr) (a:List (Nat × SV)):St:=ar jI.ntmps 14 ([(0,.is (.one (.ptr 8 0))),(3,.is (.one (.ro iK q))),(4,.is (.one (.ro aN c))),(6,.is (.one (.ptr 0 0)))]++a) ((0,[.row .fr 1 [s]])::ig R (bh++[.v (.int .i64 R.fault)]))
def fiZ (R:Rt) (e:List Int × List Pt × Fr × List Int):St:=ar jI.ntmps 14 [(2,fg)] (ig R (kG e++[.v (.int .i64 R.fault)]))
section
variable (w0:World) (M0:Mem) (F0:Nat->Prop)
abbrev vy:Ob.b5:=Ob.kO Tryz.prog VH sha.dE w0 M0 F0
theorem Sy (R:Rt) (q:List Int) (b:q.length<100000) (c:List Pt) (d:c.length<1000) (s:Fr) (G:Ob.ai) {Q:SV->Ob.ai->Prop} (a:Q fg (Ob.ai.sep (pQ R (q,c,s,mW q c)) G)) :
  Ob.aK Tryz.prog ((ak jI).drop 8) (Ob.GH (vy w0 M0 F0) jI.ntmps (BM R.p q c s 8 0 []) (Ob.ai.sep (bw R) G)) (Ob.cP (vy w0 M0 F0) jI Q) (Ob.cP (vy w0 M0 F0) jI Q) (fun _ _ _=>False):=by
 refine Ob.aO (G':=Ob.ai.obj (dF R (bh++[.v (.int .i64 R.fault)])) R.p G) (by unfold bw;exact (Ob.bB _ _ _).symm) ?_;refine Ob.gZ [0] (fiO R q c s []) ?_;refine Ob.gcd iC 2 (fun _=>()) (fun _=>fiZ R (q,c,s,mW q c)) (fun _=>True) ?_ (fun _ _=>?_);intro w ids M num;refine @al ((∀ (g:Nat) (s:Sigma aA),sha.dE g=some s->Decidable.rec (fun h=>(fun x=>if g=1 then some ⟨Kd.arr 64 sha.uK,sha.jD⟩ else none) h) (fun h=>(fun x=>some ⟨Kd.arr 8 sha.uK,sha.ep⟩) h) (instDecidableEqNat g 0)=some s)/\Q7 (q,c,())/\(fiZ R (q,c,s,mW q c)).ag True) _ ?_ ?_;kernel_rfl;exact⟨fun g s h=>h,⟨b,by show c.length<_;omega⟩,ao trivial⟩;refine Ob.fk (E:=(vy w0 M0 F0)) (bl:=dF R (kG (q,c,s,mW q c)++[.v (.int .i64 R.fault)])) [] [8,9,10,11,12,13] 9 (fiN) ?_;refine Ob.aO (G':=Ob.ai.sep (pQ R (q,c,s,mW q c)) G) (by unfold pQ;exact Ob.bB _ _ _) ?_;exact Ob.pM iC fg a
theorem aco (R:Rt) (e:Int) (q:List Int) (g:Nat × List Pt × Int) (a:g.2.2=e) (G:Ob.ai) {Q:SV->Ob.ai->Prop} (b:Q fg (Ob.ai.sep (bw { R with fault:=e }) G)) :
  Ob.aK Tryz.prog (fV (aq (ak jI) 4)++(ak jI).drop 5) (Ob.GH ((vy w0 M0 F0).pinned 8 R.p) jI.ntmps (Sx R q g [(38,av true)]) G) (Ob.cP (vy w0 M0 F0) jI Q) (Ob.cP (vy w0 M0 F0) jI Q) (fun _ _ _=>False):=by
 subst a;refine Ob.ee iC 2 (fiG R g.2.2) ?_;refine Ob.fk (E:=(vy w0 M0 F0)) (bl:=dF { R with fault:=g.2.2 } (bh++[.v (.int .i64 g.2.2)])) [] [8,9,10,11,12,13] 9 (fiN) ?_;refine Ob.aO (G':=Ob.ai.sep (bw { R with fault:=g.2.2 }) G) (by unfold bw;exact Ob.bB _ _ _) ?_;refine Ob.gF iC mixed fg ?_ b;intro w ids M num;refine @al (SV.is (TV.one (Cell.v (Value.slice none 0 0)))=fg) _ ?_ ?_;kernel_rfl;rfl
theorem ZS (R:Rt) (e:Int) (q:List Int) (c:List Pt) (s:Fr) (G:Ob.ai) {Q:SV->Ob.ai->Prop} (a:Q fg (Ob.ai.sep (bw { R with fault:=e }) G)) :
  Ob.aK Tryz.prog (fV (aq (fV (aq (ak jI) 7)) 2)++(ak jI).drop 8) (Ob.GH (vy w0 M0 F0) jI.ntmps (BM R.p q c s 8 0 [(5,sI .i64 e),(52,av true)]) (Ob.ai.sep (bw R) G)) (Ob.cP (vy w0 M0 F0) jI Q) (Ob.cP (vy w0 M0 F0) jI Q) (fun _ _ _=>False):=by
 refine Ob.aO (G':=Ob.ai.obj (dF R (bh++[.v (.int .i64 R.fault)])) R.p G) (by unfold bw;exact (Ob.bB _ _ _).symm) ?_;refine Ob.gZ [0] (fiO R q c s [(5,sI .i64 e)]) ?_;refine Ob.ee iC 2 (fiG R e) ?_;refine Ob.fk (E:=(vy w0 M0 F0)) (bl:=dF { R with fault:=e } (bh++[.v (.int .i64 e)])) [] [8,9,10,11,12,13] 9 (fiN) ?_;refine Ob.aO (G':=Ob.ai.sep (bw { R with fault:=e }) G) (by unfold bw;exact Ob.bB _ _ _) ?_;refine Ob.gF iC mixed fg ?_ a;intro w ids M num;refine @al (SV.is (TV.one (Cell.v (Value.slice none 0 0)))=fg) _ ?_ ?_;kernel_rfl;rfl
end
theorem Ts:Ob.dG Tryz.prog sha.dE 39 (fun z:c1=>[aG z.R.p]) c1.ok c1.ef (fun _ (_:Unit)=>fg) (fun z _=>Ob.ai.sep (kh z.R) (bu z.H)) (fun _ _=>True):=by
 refine Ob.cA (sp:=VH) FM ab (fun z=>by show 1<=jI.ntmps;exact Odt ab) (fun z _=>rfl) ?_;rintro⟨R,H⟩ ⟨r,t,a⟩ w0 M0 F0;have a:eE r R H:=a;have N:=a.dl;have K:=a.tk;have D:=a.old;have C:=a.need;have u:=a.deals;have y:=a.faults;have F:=a.proofs;have A:=a.frl;have q:=a.aW;have I:=O8 R;have m:=OE R C;have s:YN R:=⟨aa,q,aa,aa,a.me,a.pubs⟩;show Ob.aK _ _ (Ob.GH _ _ _ (Ob.ai.sep (bw R) (bu H))) _ _ _;generalize L:bu H=G;refine Ob.ee iC 1 (fiA R.p) ?_;refine Ob.aO (G':=Ob.ai.obj (dF R (bh++[.v (.int .i64 R.fault)])) R.p G) (by unfold bw;exact (Ob.bB _ _ _).symm) ?_;refine Ob.gZ [0] (fiB R) ?_;refine Ob.gcd iC 1 (fun d=>(ou 3 d,cU iK 142 d)) (fun g=>fiC R g.1 g.2) (fun g=>g=((cS R).length,cS R)) ?_ (fun g l=>?_);intro w ids M num;refine @al (0+R.deals.length<=R.deals.length/\0+R.faults.length<=R.faults.length/\0+R.proofs.length<=R.proofs.length/\Di ((R.dealers,R.takers,R.need,R.old),take R.deals.length R.deals,take R.faults.length R.faults,take R.proofs.length R.proofs,())/\(fiC R ((eS (gD R.dealers R.takers R.need (take R.deals.length R.deals) (take R.faults.length R.faults) (take R.proofs.length R.proofs)),()).fst.length,(eS (gD R.dealers R.takers R.need (take R.deals.length R.deals) (take R.faults.length R.faults) (take R.proofs.length R.proofs)),()).fst).fst ((eS (gD R.dealers R.takers R.need (take R.deals.length R.deals) (take R.faults.length R.faults) (take R.proofs.length R.proofs)),()).fst.length,(eS (gD R.dealers R.takers R.need (take R.deals.length R.deals) (take R.faults.length R.faults) (take R.proofs.length R.proofs)),()).fst).snd).ag (((eS (gD R.dealers R.takers R.need (take R.deals.length R.deals) (take R.faults.length R.faults) (take R.proofs.length R.proofs))).length,eS (gD R.dealers R.takers R.need (take R.deals.length R.deals) (take R.faults.length R.faults) (take R.proofs.length R.proofs)))=((cS R).length,cS R))) _ ?_ ?_;kernel_rfl;refine⟨aa,aa,aa,⟨by show R.dealers.length<_;omega,⟨by show R.takers.length<_;omega,by show (take _ _).length<_;rw[cX];omega,fun f x=>by have:=a.whom f (ng x);omega⟩,by show (take _ _).length<_;rw[cX];omega,by show (take _ _).length<_;rw[cX];omega,a.tI,by show R.need<_;omega⟩,ao ?_⟩;rw[aV,aV,aV];rfl;subst l;refine Ob.sN 3 142 (cS R).length 1 .i64 (cS R) ab ab rfl ?_;refine Ob.gA (fiD R (cS R)) ?_;refine Ob.gcd iC 1 (fun d=>(ou 4 d,cU aN 215 d,bg iK 5 d)) (fun g=>Sx R (cS R) g []) (fun g=>g=((fO R).1.length,(fO R).1,(fO R).2)) ?_ (fun g l=>?_);intro w ids M num;refine @al (0+R.deals.length<=R.deals.length/\Df ((R.dealers,R.takers,R.need,R.old),cS R,take R.deals.length R.deals,())/\(Sx R (cS R) (((law22.rE R.dealers R.need R.old (cS R) (take R.deals.length R.deals)).fst,(law22.rE R.dealers R.need R.old (cS R) (take R.deals.length R.deals)).snd,()).fst.length,((law22.rE R.dealers R.need R.old (cS R) (take R.deals.length R.deals)).fst,(law22.rE R.dealers R.need R.old (cS R) (take R.deals.length R.deals)).snd,()).fst,(law22.rE R.dealers R.need R.old (cS R) (take R.deals.length R.deals)).snd) []).ag (((law22.rE R.dealers R.need R.old (cS R) (take R.deals.length R.deals)).fst.length,(law22.rE R.dealers R.need R.old (cS R) (take R.deals.length R.deals)).fst,(law22.rE R.dealers R.need R.old (cS R) (take R.deals.length R.deals)).snd)=((fO R).fst.length,(fO R).fst,(fO R).snd))) _ ?_ ?_;kernel_rfl;refine⟨aa,⟨by show R.old.length<_;omega,by show (cS R).length<_;omega,by show (take _ _).length<_;rw[cX];omega,by show R.need<_;omega⟩,ao ?_⟩;rw[aV];rfl;refine Ob.gcd iC 1 (fun d=>bg .bool 38 d) (fun b=>Sx R (cS R) g [(38,av b)]) (fun b=>b=!decide ((fO R).2=0)) ?_ (fun b i=>?_);intro w ids M num;refine @al ((Sx R (cS R) g [(38,av (g.snd.snd != 0))]).ag ((g.snd.snd != 0)=!decide ((fO R).snd=0))) _ ?_ ?_;kernel_rfl;exact ao (by rw[l];rfl);cases b
 ·have o:(fO R).2=0:=by
   by_cases h:(fO R).2=0;exact h;rw[cp h] at i;cases i
  refine Ob.eQ (aq (ak jI) 4) ?_;subst l;refine Ob.Yd 4 215 (fO R).1.length 12 aN (fO R).1 ?_;refine Ob.ee iC 1 (fiH R (cS R) (fO R).1 (fO R).2) ?_;refine Ob.fk (E:=(vy w0 M0 F0)) (bl:=dF R (bh++[.v (.int .i64 R.fault)])) [216] [8,9,10,11,12,13] 9 (BM R.p (cS R) (fO R).1 0 217 216 []) ?_;refine Ob.aO (G':=Ob.ai.sep (bw R) G) (by unfold bw;exact Ob.bB _ _ _) ?_;refine Ob.BV iC 0 [(0,216)] (BM R.p (cS R) (fO R).1 0 8 0 []) ?_;refine Ob.dB 7 (bo (aq (ak jI) 6)) ?_;refine Ob.c7 iC 1 (BM R.p (cS R) (fO R).1 0 8 0 [(43,aG R.p)]) ?_;refine Ob.gz (E:=(vy w0 M0 F0)) (Ob.cJ (fun _=>G) (LN sha.dE)) R a.tk BI (fun _ _=>?_);refine Ob.dv ?_;by_cases n:R.me∈R.takers
  ·have j:decide (R.me∈R.takers)=true:=bX n;rw[j];refine Ob.jx (aq (ak jI) 7) ?_;refine Ob.dB 8 (bo (aq (fV (aq (ak jI) 7)) 0)) ?_;refine Ob.c7 iC 2 (BM R.p (cS R) (fO R).1 0 8 0 [(46,aG R.p),(47,.is (.one (.ro iK (cS R))))]) ?_;refine Ob.gz (E:=(vy w0 M0 F0)) (Ob.cJ (fun _=>G) (Ww sha.dE)) (R,cS R) ⟨s,(by omega:(cS R).length<100000),D⟩ w7 (fun _ _=>?_);refine Ob.c7 iC 8 (BM R.p (cS R) (fO R).1 (gM R (cS R)).1 8 0 [(5,sI .i64 (gM R (cS R)).2)]) (Ob.dv ?_);refine Ob.gcd iC 1 (fun d=>bg .bool 52 d) (fun b=>BM R.p (cS R) (fO R).1 (gM R (cS R)).1 8 0 [(5,sI .i64 (gM R (cS R)).2),(52,av b)]) (fun b=>b=!decide ((gM R (cS R)).2=0)) ?_ (fun b i=>?_);intro w ids M num;refine @al ((BM R.p (cS R) (fO R).fst (gM R (cS R)).fst 8 0 [(5,sI IntKind.i64 (gM R (cS R)).snd),(52,av ((gM R (cS R)).snd != 0))]).ag (((gM R (cS R)).snd != 0)=!decide ((gM R (cS R)).snd=0))) _ ?_ ?_;kernel_rfl;exact ao rfl;cases b
   ·have k:(gM R (cS R)).2=0:=by
     by_cases h:(gM R (cS R)).2=0;exact h;rw[cp h] at i;cases i
    refine Ob.eQ (aq (fV (aq (ak jI) 7)) 2) ?_;refine Ob.gA (BM R.p (cS R) (fO R).1 (gM R (cS R)).1 8 0 []) ?_;refine Sy w0 M0 F0 R (cS R) aa (fO R).1 m (gM R (cS R)).1 G ⟨(),trivial,Ob.a7 _,?_⟩;have e:(fN R).1=some (cS R,(fO R).1,(gM R (cS R)).1,mW (cS R) (fO R).1):=by rw[fN,aj o,aj n,aj k]
    show _=Ob.ai.sep (kh R) G;unfold kh;rw[e]
   ·have k:¬ (gM R (cS R)).2=0:=fun h=>by rw[bX h] at i;cases i
    refine Ob.jx (aq (fV (aq (ak jI) 7)) 2) ?_;refine ZS w0 M0 F0 R (gM R (cS R)).2 (cS R) (fO R).1 (gM R (cS R)).1 G ⟨(),trivial,Ob.a7 _,?_⟩;have e:fN R=(none,(gM R (cS R)).2):=by rw[fN,aj o,aj n,ah k]
    show _=Ob.ai.sep (kh R) G;unfold kh;rw[e]
  ·have j:decide (R.me∈R.takers)=false:=cp n;rw[j];refine Ob.eQ (aq (ak jI) 7) ?_;refine Ob.gA (BM R.p (cS R) (fO R).1 0 8 0 []) ?_;refine Sy w0 M0 F0 R (cS R) aa (fO R).1 m 0 G ⟨(),trivial,Ob.a7 _,?_⟩;have e:(fN R).1=some (cS R,(fO R).1,0,mW (cS R) (fO R).1):=by rw[fN,aj o,ah n]
   show _=Ob.ai.sep (kh R) G;unfold kh;rw[e]
 ·have o:¬ (fO R).2=0:=fun h=>by rw[bX h] at i;cases i
  refine Ob.jx (aq (ak jI) 4) ?_;refine aco w0 M0 F0 R (fO R).2 (cS R) g (by rw[l]) G ⟨(),trivial,Ob.a7 _,?_⟩;have e:fN R=(none,(fO R).2):=by rw[fN,ah o]
  show _=Ob.ai.sep (kh R) G;unfold kh;rw[e]
set_option maxHeartbeats 4000000
open Go.Hbn(Talk a5 eF)
theorem qk:enters Tryz.prog 10 Tryz.f10:=ek
abbrev fw:Func:=Tryz.f10
abbrev Xk:=aP []
theorem c4:aD Tryz.prog Xk:=bp
abbrev m8:Code:=aq (ak fw) 5
abbrev JF:List Code:=da (aq (aZ m8) 2)
abbrev aU (R:Rt) (k:Int):Rt:={ R with phase:=k }
def jV (R:Rt) (b:Int):Bool:=decide (R.phase<4)&&decide (b>=i64.wrap (R.start+i64.wrap (R.phase*R.span)))
abbrev Qv:List Cell:=[.v (qO 36),.v (qO 37),.v (qO 38),.v (qO 39)]
def dL (p:Nat) (a:Int) (n:Nat) (l:List (Int × Hbm.aC)) (d i:Nat) (b:List (Nat × SV)):St:=ar fw.ntmps d ([(0,aG p),(1,sI .i64 a),(5,.is (.one (.sl 1 0 0 4 1))),(6,.is (.one (.sl i 0 0 n 8)))]++b) [(1,Qv),(i,[.row cH n l])]
def ow (R:Rt) (a:Int) (n:Nat) (l:List (Int × Hbm.aC)) (b:List (Nat × SV)):St:=ar fw.ntmps 15 ([(0,.is (.one (.ptr 9 0))),(1,sI .i64 a),(5,.is (.one (.sl 1 0 0 4 1))),(6,.is (.one (.sl 8 0 0 n 8)))]++b) ((1,Qv)::(8,[.row cH n l])::CB R (bh++[.v (.int .i64 R.fault)]))
def RG (R:Rt) (e:List Int × List Pt × Fr × List Int) (a:Int) (n:Nat) (l:List (Int × Hbm.aC)) (b:List (Nat × SV)):St:=ar fw.ntmps 15 ([(0,.is (.one (.ptr 9 0))),(1,sI .i64 a),(5,.is (.one (.sl 1 0 0 4 1))),(6,.is (.one (.sl 8 0 0 n 8)))]++b) ((1,Qv)::(8,[.row cH n l])::CB R (kG e++[.v (.int .i64 R.fault)]))
section
variable (w0:World) (M0:Mem) (F0:Nat->Prop)
abbrev er:Ob.b5:=Ob.kO Tryz.prog Xk sha.dE w0 M0 F0
theorem Pv (R:Rt) (c:Int) (l:List (Int × Hbm.aC)) (n:Nat) (G:Ob.ai) {m r:Act->World->Prop} {x:Nat->Act->World->Prop}
  (g:jV R c=true->Ob.aK Tryz.prog ((aZ m8).drop 2) (Ob.GH (er w0 M0 F0) fw.ntmps (dL R.p c n l 9 8 [(33,av true)]) (Ob.ai.sep (bw R) G)) m r x)
  (j:jV R c=false->∀ a w,Ob.GH (er w0 M0 F0) fw.ntmps (dL R.p c n l 9 8 []) (Ob.ai.sep (bw R) G) a w->x (b7 m8) a w) :
  Ob.aK Tryz.prog (aZ m8) (Ob.GH (er w0 M0 F0) fw.ntmps (dL R.p c n l 9 8 []) (Ob.ai.sep (bw R) G)) m r x:=by
 refine Ob.aO (G':=Ob.ai.obj (dF R (bh++[.v (.int .i64 R.fault)])) R.p G) (by unfold bw;exact (Ob.bB _ _ _).symm) ?_;refine Ob.gZ [0] (ow R c n l []) ?_;refine Ob.kH c4 mixed 1 33 (fun o=>bg .bool 33 o) (fun b=>ow R c n l [(33,av b)]) (fun b=>b=jV R c) (fun _=>False) (fun _ _=>False) ?_ (fun b f=>?_) (fun _ _ _ h _=>h.elim) (fun _ _ _ _ h _=>h.elim);intro w ids M num;refine @al ((decide (R.phase<4)=true->(ow R c n l [(33,av (decide (c>=i64.wrap (R.start+i64.wrap (R.phase*R.span)))))]).ag (decide (c>=i64.wrap (R.start+i64.wrap (R.phase*R.span)))=jV R c))/\(decide (R.phase<4)=false->(ow R c n l [(33,av false)]).ag (false=jV R c))) _ ?_ ?_;kernel_rfl;exact⟨fun h=>ao (by unfold jV;rw[h];rfl),fun h=>ao (by unfold jV;rw[h];rfl)⟩;refine Ob.fk (E:=(er w0 M0 F0)) (bl:=dF R (bh++[.v (.int .i64 R.fault)])) [1,8] [9,10,11,12,13,14] 10 (dL R.p c n l 9 8 [(33,av b)]) ?_;refine Ob.aO (G':=Ob.ai.sep (bw R) G) (by unfold bw;exact Ob.bB _ _ _) ?_;cases b;refine Ob.eQ (aq (aZ m8) 1) ?_;refine Ob.kK c4 mixed (fun _=>False) (fun _=>False) (fun i d=>i=b7 m8/\d.le (Ob.cj (er w0 M0 F0)) (dL R.p c n l 9 8 []) True) ?_ (fun _ _ _ h _=>h.elim) (fun _ _ _ h _=>h.elim) (fun i d a w e k=>?_);intro w ids M num;refine @al (0=0/\(dL R.p c n l 9 8 []).ag True) _ ?_ ?_;kernel_rfl;exact⟨rfl,ao trivial⟩;obtain⟨rfl,e⟩:=e;exact j f.symm a w (k.le e).2;refine Ob.jx (aq (aZ m8) 1) ?_;exact g f.symm
theorem Xp (R:Rt) (e:List Int × List Pt × Fr × List Int) (c:Int) (l:List (Int × Hbm.aC)) (n:Nat) (G:Ob.ai) {m r:Act->World->Prop} {x:Nat->Act->World->Prop}
  (j:jV R c=true->Ob.aK Tryz.prog ((aZ m8).drop 2) (Ob.GH (er w0 M0 F0) fw.ntmps (dL R.p c n l 9 8 [(33,av true)]) (Ob.ai.sep (pQ R e) G)) m r x)
  (k:jV R c=false->∀ a w,Ob.GH (er w0 M0 F0) fw.ntmps (dL R.p c n l 9 8 []) (Ob.ai.sep (pQ R e) G) a w->x (b7 m8) a w) :
  Ob.aK Tryz.prog (aZ m8) (Ob.GH (er w0 M0 F0) fw.ntmps (dL R.p c n l 9 8 []) (Ob.ai.sep (pQ R e) G)) m r x:=by
 refine Ob.aO (G':=Ob.ai.obj (dF R (kG e++[.v (.int .i64 R.fault)])) R.p G) (by unfold pQ;exact (Ob.bB _ _ _).symm) ?_;refine Ob.gZ [0] (RG R e c n l []) ?_;refine Ob.kH c4 mixed 1 33 (fun q=>bg .bool 33 q) (fun b=>RG R e c n l [(33,av b)]) (fun b=>b=jV R c) (fun _=>False) (fun _ _=>False) ?_ (fun b g=>?_) (fun _ _ _ h _=>h.elim) (fun _ _ _ _ h _=>h.elim);intro w ids M num;refine @al ((decide (R.phase<4)=true->(RG R e c n l [(33,av (decide (c>=i64.wrap (R.start+i64.wrap (R.phase*R.span)))))]).ag (decide (c>=i64.wrap (R.start+i64.wrap (R.phase*R.span)))=jV R c))/\(decide (R.phase<4)=false->(RG R e c n l [(33,av false)]).ag (false=jV R c))) _ ?_ ?_;kernel_rfl;exact⟨fun h=>ao (by unfold jV;rw[h];rfl),fun h=>ao (by unfold jV;rw[h];rfl)⟩;refine Ob.fk (E:=(er w0 M0 F0)) (bl:=dF R (kG e++[.v (.int .i64 R.fault)])) [1,8] [9,10,11,12,13,14] 10 (dL R.p c n l 9 8 [(33,av b)]) ?_;refine Ob.aO (G':=Ob.ai.sep (pQ R e) G) (by unfold pQ;exact Ob.bB _ _ _) ?_;cases b;refine Ob.eQ (aq (aZ m8) 1) ?_;refine Ob.kK c4 mixed (fun _=>False) (fun _=>False) (fun i d=>i=b7 m8/\d.le (Ob.cj (er w0 M0 F0)) (dL R.p c n l 9 8 []) True) ?_ (fun _ _ _ h _=>h.elim) (fun _ _ _ h _=>h.elim) (fun i d a w f o=>?_);intro w ids M num;refine @al (0=0/\(dL R.p c n l 9 8 []).ag True) _ ?_ ?_;kernel_rfl;exact⟨rfl,ao trivial⟩;obtain⟨rfl,f⟩:=f;exact k g.symm a w (o.le f).2;refine Ob.jx (aq (aZ m8) 1) ?_;exact j g.symm
theorem Xl (R:Rt) (H:a5) (e:c1.ok (⟨(aU R 1),H⟩:c1)) (d:Int) (l:List (Int × Hbm.aC)) (k:l.length<10000000) (i:∀ q,(dX (⟨(aU R 1),H⟩:c1) q).length<2000000) {m r:Act->World->Prop} {x:Nat->Act->World->Prop}
  (h:∀ q,∀ a w,Ob.GH (er w0 M0 F0) fw.ntmps (dL R.p d (l++dX (⟨(aU R 1),H⟩:c1) q).length (l++dX (⟨(aU R 1),H⟩:c1) q) 9 8 []) (kY (⟨(aU R 1),H⟩:c1) q).ef a w->m a w) :
  Ob.aK Tryz.prog ((aZ m8).drop 2) (Ob.GH (er w0 M0 F0) fw.ntmps (dL R.p d l.length l 9 8 [(33,av true)]) (Ob.ai.sep (bw (aU R 0)) (bu H))) m r x:=by
 refine Ob.eR (E:=(er w0 M0 F0)) (c:=aq (aZ m8) 2) m ab ab ?_ (Ob.cF fun _ _ h=>h);refine Ob.aO (G':=Ob.ai.obj (dF (aU R 0) (bh++[.v (.int .i64 R.fault)])) R.p (bu H)) (by unfold bw;exact (Ob.bB _ _ _).symm) ?_;refine Ob.gZ [0] (ow (aU R 0) d l.length l []) ?_;refine Ob.dB 6 (bo (aq JF 0)) ?_;refine Ob.fD c4 6 (fun _=>()) (fun _=>ow (aU R 0) d l.length l [(39,.is (.one (.pe 1 0 0 1)))]) (fun _=>True) ?_ (fun _ _=>?_);intro w ids M num;refine @al ((0<=(aU R 0).phase/\(aU R 0).phase<(↑(4:Nat):Int))/\(ow (aU R 0) d l.length l [(39,SV.is (TV.one (Cell.pe 1 0 0 1)))]).ag True) _ ?_ ?_;kernel_rfl;exact⟨⟨by show (0:Int)<=0;decide,by show (0:Int)<4;decide⟩,ao trivial⟩;refine Ob.FU (E:=((er w0 M0 F0).pinned 9 R.p)) 39 1 0 0 1 0 ab rfl ?_;refine Ob.c7 c4 8 (ow (aU R 0) d l.length l [(7,.is (.one (.v (qO 36))))]) (Ob.dv ?_);refine Ob.ee c4 1 (ow (aU R 1) d l.length l [(7,.is (.one (.v (qO 36))))]) ?_;refine Ob.fk (E:=(er w0 M0 F0)) (bl:=dF (aU R 1) (bh++[.v (.int .i64 R.fault)])) [1,8] [9,10,11,12,13,14] 10 (dL R.p d l.length l 9 8 [(7,.is (.one (.v (qO 36))))]) ?_;refine Ob.aO (G':=Ob.ai.sep (bw (aU R 1)) (bu H)) (by unfold bw;exact Ob.bB _ _ _) ?_;refine Ob.dB 8 (bo (aq JF 2)) ?_;refine Ob.c7 c4 3 (dL R.p d l.length l 9 8 [(48,.is (.one (.sl 8 0 0 l.length 8))),(49,.is (.one (.v (qO 36)))),(50,aG R.p)]) ?_;refine Ob.gz (E:=(er w0 M0 F0)) (aaL sha.dE) (⟨(aU R 1),H⟩:c1) e KJ (fun q _=>?_);have n:=i q;refine Ob.fD c4 6 (fun j=>cU cH 41 j) (fun b=>dL R.p d (l.length+(dX (⟨(aU R 1),H⟩:c1) q).length) b 42 41 []) (fun b=>b=l++(dX (⟨(aU R 1),H⟩:c1) q)) ?_ (fun b f=>Ob.dv ?_);intro w ids M num;refine @al (l.length<=l.length/\(l.length+(dX { R:=aU R 1,H:=H } q).length)*80<=140737488355328/\l.length+(dX { R:=aU R 1,H:=H } q).length<=4611686018427387904/\(dL R.p d (l.length+(dX { R:=aU R 1,H:=H } q).length) (take l.length l++dX { R:=aU R 1,H:=H } q) 42 41 []).ag (take l.length l++dX { R:=aU R 1,H:=H } q=l++dX { R:=aU R 1,H:=H } q)) _ ?_ ?_;kernel_rfl;refine⟨aE _,aa,aa,ao ?_⟩;rw[aV];subst f;refine Ob.BV c4 0 [(8,41)] (dL R.p d (l.length+(dX (⟨(aU R 1),H⟩:c1) q).length) (l++(dX (⟨(aU R 1),H⟩:c1) q)) 9 8 []) ?_;refine Ob.cF fun a w g=>h q a w ?_;rw[bb];exact g
theorem Xm (R:Rt) (H:a5) (e:c1.ok (⟨(aU R 2),H⟩:c1)) (d:Int) (l:List (Int × Hbm.aC)) (k:l.length<10000000) (i:∀ q,(eP (⟨(aU R 2),H⟩:c1) q).length<2000000) {m r:Act->World->Prop} {x:Nat->Act->World->Prop}
  (h:∀ q,∀ a w,Ob.GH (er w0 M0 F0) fw.ntmps (dL R.p d (l++eP (⟨(aU R 2),H⟩:c1) q).length (l++eP (⟨(aU R 2),H⟩:c1) q) 9 8 []) (nk (⟨(aU R 2),H⟩:c1) q).ef a w->m a w) :
  Ob.aK Tryz.prog ((aZ m8).drop 2) (Ob.GH (er w0 M0 F0) fw.ntmps (dL R.p d l.length l 9 8 [(33,av true)]) (Ob.ai.sep (bw (aU R 1)) (bu H))) m r x:=by
 refine Ob.eR (E:=(er w0 M0 F0)) (c:=aq (aZ m8) 2) m ab ab ?_ (Ob.cF fun _ _ h=>h);refine Ob.aO (G':=Ob.ai.obj (dF (aU R 1) (bh++[.v (.int .i64 R.fault)])) R.p (bu H)) (by unfold bw;exact (Ob.bB _ _ _).symm) ?_;refine Ob.gZ [0] (ow (aU R 1) d l.length l []) ?_;refine Ob.dB 6 (bo (aq JF 0)) ?_;refine Ob.fD c4 6 (fun _=>()) (fun _=>ow (aU R 1) d l.length l [(39,.is (.one (.pe 1 0 1 1)))]) (fun _=>True) ?_ (fun _ _=>?_);intro w ids M num;refine @al ((0<=(aU R 1).phase/\(aU R 1).phase<(↑(4:Nat):Int))/\(ow (aU R 1) d l.length l [(39,SV.is (TV.one (Cell.pe 1 0 1 1)))]).ag True) _ ?_ ?_;kernel_rfl;exact⟨⟨by show (0:Int)<=1;decide,by show (1:Int)<4;decide⟩,ao trivial⟩;refine Ob.FU (E:=((er w0 M0 F0).pinned 9 R.p)) 39 1 0 1 1 1 ab rfl ?_;refine Ob.c7 c4 8 (ow (aU R 1) d l.length l [(7,.is (.one (.v (qO 37))))]) (Ob.dv ?_);refine Ob.ee c4 1 (ow (aU R 2) d l.length l [(7,.is (.one (.v (qO 37))))]) ?_;refine Ob.fk (E:=(er w0 M0 F0)) (bl:=dF (aU R 2) (bh++[.v (.int .i64 R.fault)])) [1,8] [9,10,11,12,13,14] 10 (dL R.p d l.length l 9 8 [(7,.is (.one (.v (qO 37))))]) ?_;refine Ob.aO (G':=Ob.ai.sep (bw (aU R 2)) (bu H)) (by unfold bw;exact Ob.bB _ _ _) ?_;refine Ob.dB 8 (bo (aq JF 2)) ?_;refine Ob.c7 c4 3 (dL R.p d l.length l 9 8 [(48,.is (.one (.sl 8 0 0 l.length 8))),(49,.is (.one (.v (qO 37)))),(50,aG R.p)]) ?_;refine Ob.gz (E:=(er w0 M0 F0)) (Tp sha.dE) (⟨(aU R 2),H⟩:c1) e FK (fun q _=>?_);have n:=i q;refine Ob.fD c4 6 (fun j=>cU cH 41 j) (fun b=>dL R.p d (l.length+(eP (⟨(aU R 2),H⟩:c1) q).length) b 42 41 []) (fun b=>b=l++(eP (⟨(aU R 2),H⟩:c1) q)) ?_ (fun b f=>Ob.dv ?_);intro w ids M num;refine @al (l.length<=l.length/\(l.length+(eP { R:=aU R 2,H:=H } q).length)*80<=140737488355328/\l.length+(eP { R:=aU R 2,H:=H } q).length<=4611686018427387904/\(dL R.p d (l.length+(eP { R:=aU R 2,H:=H } q).length) (take l.length l++eP { R:=aU R 2,H:=H } q) 42 41 []).ag (take l.length l++eP { R:=aU R 2,H:=H } q=l++eP { R:=aU R 2,H:=H } q)) _ ?_ ?_;kernel_rfl;refine⟨aE _,aa,aa,ao ?_⟩;rw[aV];subst f;refine Ob.BV c4 0 [(8,41)] (dL R.p d (l.length+(eP (⟨(aU R 2),H⟩:c1) q).length) (l++(eP (⟨(aU R 2),H⟩:c1) q)) 9 8 []) ?_;refine Ob.cF fun a w g=>h q a w ?_;rw[bb];exact g
theorem Xn (R:Rt) (H:a5) (e:c1.ok (⟨(aU R 3),H⟩:c1)) (d:Int) (l:List (Int × Hbm.aC)) (k:l.length<10000000) (i:∀ q,(gC (⟨(aU R 3),H⟩:c1) q).length<2000000) {m r:Act->World->Prop} {x:Nat->Act->World->Prop}
  (h:∀ q,∀ a w,Ob.GH (er w0 M0 F0) fw.ntmps (dL R.p d (l++gC (⟨(aU R 3),H⟩:c1) q).length (l++gC (⟨(aU R 3),H⟩:c1) q) 9 8 []) (rX (⟨(aU R 3),H⟩:c1) q).ef a w->m a w) :
  Ob.aK Tryz.prog ((aZ m8).drop 2) (Ob.GH (er w0 M0 F0) fw.ntmps (dL R.p d l.length l 9 8 [(33,av true)]) (Ob.ai.sep (bw (aU R 2)) (bu H))) m r x:=by
 refine Ob.eR (E:=(er w0 M0 F0)) (c:=aq (aZ m8) 2) m ab ab ?_ (Ob.cF fun _ _ h=>h);refine Ob.aO (G':=Ob.ai.obj (dF (aU R 2) (bh++[.v (.int .i64 R.fault)])) R.p (bu H)) (by unfold bw;exact (Ob.bB _ _ _).symm) ?_;refine Ob.gZ [0] (ow (aU R 2) d l.length l []) ?_;refine Ob.dB 6 (bo (aq JF 0)) ?_;refine Ob.fD c4 6 (fun _=>()) (fun _=>ow (aU R 2) d l.length l [(39,.is (.one (.pe 1 0 2 1)))]) (fun _=>True) ?_ (fun _ _=>?_);intro w ids M num;refine @al ((0<=(aU R 2).phase/\(aU R 2).phase<(↑(4:Nat):Int))/\(ow (aU R 2) d l.length l [(39,SV.is (TV.one (Cell.pe 1 0 2 1)))]).ag True) _ ?_ ?_;kernel_rfl;exact⟨⟨by show (0:Int)<=2;decide,by show (2:Int)<4;decide⟩,ao trivial⟩;refine Ob.FU (E:=((er w0 M0 F0).pinned 9 R.p)) 39 1 0 2 1 2 ab rfl ?_;refine Ob.c7 c4 8 (ow (aU R 2) d l.length l [(7,.is (.one (.v (qO 38))))]) (Ob.dv ?_);refine Ob.ee c4 1 (ow (aU R 3) d l.length l [(7,.is (.one (.v (qO 38))))]) ?_;refine Ob.fk (E:=(er w0 M0 F0)) (bl:=dF (aU R 3) (bh++[.v (.int .i64 R.fault)])) [1,8] [9,10,11,12,13,14] 10 (dL R.p d l.length l 9 8 [(7,.is (.one (.v (qO 38))))]) ?_;refine Ob.aO (G':=Ob.ai.sep (bw (aU R 3)) (bu H)) (by unfold bw;exact Ob.bB _ _ _) ?_;refine Ob.dB 8 (bo (aq JF 2)) ?_;refine Ob.c7 c4 3 (dL R.p d l.length l 9 8 [(48,.is (.one (.sl 8 0 0 l.length 8))),(49,.is (.one (.v (qO 38)))),(50,aG R.p)]) ?_;refine Ob.gz (E:=(er w0 M0 F0)) (Wv sha.dE) (⟨(aU R 3),H⟩:c1) e IX (fun q _=>?_);have n:=i q;refine Ob.fD c4 6 (fun j=>cU cH 41 j) (fun b=>dL R.p d (l.length+(gC (⟨(aU R 3),H⟩:c1) q).length) b 42 41 []) (fun b=>b=l++(gC (⟨(aU R 3),H⟩:c1) q)) ?_ (fun b f=>Ob.dv ?_);intro w ids M num;refine @al (l.length<=l.length/\(l.length+(gC { R:=aU R 3,H:=H } q).length)*80<=140737488355328/\l.length+(gC { R:=aU R 3,H:=H } q).length<=4611686018427387904/\(dL R.p d (l.length+(gC { R:=aU R 3,H:=H } q).length) (take l.length l++gC { R:=aU R 3,H:=H } q) 42 41 []).ag (take l.length l++gC { R:=aU R 3,H:=H } q=l++gC { R:=aU R 3,H:=H } q)) _ ?_ ?_;kernel_rfl;refine⟨aE _,aa,aa,ao ?_⟩;rw[aV];subst f;refine Ob.BV c4 0 [(8,41)] (dL R.p d (l.length+(gC (⟨(aU R 3),H⟩:c1) q).length) (l++(gC (⟨(aU R 3),H⟩:c1) q)) 9 8 []) ?_;refine Ob.cF fun a w g=>h q a w ?_;rw[bb];exact g
theorem Xo (R:Rt) (H:a5) (f:c1.ok (⟨(aU R 4),H⟩:c1)) (d:Int) (l:List (Int × Hbm.aC)) (j:l.length<10000000) {m r:Act->World->Prop} {x:Nat->Act->World->Prop}
  (h:∀ a w,Ob.GH (er w0 M0 F0) fw.ntmps (dL R.p d l.length l 9 8 []) (Ob.ai.sep (kh (aU R 4)) (bu H)) a w->m a w) :
  Ob.aK Tryz.prog ((aZ m8).drop 2) (Ob.GH (er w0 M0 F0) fw.ntmps (dL R.p d l.length l 9 8 [(33,av true)]) (Ob.ai.sep (bw (aU R 3)) (bu H))) m r x:=by
 refine Ob.eR (E:=(er w0 M0 F0)) (c:=aq (aZ m8) 2) m ab ab ?_ (Ob.cF fun _ _ h=>h);refine Ob.aO (G':=Ob.ai.obj (dF (aU R 3) (bh++[.v (.int .i64 R.fault)])) R.p (bu H)) (by unfold bw;exact (Ob.bB _ _ _).symm) ?_;refine Ob.gZ [0] (ow (aU R 3) d l.length l []) ?_;refine Ob.dB 6 (bo (aq JF 0)) ?_;refine Ob.fD c4 6 (fun _=>()) (fun _=>ow (aU R 3) d l.length l [(39,.is (.one (.pe 1 0 3 1)))]) (fun _=>True) ?_ (fun _ _=>?_);intro w ids M num;refine @al ((0<=(aU R 3).phase/\(aU R 3).phase<(↑(4:Nat):Int))/\(ow (aU R 3) d l.length l [(39,SV.is (TV.one (Cell.pe 1 0 3 1)))]).ag True) _ ?_ ?_;kernel_rfl;exact⟨⟨by show (0:Int)<=3;decide,by show (3:Int)<4;decide⟩,ao trivial⟩;refine Ob.FU (E:=((er w0 M0 F0).pinned 9 R.p)) 39 1 0 3 1 3 ab rfl ?_;refine Ob.c7 c4 8 (ow (aU R 3) d l.length l [(7,.is (.one (.v (qO 39))))]) (Ob.dv ?_);refine Ob.ee c4 1 (ow (aU R 4) d l.length l [(7,.is (.one (.v (qO 39))))]) ?_;refine Ob.fk (E:=(er w0 M0 F0)) (bl:=dF (aU R 4) (bh++[.v (.int .i64 R.fault)])) [1,8] [9,10,11,12,13,14] 10 (dL R.p d l.length l 9 8 [(7,.is (.one (.v (qO 39))))]) ?_;refine Ob.aO (G':=Ob.ai.sep (bw (aU R 4)) (bu H)) (by unfold bw;exact Ob.bB _ _ _) ?_;refine Ob.dB 8 (bo (aq JF 2)) ?_;refine Ob.c7 c4 3 (dL R.p d l.length l 9 8 [(48,.is (.one (.sl 8 0 0 l.length 8))),(49,.is (.one (.v (qO 39)))),(50,aG R.p)]) ?_;refine Ob.gz (E:=(er w0 M0 F0)) Ts (⟨(aU R 4),H⟩:c1) f FM (fun q _=>?_);refine Ob.fD c4 6 (fun i=>cU cH 41 i) (fun b=>dL R.p d l.length b 42 41 []) (fun b=>b=l) ?_ (fun b e=>Ob.dv ?_);intro w ids M num;refine @al (l.length<=l.length/\(l.length+0)*80<=140737488355328/\l.length+0<=4611686018427387904/\(dL R.p d l.length (take l.length l++[]) 42 41 []).ag (take l.length l++[]=l)) _ ?_ ?_;kernel_rfl;refine⟨aE _,aa,aa,ao ?_⟩;rw[aV,bq];have e:=e.symm;subst e;refine Ob.BV c4 0 [(8,41)] (dL R.p d l.length l 9 8 []) ?_;exact Ob.cF fun a w g=>h a w g
end
set_option maxHeartbeats 4000000
theorem eE.ph {c:Nat} {R:Rt} {H:a5} (h:eE c R H) (k:Int):eE c (aU R k) H:=⟨h.hub,h.hp,h.me,h.dl,h.tk,h.dI,h.tI,h.old,h.aY,h.need,h.deals,h.pubs,h.faults,h.whom,h.proofs,h.aW,h.frl⟩
structure iO (z y:c1):Prop where
 p:y.R.p=z.R.p
 me:y.R.me=z.R.me
 phase:y.R.phase=z.R.phase
 start:y.R.start=z.R.start
 span:y.R.span=z.R.span
theorem Nn (R:Rt) (d:Int) (x:Fr):(eY R d x).phase=R.phase/\(eY R d x).start=R.start/\(eY R d x).span=R.span:=by unfold eY;split<;>exact⟨rfl,rfl,rfl⟩
theorem E3 (z:SayIn) (q:Nat × Nat × Nat):iO ⟨z.R,z.H⟩ ⟨pF z q,qt z q⟩:=by have k:=uQ (Hbn.iW z.H z.tp (eC z.b) q).2.2 z.R;exact⟨k.p,k.me,k.phase,k.start,k.span⟩
theorem w9 (z:c1) (q:Nat × Nat × Nat):iO z (kY z q):=by
 unfold kY;split
 ·have k:=E3 (oe z) q;have e:(dj z.R z.R.takers).p=z.R.p/\(dj z.R z.R.takers).me=z.R.me/\(dj z.R z.R.takers).phase=z.R.phase/\(dj z.R z.R.takers).start=z.R.start/\(dj z.R z.R.takers).span=z.R.span:=by
   unfold dj;split;have a:=F6 z.R z.R.me (poly.pat z.R.aY z.R.me);have b:=Nn z.R z.R.me (poly.pat z.R.aY z.R.me);exact⟨a.1,a.2.1,b.1,b.2.1,b.2.2⟩;exact⟨rfl,rfl,rfl,rfl,rfl⟩
  exact⟨k.p.trans e.1,k.me.trans e.2.1,k.phase.trans e.2.2.1,k.start.trans e.2.2.2.1,k.span.trans e.2.2.2.2⟩
 exact⟨rfl,rfl,rfl,rfl,rfl⟩
theorem zh (z:c1) (q:Nat × Nat × Nat):iO z (nk z q):=by unfold nk;split;exact E3 (rr z) q;exact⟨rfl,rfl,rfl,rfl,rfl⟩
theorem Dn (z:c1) (q:Nat × Nat × Nat):iO z (rX z q):=by unfold rX;split;exact E3 (xn z) q;exact⟨rfl,rfl,rfl,rfl,rfl⟩
theorem Lb {c:Nat} {z:c1} (h:eE c z.R z.H) (q:Nat × Nat × Nat):eE (c+2) (kY z q).R (kY z q).H:=by unfold kY;split;exact eE.said (z:=oe z) (h.handed _) (He _) q;exact h.mono aa
theorem NI {c:Nat} {z:c1} (h:eE c z.R z.H) (q:Nat × Nat × Nat):eE (c+2) (nk z q).R (nk z q).H:=by unfold nk;split;exact (eE.said (z:=rr z) h (Hl _ _) q).mono aa;exact h.mono aa
theorem TP {c:Nat} {z:c1} (h:eE c z.R z.H) (q:Nat × Nat × Nat):eE (c+2) (rX z q).R (rX z q).H:=by unfold rX;split;exact (eE.said (z:=xn z) h (Mf _ _) q).mono aa;exact h.mono aa
theorem Lc {c:Nat} {z:c1} (h:eE c z.R z.H) (q:Nat × Nat × Nat):(dX z q).length<2000000:=by unfold dX;split;have a:=BX z.R z.R.takers;have b:=Ah (z:=oe z) h.hub (He _) q;have c:=h.tk;rw[bb];omega;exact mS _
theorem yg {c:Nat} {z:c1} (h:eE c z.R z.H) (q:Nat × Nat × Nat):(eP z q).length<2000000:=by unfold eP;split;have b:=Ah (z:=rr z) h.hub (Hl _ _) q;omega;exact mS _
theorem TQ {c:Nat} {z:c1} (h:eE c z.R z.H) (q:Nat × Nat × Nat):(gC z q).length<2000000:=by unfold gC;split;have b:=Ah (z:=xn z) h.hub (Mf _ _) q;omega;exact mS _
structure fB where
 z:c1
 fin:Bool
def fB.rt (t:fB):Ob.ai:=match t.fin with
 | true=>kh t.z.R
 | false=>bw t.z.R
abbrev fB.ef (t:fB):Ob.ai:=Ob.ai.sep t.rt (bu t.z.H)
def dm (t:fB) (q:Nat × Nat × Nat):fB × List (Int × Hbm.aC) :=
 if t.z.R.phase=0 then (⟨kY ⟨aU t.z.R 1,t.z.H⟩ q,false⟩,dX ⟨aU t.z.R 1,t.z.H⟩ q)
 else if t.z.R.phase=1 then (⟨nk ⟨aU t.z.R 2,t.z.H⟩ q,false⟩,eP ⟨aU t.z.R 2,t.z.H⟩ q)
 else if t.z.R.phase=2 then (⟨rX ⟨aU t.z.R 3,t.z.H⟩ q,false⟩,gC ⟨aU t.z.R 3,t.z.H⟩ q)
 else (⟨⟨aU t.z.R 4,t.z.H⟩,true⟩,[])
inductive Ticks (now:Int):fB->fB->List (Int × Hbm.aC)->Prop
 | stop (t:fB):jV t.z.R now=false->Ticks now t t []
 | step (t:fB) (q:Nat × Nat × Nat) (u:fB) (o:List (Int × Hbm.aC)):jV t.z.R now=true->Ticks now (dm t q).1 u o->Ticks now t u ((dm t q).2++o)
structure TOk (t:fB):Prop where
 inv:∃ c,c<=28000+2*t.z.R.phase.toNat/\eE c t.z.R t.z.H
 lo:0<=t.z.R.phase
 hi:t.z.R.phase<=4
 fin:t.fin=true->t.z.R.phase=4
theorem KF {R:Rt} {a:Int} (h:jV R a=true):R.phase<4:=by unfold jV at h;rw[aQ] at h;exact Odt h.1
theorem zT {R:Rt} {k:Int} (h:R.phase=k):R=aU R k:=by cases R;subst h;rfl
theorem Wu (a:Nat->Option (Sigma aA)):Ob.dG Tryz.prog a 35 (fun t:fB=>[aG t.z.R.p]) (fun _=>True) fB.ef (fun _ (_:Unit)=>av false) (fun t _=>t.ef) (fun _ _=>True):=by
 rintro⟨⟨R,H⟩,f⟩ _;cases f;exact Ob.cJ (fun _=>bu H) (zM a) R trivial
 ·cases b:(fN R).1 with
  | none =>
   have e:fB.ef ⟨⟨R,H⟩,true⟩=Ob.ai.sep (bw { R with fault:=(fN R).2 }) (bu H):=by show Ob.ai.sep (kh R) _=_;unfold kh;rw[b]
   simp only[e];exact Ob.cJ (fun _=>bu H) (zM a) { R with fault:=(fN R).2 } trivial
  | some y =>
   have e:fB.ef ⟨⟨R,H⟩,true⟩=Ob.ai.sep (pQ R y) (bu H):=by show Ob.ai.sep (kh R) _=_;unfold kh;rw[b]
   simp only[e];exact Ob.cJ (fun _=>bu H) (EI a y) R trivial
section
variable (w0:World) (M0:Mem) (F0:Nat->Prop)
theorem Xq (t:fB) (b:Int) (l:List (Int × Hbm.aC)) (n:Nat) {m r:Act->World->Prop} {x:Nat->Act->World->Prop}
  (d:jV t.z.R b=true->Ob.aK Tryz.prog ((aZ m8).drop 2) (Ob.GH (er w0 M0 F0) fw.ntmps (dL t.z.R.p b n l 9 8 [(33,av true)]) t.ef) m r x)
  (g:jV t.z.R b=false->∀ a w,Ob.GH (er w0 M0 F0) fw.ntmps (dL t.z.R.p b n l 9 8 []) t.ef a w->x (b7 m8) a w) :
  Ob.aK Tryz.prog (aZ m8) (Ob.GH (er w0 M0 F0) fw.ntmps (dL t.z.R.p b n l 9 8 []) t.ef) m r x:=by
 obtain⟨⟨R,H⟩,f⟩:=t;cases f;exact Pv w0 M0 F0 R b l n (bu H) d g
 ·cases h:(fN R).1 with
  | none =>
   have e:fB.ef ⟨⟨R,H⟩,true⟩=Ob.ai.sep (bw { R with fault:=(fN R).2 }) (bu H):=by show Ob.ai.sep (kh R) _=_;unfold kh;rw[h]
   rw[e] at d g ⊢;exact Pv w0 M0 F0 { R with fault:=(fN R).2 } b l n (bu H) d g
  | some y =>
   have e:fB.ef ⟨⟨R,H⟩,true⟩=Ob.ai.sep (pQ R y) (bu H):=by show Ob.ai.sep (kh R) _=_;unfold kh;rw[h]
   rw[e] at d g ⊢;exact Xp w0 M0 F0 R y b l n (bu H) d g
theorem abz (t:fB) (y:TOk t) (b:Int) (C:jV t.z.R b=true) (l:List (Int × Hbm.aC)) (u:l.length<10000000) {m r:Act->World->Prop} {x:Nat->Act->World->Prop}
  (h:∀ q,TOk (dm t q).1->(dm t q).1.z.R.p=t.z.R.p->(dm t q).1.z.R.phase=t.z.R.phase+1->(dm t q).2.length<2000000->∀ a w,Ob.GH (er w0 M0 F0) fw.ntmps (dL t.z.R.p b (l++(dm t q).2).length (l++(dm t q).2) 9 8 []) (dm t q).1.ef a w->m a w) :
  Ob.aK Tryz.prog ((aZ m8).drop 2) (Ob.GH (er w0 M0 F0) fw.ntmps (dL t.z.R.p b l.length l 9 8 [(33,av true)]) t.ef) m r x:=by
 obtain⟨⟨R,H⟩,f⟩:=t;have G:R.phase<4:=KF C;have F:0<=R.phase:=y.lo;have D:f=false:=by cases f;rfl;have:R.phase=4:=y.fin rfl;omega
 subst D;obtain⟨c,i,o⟩:=y.inv;have o:eE c R H:=o;have i:c<=28000+2*R.phase.toNat:=i;have A:R.phase=0\/R.phase=1\/R.phase=2\/R.phase=3:=aa;rcases A with k|k|k|k
 ·have e:∀ q,dm ⟨⟨R,H⟩,false⟩ q=(⟨kY ⟨aU R 1,H⟩ q,false⟩,dX ⟨aU R 1,H⟩ q):=fun q=>by
   unfold dm;rw[aj k]
  have j:Ob.GH (er w0 M0 F0) fw.ntmps (dL R.p b l.length l 9 8 [(33,av true)]) (fB.ef ⟨⟨R,H⟩,false⟩)=Ob.GH (er w0 M0 F0) fw.ntmps (dL R.p b l.length l 9 8 [(33,av true)]) (Ob.ai.sep (bw (aU R 0)) (bu H)):=by rw[<- zT k];rfl
  show Ob.aK _ _ (Ob.GH (er w0 M0 F0) fw.ntmps (dL R.p b l.length l 9 8 [(33,av true)]) (fB.ef ⟨⟨R,H⟩,false⟩)) m r x;rw[j];have d:=o.ph 1;refine Xl w0 M0 F0 R H ⟨c,by rw[k] at i;have:(0:Int).toNat=0:=rfl;omega,d⟩ b l u (fun q=>Lc d q) (fun q a w n=>h q ?_ ?_ ?_ ?_ a w ?_);rw[e];have s:=w9 ⟨aU R 1,H⟩ q;have g:(kY ⟨aU R 1,H⟩ q).R.phase=1:=s.phase;exact⟨⟨c+2,by rw[k] at i;rw[g];have:(0:Int).toNat=0:=rfl;have:(1:Int).toNat=1:=rfl;omega,Lb d q⟩,by show (0:Int)<=_;rw[g];decide,by show _<=(4:Int);rw[g];decide,fun h=>by cases h⟩;rw[e];exact (w9 ⟨aU R 1,H⟩ q).p;rw[e];show _=R.phase+1;rw[k];exact (w9 ⟨aU R 1,H⟩ q).phase;rw[e];exact Lc d q;rw[e];exact n
 ·have e:∀ q,dm ⟨⟨R,H⟩,false⟩ q=(⟨nk ⟨aU R 2,H⟩ q,false⟩,eP ⟨aU R 2,H⟩ q):=fun q=>by
   unfold dm;rw[ah (by rw[k];decide),aj k]
  have j:Ob.GH (er w0 M0 F0) fw.ntmps (dL R.p b l.length l 9 8 [(33,av true)]) (fB.ef ⟨⟨R,H⟩,false⟩)=Ob.GH (er w0 M0 F0) fw.ntmps (dL R.p b l.length l 9 8 [(33,av true)]) (Ob.ai.sep (bw (aU R 1)) (bu H)):=by rw[<- zT k];rfl
  show Ob.aK _ _ (Ob.GH (er w0 M0 F0) fw.ntmps (dL R.p b l.length l 9 8 [(33,av true)]) (fB.ef ⟨⟨R,H⟩,false⟩)) m r x;rw[j];have d:=o.ph 2;refine Xm w0 M0 F0 R H ⟨c,by rw[k] at i;have:(1:Int).toNat=1:=rfl;omega,d⟩ b l u (fun q=>yg d q) (fun q a w n=>h q ?_ ?_ ?_ ?_ a w ?_);rw[e];have s:=zh ⟨aU R 2,H⟩ q;have g:(nk ⟨aU R 2,H⟩ q).R.phase=2:=s.phase;exact⟨⟨c+2,by rw[k] at i;rw[g];have:(1:Int).toNat=1:=rfl;have:(2:Int).toNat=2:=rfl;omega,NI d q⟩,by show (0:Int)<=_;rw[g];decide,by show _<=(4:Int);rw[g];decide,fun h=>by cases h⟩;rw[e];exact (zh ⟨aU R 2,H⟩ q).p;rw[e];show _=R.phase+1;rw[k];exact (zh ⟨aU R 2,H⟩ q).phase;rw[e];exact yg d q;rw[e];exact n
 ·have e:∀ q,dm ⟨⟨R,H⟩,false⟩ q=(⟨rX ⟨aU R 3,H⟩ q,false⟩,gC ⟨aU R 3,H⟩ q):=fun q=>by
   unfold dm;rw[ah (by rw[k];decide),ah (by rw[k];decide),aj k]
  have j:Ob.GH (er w0 M0 F0) fw.ntmps (dL R.p b l.length l 9 8 [(33,av true)]) (fB.ef ⟨⟨R,H⟩,false⟩)=Ob.GH (er w0 M0 F0) fw.ntmps (dL R.p b l.length l 9 8 [(33,av true)]) (Ob.ai.sep (bw (aU R 2)) (bu H)):=by rw[<- zT k];rfl
  show Ob.aK _ _ (Ob.GH (er w0 M0 F0) fw.ntmps (dL R.p b l.length l 9 8 [(33,av true)]) (fB.ef ⟨⟨R,H⟩,false⟩)) m r x;rw[j];have d:=o.ph 3;refine Xn w0 M0 F0 R H ⟨c,by rw[k] at i;have:(2:Int).toNat=2:=rfl;omega,d⟩ b l u (fun q=>TQ d q) (fun q a w n=>h q ?_ ?_ ?_ ?_ a w ?_);rw[e];have s:=Dn ⟨aU R 3,H⟩ q;have g:(rX ⟨aU R 3,H⟩ q).R.phase=3:=s.phase;exact⟨⟨c+2,by rw[k] at i;rw[g];have:(2:Int).toNat=2:=rfl;have:(3:Int).toNat=3:=rfl;omega,TP d q⟩,by show (0:Int)<=_;rw[g];decide,by show _<=(4:Int);rw[g];decide,fun h=>by cases h⟩;rw[e];exact (Dn ⟨aU R 3,H⟩ q).p;rw[e];show _=R.phase+1;rw[k];exact (Dn ⟨aU R 3,H⟩ q).phase;rw[e];exact TQ d q;rw[e];exact n
 ·have e:∀ q,dm ⟨⟨R,H⟩,false⟩ q=(⟨⟨aU R 4,H⟩,true⟩,[]):=fun q=>by
   unfold dm;rw[ah (by rw[k];decide),ah (by rw[k];decide),ah (by rw[k];decide)]
  have j:Ob.GH (er w0 M0 F0) fw.ntmps (dL R.p b l.length l 9 8 [(33,av true)]) (fB.ef ⟨⟨R,H⟩,false⟩)=Ob.GH (er w0 M0 F0) fw.ntmps (dL R.p b l.length l 9 8 [(33,av true)]) (Ob.ai.sep (bw (aU R 3)) (bu H)):=by rw[<- zT k];rfl
  show Ob.aK _ _ (Ob.GH (er w0 M0 F0) fw.ntmps (dL R.p b l.length l 9 8 [(33,av true)]) (fB.ef ⟨⟨R,H⟩,false⟩)) m r x;rw[j];have d:=o.ph 4;refine Xo w0 M0 F0 R H ⟨c,by rw[k] at i;have:(3:Int).toNat=3:=rfl;omega,d⟩ b l u (fun a w n=>h (0,0,0) ?_ ?_ ?_ ?_ a w ?_);rw[e];exact⟨⟨c,by rw[k] at i;have:(3:Int).toNat=3:=rfl;show c<=28000+2*(4:Int).toNat;have:(4:Int).toNat=4:=rfl;omega,d⟩,by show (0:Int)<=4;decide,by show (4:Int)<=4;decide,fun _=>rfl⟩;rw[e];rw[e];show (4:Int)=R.phase+1;rw[k];rfl;rw[e];exact mS _;rw[e];show Ob.GH (er w0 M0 F0) fw.ntmps (dL R.p b (l++[]).length (l++[]) 9 8 []) (Ob.ai.sep (kh (aU R 4)) (bu H)) a w;rw[bq];exact n
end
set_option maxHeartbeats 4000000
def tiA (p:Nat) (a:Int) (b:List (Nat × SV)):St:=ar fw.ntmps 8 ([(0,aG p),(1,sI .i64 a)]++b) []
def ajm (p:Nat) (a:Int):St:=ar fw.ntmps 8 [(0,aG p),(1,sI .i64 a),(5,.is (.one (.sl 1 0 0 4 1))),(6,fg)] [(1,Qv)]
structure TVal (t:fB) (now:Int) (g:fB × List (Int × Hbm.aC)):Prop where
 ok:TOk g.1
 p:g.1.z.R.p=t.z.R.p
 len:g.2.length<=2000000*g.1.z.R.phase.toNat
 far:∀ u o,Ticks now g.1 u o->Ticks now t u (g.2++o)
theorem HX:Ob.dG Tryz.prog sha.dE 10 (fun z:fB × Int=>[aG z.1.z.R.p,sI .i64 z.2]) (fun z=>TOk z.1) (fun z=>z.1.ef) (fun _ (y:fB × List (Int × Hbm.aC))=>.is (.one (.ro cH y.2))) (fun _ y=>y.1.ef) (fun z y=>Ticks z.2 z.1 y.1 y.2):=by refine Ob.cA (sp:=Xk) qk ab (fun z=>by show 2<=fw.ntmps;exact Odt ab) (fun z _=>rfl) ?_;rintro⟨t,b⟩ C k f e;have C:TOk t:=C;refine Ob.ee c4 1 (tiA t.z.R.p b []) ?_;refine Ob.dB 1 (bo (aq (ak fw) 1)) ?_;refine Ob.c7 c4 1 (tiA t.z.R.p b [(8,aG t.z.R.p)]) ?_;refine Ob.gz (E:=er k f e) (Wu sha.dE) t trivial gp (fun _ _=>?_);refine Ob.dv ?_;refine Ob.eQ (aq (ak fw) 2) ?_;refine Ob.gA (tiA t.z.R.p b []) ?_;refine Ob.BV c4 2 [(1,8)] (ajm t.z.R.p b) ?_;refine Ob.qS 6 8 (.row cH 0 []) ab ?_;refine Ob.gA (dL t.z.R.p b 0 [] 9 8 []) ?_;refine Ob.zB (α:=fB × List (Int × Hbm.aC)) (β:=fB × List (Int × Hbm.aC)) (c:=m8) (fun g a w=>TVal t b g/\Ob.GH (er k f e) fw.ntmps (dL t.z.R.p b g.2.length g.2 9 8 []) g.1.ef a w) (fun g=>(4-g.1.z.R.phase).toNat) (fun o a w=>Ticks b t o.1 o.2/\Ob.GH (er k f e) fw.ntmps (dL t.z.R.p b o.2.length o.2 9 8 []) o.1.ef a w) ab ab (fun a w h=>⟨(t,[]),⟨C,rfl,a2 _,fun _ _ h=>h⟩,h⟩) (fun g=>?_) (fun o=>?_);obtain⟨g,l⟩:=g;intro a w Q j s x A;obtain⟨⟨d,m,D,r⟩,i⟩:=j;have d:TOk g:=d;have m:g.z.R.p=t.z.R.p:=m;have D:l.length<=2000000*g.z.R.phase.toNat:=D;have r:∀ u o,Ticks b g u o->Ticks b t u (l++o):=r;have H:=d.lo;have G:=d.hi;have i:Ob.GH (er k f e) fw.ntmps (dL t.z.R.p b l.length l 9 8 []) g.ef a w:=i;rw[<- m] at i;refine Xq k f e g b l l.length (fun n=>?_) (fun n=>?_) a w Q i s x A;have L:=KF n;refine abz k f e g d b n l aa (fun q I K F N a w j=>⟨((dm g q).1,l++(dm g q).2),⟨⟨I,K.trans m,?_,fun u o h=>?_⟩,?_⟩,?_⟩);show (l++(dm g q).2).length<=2000000*(dm g q).1.z.R.phase.toNat;rw[bb,F];omega;show Ticks b t u ((l++(dm g q).2)++o);rw[cB];exact r u _ (.step g q u o n h);rw[<- m];exact j;show (4-(dm g q).1.z.R.phase).toNat<(4-g.z.R.phase).toNat;rw[F];omega;intro a w j;rw[iq];refine⟨(g,l),?_,?_⟩;have:=r g [] (.stop g n);rw[bq] at this;exact this;rw[<- m];exact j;obtain⟨u,o⟩:=o;intro a w Q j s x A;obtain⟨d,i⟩:=j;have d:Ticks b t u o:=d;revert a w Q;refine fun a w Q s x A i=>(?_:Ob.aK _ _ (Ob.GH (er k f e) fw.ntmps (dL t.z.R.p b o.length o 9 8 []) u.ef) _ _ _) a w Q i s x A;refine Ob.Yd 6 8 o.length 8 cH o ?_;exact Ob.pM c4 _ ⟨(u,o),d,Ob.a7 _,rfl⟩
set_option maxHeartbeats 4000000
theorem Zz:enters Tryz.prog 30 Tryz.f30:=ek
abbrev rV:HL [.sl iK]->Prop:=fun (c,_)=>length c<1048576
theorem KQ:aL Tryz.prog 30 [.sl iK] [.own iK] bx rV (fun (c,_)=>(c,())):=by have a:aD Tryz.prog (aP []):=bp;refine w8 (sp:=aP []) Zz ae ae ab ?_ ?_;rintro w M0 ⟨⟩ _ b;show Tr _ _ _ _ _ _ _;refine bE a mixed _ _ ?_;refine al (X:=((([]:List (Int)),())=(([]:List (Int)),()))) ab rfl;rintro w M0 c ⟨⟩ _ _ b;revert c;intro (c:List (Int)) _ b;have b:c.length<1048576:=b;show Tr _ _ _ _ _ _ _;refine bE a mixed _ _ ?_;refine @al (0<=0/\(0+c.length)*8<=140737488355328/\0+c.length<=4611686018427387904/\0+(0+c.length)<=0+c.length/\(take (0+c.length) (take 0 []++c),())=(c,())) _ ?_ ?_;kernel_rfl;rw[tK,dH,bH,aV];exact⟨aE _,aa,aa,aa,rfl⟩
def YQ:Nat × Eng.Spec:=(30,aH [.sl iK] [.own iK] rV (fun (c,_)=>(c,())))
theorem Zy:enters Tryz.prog 32 Tryz.f32:=ek
abbrev Gu:HL [.sl .fr]->Prop:=fun (c,_)=>length c<1048576
theorem acr:aL Tryz.prog 32 [.sl .fr] [.own .fr] bx Gu (fun (c,_)=>(c,())):=by have a:aD Tryz.prog (aP []):=bp;refine w8 (sp:=aP []) Zy ae ae ab ?_ ?_;rintro w M0 ⟨⟩ _ b;show Tr _ _ _ _ _ _ _;refine bE a mixed _ _ ?_;refine al (X:=((([]:List (Fr)),())=(([]:List (Fr)),()))) ab rfl;rintro w M0 c ⟨⟩ _ _ b;revert c;intro (c:List (Fr)) _ b;have b:c.length<1048576:=b;show Tr _ _ _ _ _ _ _;refine bE a mixed _ _ ?_;refine @al (0<=0/\(0+c.length)*32<=140737488355328/\0+c.length<=4611686018427387904/\0+(0+c.length)<=0+c.length/\(take (0+c.length) (take 0 []++c),())=(c,())) _ ?_ ?_;kernel_rfl;rw[tK,dH,bH,aV];exact⟨aE _,aa,aa,aa,rfl⟩
theorem Ye {E:Ob.b5} {N:Nat} {l:List Code} {a:Array Oper} {j:Nat} {n r:Act->World->Prop} {x:Nat->Act->World->Prop} {b:St} {G:Ob.ai} (t:Nat) (d:b.S t=av false) (c:Ob.kt E.P a j l (Ob.GH E N ⟨b.slots.set t (.is (.one .F)),b.blks,b.next⟩ G) n r x):Ob.kt E.P a j l (Ob.GH E N b G) n r x :=
 Ob.iD (E:=E) (fun _ _ e=>e.ref t _ (by rw[d];exact fun _ _ h=>h.1)) c
theorem qM:enters Tryz.prog 13 Tryz.f13:=ek
abbrev sg:Func:=Tryz.f13
abbrev Qe:=aP [YQ,Ip]
theorem gY:aD Tryz.prog Qe:=aJ (aM KQ) (aJ (aM Er) bp)
abbrev JL:List Cell:=[.v (.slice none 0 0),.v (.slice none 0 0),.row .fr 1 [(0:Fr)],.ints .u8 32 (replicate 32 0)]
abbrev N7:List (Nat × SV):=[(2,.is (.one (.ptr 0 0))),(3,sI .i64 0),(4,.is (.one .F))]
def X5 (p:Nat) (a:List (Nat × SV)):St:=ar sg.ntmps 8 ([(0,aG p)]++N7++a) [(0,JL)]
def N6 (R:Rt) (t:List Cell) (a:List (Nat × SV)):St:=ar sg.ntmps 14 ([(0,.is (.one (.ptr 8 0)))]++N7++a) ((0,JL)::ig R (t++[.v (.int .i64 R.fault)]))
def enT:St:=ar sg.ntmps 8 N7 [(0,JL)]
def DO (R:Rt) (t:List Cell) (a b c d:Cell) (f:Nat) (e:List (Nat × List Cell)):St:=ar sg.ntmps f [(0,.is (.one (.ptr 8 0))),(2,.is (.one (.ptr 0 0))),(5,.is (.one (.ptr 46 0)))] ((0,JL)::(46,[a,b,c,d])::e++ig R (t++[.v (.int .i64 R.fault)]))
def enG (R:Rt) (t:List Cell) (a b c d:Cell):St:=ar sg.ntmps 14 [(2,.is (.one (.ptr 0 0))),(3,sI .i64 R.fault),(4,.is (.one .T))] ((0,[a,b,c,d])::ig R (t++[.v (.int .i64 R.fault)]))
def enN (a b c d:Cell) (f:Int):St:=ar sg.ntmps 8 [(2,.is (.one (.ptr 0 0))),(3,sI .i64 f),(4,.is (.one .T))] [(0,[a,b,c,d])]
abbrev yt (q:List Int) (c:List Pt) (s d:Cell) (f:Int):SV:=.tup [.agg [.ro iK q,.ro aN c,s,d],.one (.v (.int .i64 f)),.one .T]
abbrev DP:SV:=.tup [.agg JL,.one (.v (.int .i64 0)),.one .F]
abbrev zF:Cell:=.ints .u64 4 [0,0,0,0]
abbrev zD:Cell:=.ints .u8 32 (replicate 32 0)
section
variable (gl:Nat->Option (Sigma aA)) (w0:World) (M0:Mem) (F0:Nat->Prop)
abbrev FI:Ob.b5:=Ob.kO Tryz.prog Qe gl w0 M0 F0
end
theorem OP (gl:Nat->Option (Sigma aA)):Ob.dG Tryz.prog gl 13 (fun R:Rt=>[aG R.p]) (fun R=>True) (fun R=>bw R) (fun R (_:Unit)=>(if R.phase<4 then DP else yt [] [] zF zD R.fault)) (fun R _=>bw R) (fun _ _=>True):=by refine Ob.cA (sp:=Qe) qM ab (fun z=>by show 1<=sg.ntmps;exact Odt ab) (fun z _=>by show SV.ids (if z.phase<4 then DP else _)=[];split<;>rfl) ?_;intro R d w0 M0 F0;refine Ob.ee gY 1 (X5 R.p []) ?_;refine Ob.dB 1 (bo (aq (ak sg) 1)) ?_;refine Ob.c7 gY 1 (X5 R.p [(6,aG R.p)]) ?_;refine Ob.gz (E:=(FI gl w0 M0 F0)) (zM gl) R trivial gp (fun _ _=>?_);refine Ye (E:=(FI gl w0 M0 F0)) 7 ab ?_;unfold bw;refine Ob.sK (E:=(FI gl w0 M0 F0)) [0] ab (N6 R bh [(7,.is (.one .F))]) (aw ab ab trivial) ?_;refine Ob.fD gY 9 (fun c=>bg .bool 14 c) (fun q=>N6 R bh [(14,av q)]) (fun q=>q=decide (R.phase<4)) ?_ (fun q b=>Ob.dv ?_);intro w ids M num;refine @al ((N6 R bh [(14,av (decide (R.phase<4)))]).ag (decide (R.phase<4)=decide (R.phase<4))) _ ?_ ?_;kernel_rfl;exact ao rfl;cases q;have a:¬ R.phase<4:=Odf b.symm;refine Ob.eQ (aq (ak sg) 2) ?_;refine Ob.ee gY 1 (DO R bh (.v (.slice none 0 0)) (.v (.slice none 0 0)) zF zD 47 []) ?_;refine Ob.gcd gY 1 (fun _=>()) (fun _=>DO R bh (.sl 63 0 0 0 1) (.v (.slice none 0 0)) zF zD 64 [(63,[.ints .i64 0 ([]:List Int)])]) (fun _=>True) ?_ (fun _ _=>?_);intro w ids M num;refine @al (rV ([],())/\(DO R bh (Cell.sl 63 0 0 0 1) (Cell.v (Value.slice none 0 0)) zF zD 64 [(63,[Cell.ints i64 0 []])]).ag True) _ ?_ ?_;kernel_rfl;exact⟨mS _,ao trivial⟩;refine Ob.gcd gY 1 (fun _=>()) (fun _=>DO R bh (.sl 63 0 0 0 1) (.sl 80 0 0 0 12) zF zD 81 [(80,[.row aN 0 ([]:List Pt)]),(63,[.ints .i64 0 ([]:List Int)])]) (fun _=>True) ?_ (fun _ _=>?_);intro w ids M num;refine @al (o5 ([],())/\(DO R bh (Cell.sl 63 0 0 0 1) (Cell.sl 80 0 0 0 12) zF zD 81 [(80,[Cell.row aN 0 []]),(63,[Cell.ints i64 0 []])]).ag True) _ ?_ ?_;kernel_rfl;exact⟨mS _,ao trivial⟩;refine Ob.sM [] 46 63 0 1 (.int .i64) ([]:List Int) (.ints .i64 0 ([]:List Int)) [.sl 80 0 0 0 12,zF,zD] ae Ob.xc rfl rfl rfl ?_;refine Ob.sM [.ro iK ([]:List Int)] 46 80 0 12 aN ([]:List Pt) (.row aN 0 ([]:List Pt)) [zF,zD] ae (fun _ _ h=>h) rfl rfl rfl ?_;refine Ob.ee gY 1 (enG R bh (.ro iK ([]:List Int)) (.ro aN ([]:List Pt)) zF zD) ?_;refine Ob.fk (E:=(FI gl w0 M0 F0)) (bl:=dF R (bh++[.v (.int .i64 R.fault)])) [0] [8,9,10,11,12,13] 9 (enN (.ro iK ([]:List Int)) (.ro aN ([]:List Pt)) zF zD R.fault) ?_;exact Ob.pM gY (yt ([]:List Int) ([]:List Pt) zF zD R.fault) ⟨(),trivial,by rw[ah a];exact Ob.a7 _,rfl⟩;have a:R.phase<4:=Odt b.symm;refine Ob.jx (aq (ak sg) 2) ?_;refine Ob.fk (E:=(FI gl w0 M0 F0)) (bl:=dF R (bh++[.v (.int .i64 R.fault)])) [0] [8,9,10,11,12,13] 9 enT ?_;refine Ob.gF gY mixed DP ?_ ⟨(),trivial,by rw[aj a];exact Ob.a7 _,rfl⟩;intro w ids M num;refine @al (SV.tup [TV.agg [Cell.v (Value.slice none 0 0),Cell.v (Value.slice none 0 0),Cell.row Kd.fr 1 [(0:Fr)],Cell.ints u8 32 (replicate 32 (zeroOf (Kd.int u8)))],TV.one (Cell.v (Value.int i64 0)),TV.one Cell.F]=DP) _ ?_ ?_;kernel_rfl;rfl
theorem aaJ (gl:Nat->Option (Sigma aA)) (e:List Int × List Pt × Fr × List Int):Ob.dG Tryz.prog gl 13 (fun R:Rt=>[aG R.p]) (fun R=>¬ R.phase<4/\e.1.length<1048576/\e.2.1.length<1048576) (fun R=>pQ R e) (fun R (_:Unit)=>yt e.1 e.2.1 (.row .fr 1 [e.2.2.1]) (.ints .u8 32 e.2.2.2) R.fault) (fun R _=>pQ R e) (fun _ _=>True):=by refine Ob.cA (sp:=Qe) qM ab (fun z=>by show 1<=sg.ntmps;exact Odt ab) (fun z _=>rfl) ?_;intro R a w0 M0 F0;refine Ob.ee gY 1 (X5 R.p []) ?_;refine Ob.dB 1 (bo (aq (ak sg) 1)) ?_;refine Ob.c7 gY 1 (X5 R.p [(6,aG R.p)]) ?_;refine Ob.gz (E:=(FI gl w0 M0 F0)) (EI gl e) R trivial gp (fun _ _=>?_);refine Ye (E:=(FI gl w0 M0 F0)) 7 ab ?_;unfold pQ;refine Ob.sK (E:=(FI gl w0 M0 F0)) [0] ab (N6 R (kG e) [(7,.is (.one .F))]) (aw ab ab trivial) ?_;refine Ob.fD gY 9 (fun c=>bg .bool 14 c) (fun q=>N6 R (kG e) [(14,av q)]) (fun q=>q=decide (R.phase<4)) ?_ (fun q b=>Ob.dv ?_);intro w ids M num;refine @al ((N6 R (kG e) [(14,av (decide (R.phase<4)))]).ag (decide (R.phase<4)=decide (R.phase<4))) _ ?_ ?_;kernel_rfl;exact ao rfl;cases q;have d:¬ R.phase<4:=Odf b.symm;refine Ob.eQ (aq (ak sg) 2) ?_;refine Ob.ee gY 1 (DO R (kG e) (.ro iK e.1) (.ro aN e.2.1) (.row .fr 1 [e.2.2.1]) (.ints .u8 32 e.2.2.2) 47 []) ?_;refine Ob.gcd gY 1 (fun _=>()) (fun _=>DO R (kG e) (.sl 63 0 0 e.1.length 1) (.ro aN e.2.1) (.row .fr 1 [e.2.2.1]) (.ints .u8 32 e.2.2.2) 64 [(63,[.ints .i64 e.1.length e.1])]) (fun _=>True) ?_ (fun _ _=>?_);intro w ids M num;refine @al (rV (e.fst,())/\(DO R (kG e) (Cell.sl 63 0 0 e.fst.length 1) (Cell.ro aN e.snd.fst) (Cell.row Kd.fr 1 [e.snd.snd.fst]) (Cell.ints u8 32 e.snd.snd.snd) 64 [(63,[Cell.ints i64 e.fst.length e.fst])]).ag True) _ ?_ ?_;kernel_rfl;exact⟨a.2.1,ao trivial⟩;refine Ob.gcd gY 1 (fun _=>()) (fun _=>DO R (kG e) (.sl 63 0 0 e.1.length 1) (.sl 80 0 0 e.2.1.length 12) (.row .fr 1 [e.2.2.1]) (.ints .u8 32 e.2.2.2) 81 [(80,[.row aN e.2.1.length e.2.1]),(63,[.ints .i64 e.1.length e.1])]) (fun _=>True) ?_ (fun _ _=>?_);intro w ids M num;refine @al (o5 (e.snd.fst,())/\(DO R (kG e) (Cell.sl 63 0 0 e.fst.length 1) (Cell.sl 80 0 0 e.snd.fst.length 12) (Cell.row Kd.fr 1 [e.snd.snd.fst]) (Cell.ints u8 32 e.snd.snd.snd) 81 [(80,[Cell.row aN e.snd.fst.length e.snd.fst]),(63,[Cell.ints i64 e.fst.length e.fst])]).ag True) _ ?_ ?_;kernel_rfl;exact⟨a.2.2,ao trivial⟩;refine Ob.sM [] 46 63 e.1.length 1 (.int .i64) e.1 (.ints .i64 e.1.length e.1) [.sl 80 0 0 e.2.1.length 12,(.row .fr 1 [e.2.2.1]),(.ints .u8 32 e.2.2.2)] ae Ob.xc rfl rfl rfl ?_;refine Ob.sM [.ro iK e.1] 46 80 e.2.1.length 12 aN e.2.1 (.row aN e.2.1.length e.2.1) [(.row .fr 1 [e.2.2.1]),(.ints .u8 32 e.2.2.2)] ae (fun _ _ h=>h) rfl rfl rfl ?_;refine Ob.ee gY 1 (enG R (kG e) (.ro iK e.1) (.ro aN e.2.1) (.row .fr 1 [e.2.2.1]) (.ints .u8 32 e.2.2.2)) ?_;refine Ob.fk (E:=(FI gl w0 M0 F0)) (bl:=dF R ((kG e)++[.v (.int .i64 R.fault)])) [0] [8,9,10,11,12,13] 9 (enN (.ro iK e.1) (.ro aN e.2.1) (.row .fr 1 [e.2.2.1]) (.ints .u8 32 e.2.2.2) R.fault) ?_;exact Ob.pM gY (yt e.1 e.2.1 (.row .fr 1 [e.2.2.1]) (.ints .u8 32 e.2.2.2) R.fault) ⟨(),trivial,Ob.a7 _,rfl⟩;exact absurd (Odt b.symm) a.1
set_option maxHeartbeats 4000000
abbrev dg:SV:=.is (.one (.v (.pointer none)))
abbrev Yv (c:Nat->Option (Sigma aA)) (d:World) (b:Mem) (a:Nat->Prop):Ob.b5:=Ob.kO Tryz.prog (aP []) c d b a
theorem zL (a:Nat->Option (Sigma aA)):Ob.dG Tryz.prog a 35 (fun _:Unit=>[dg]) (fun _=>True) (fun _=>Ob.ai.none) (fun _ (_:Unit)=>.is (.one .T)) (fun _ _=>Ob.ai.none) (fun _ _=>True):=by refine Ob.cA (sp:=aP []) gp ab (fun z=>by show 1<=qW.ntmps;exact Odt ab) (fun z _=>rfl) ?_;intro _ _ d c b;exact Ob.pM bp (.is (.one .T)) ⟨(),trivial,Ob.a7 _,rfl⟩
def aiQ:St:=ar ui.ntmps 8 [(0,dg)] []
def aiR:St:=ar ui.ntmps 8 [(0,dg),(3,dg)] []
theorem Tv (a:Nat->Option (Sigma aA)):Ob.dG Tryz.prog a 11 (fun _:Unit=>[dg]) (fun _=>True) (fun _=>Ob.ai.none) (fun _ (_:Unit)=>sI .i64 0) (fun _ _=>Ob.ai.none) (fun _ _=>True):=by refine Ob.cA (sp:=aP []) oS ab (fun z=>by show 1<=ui.ntmps;exact Odt ab) (fun z _=>rfl) ?_;intro _ _ d c b;refine Ob.ee bp 1 aiQ ?_;refine Ob.dB 1 (bo (aq (ak ui) 1)) ?_;refine Ob.c7 bp 1 aiR ?_;refine Ob.gz (E:=Yv a d c b) (zL a) () trivial gp (fun _ _=>?_);refine Ob.dv ?_;exact Ob.pM bp (sI .i64 0) ⟨(),trivial,Ob.a7 _,rfl⟩
def ajn (a:Int):St:=ar fw.ntmps 8 [(0,dg),(1,sI .i64 a)] []
def ajo (a:Int):St:=ar fw.ntmps 8 [(0,dg),(1,sI .i64 a),(8,dg)] []
theorem LO (b:Nat->Option (Sigma aA)):Ob.dG Tryz.prog b 10 (fun a:Int=>[dg,sI .i64 a]) (fun _=>True) (fun _=>Ob.ai.none) (fun _ (_:Unit)=>.is (.one (.ro cH []))) (fun _ _=>Ob.ai.none) (fun _ _=>True):=by refine Ob.cA (sp:=aP []) qk ab (fun z=>by show 2<=fw.ntmps;exact Odt ab) (fun z _=>rfl) ?_;intro a _ e d c;refine Ob.ee bp 1 (ajn a) ?_;refine Ob.dB 1 (bo (aq (ak fw) 1)) ?_;refine Ob.c7 bp 1 (ajo a) ?_;refine Ob.gz (E:=Yv b e d c) (zL b) () trivial gp (fun _ _=>?_);refine Ob.dv ?_;exact Ob.pM bp fg ⟨(),trivial,yN cH,rfl⟩
def ahP:St:=ar sg.ntmps 8 ([(0,dg)]++N7) [(0,JL)]
def ahQ:St:=ar sg.ntmps 8 ([(0,dg)]++N7++[(6,dg)]) [(0,JL)]
theorem aaK (a:Nat->Option (Sigma aA)):Ob.dG Tryz.prog a 13 (fun _:Unit=>[dg]) (fun _=>True) (fun _=>Ob.ai.none) (fun _ (_:Unit)=>DP) (fun _ _=>Ob.ai.none) (fun _ _=>True):=by refine Ob.cA (sp:=aP []) qM ab (fun z=>by show 1<=sg.ntmps;exact Odt ab) (fun z _=>rfl) ?_;intro _ _ d c b;refine Ob.ee bp 1 ahP ?_;refine Ob.dB 1 (bo (aq (ak sg) 1)) ?_;refine Ob.c7 bp 1 ahQ ?_;refine Ob.gz (E:=Yv a d c b) (zL a) () trivial gp (fun _ _=>?_);refine Ob.c7 bp 9 (ar sg.ntmps 8 (N7++[(14,.is (.one .T))]) [(0,JL)]) (Ob.dv ?_);exact Ob.pM bp DP ⟨(),trivial,Ob.a7 _,rfl⟩
theorem FN:enters Tryz.prog 16 Tryz.f16:=ek
abbrev p3:Func:=Tryz.f16
def aiy:St:=ar p3.ntmps 8 [(0,dg)] []
def aiz:St:=ar p3.ntmps 8 [(0,dg),(9,dg)] []
theorem ad9 (a:Nat->Option (Sigma aA)):Ob.dG Tryz.prog a 16 (fun m:Hbm.aC=>[dg,.is (.agg (cZ m))]) (fun _=>True) (fun _=>Ob.ai.none) (fun _ (_:Unit)=>.is (.one (.ro cH []))) (fun _ _=>Ob.ai.none) (fun _ _=>True):=by refine Ob.cA (sp:=aP []) FN ab (fun z=>by show 2<=p3.ntmps;exact Odt ab) (fun z _=>rfl) ?_;intro m _ d c b;refine Ob.ee bp 1 aiy ?_;refine Ob.dB 1 (bo (aq (ak p3) 1)) ?_;refine Ob.c7 bp 1 aiz ?_;refine Ob.gz (E:=Yv a d c b) (zL a) () trivial gp (fun _ _=>?_);refine Ob.c7 bp 9 (ar p3.ntmps 8 [(17,.is (.one .T))] []) (Ob.dv ?_);exact Ob.pM bp fg ⟨(),trivial,yN cH,rfl⟩
set_option maxHeartbeats 4000000
theorem K5 {R:Rt} {H:Hbn.a5} (a:(fN R).1=none):fB.ef ⟨⟨R,H⟩,true⟩=Ob.ai.sep (bw { R with fault:=(fN R).2 }) (bu H):=by show Ob.ai.sep (kh R) _=_;unfold kh;rw[a]
theorem K6 {R:Rt} {H:Hbn.a5} {y:List Int × List Pt × Fr × List Int} (a:(fN R).1=some y):fB.ef ⟨⟨R,H⟩,true⟩=Ob.ai.sep (pQ R y) (bu H):=by show Ob.ai.sep (kh R) _=_;unfold kh;rw[a]
theorem Ce (b:Nat->Option (Sigma aA)):Ob.dG Tryz.prog b 11 (fun t:fB=>[aG t.z.R.p]) (fun _=>True) fB.ef (fun t (_:Unit)=>sI .i64 t.z.R.phase) (fun t _=>t.ef) (fun _ _=>True):=by
 rintro⟨⟨R,H⟩,f⟩ _;cases f;exact Ob.cJ (fun _=>bu H) (Jl b) R trivial
 ·cases c:(fN R).1 with
  | none =>simp only[K5 c];exact Ob.cJ (fun _=>bu H) (Jl b) { R with fault:=(fN R).2 } trivial
  | some y =>simp only[K6 c];exact Ob.cJ (fun _=>bu H) (Tu b y) R trivial
def pU (t:fB):SV:=match t.fin,(fN t.z.R).1 with
 | true,some e=>yt e.1 e.2.1 (.row .fr 1 [e.2.2.1]) (.ints .u8 32 e.2.2.2) t.z.R.fault
 | true,none=>if t.z.R.phase<4 then DP else yt [] [] zF zD (fN t.z.R).2
 | false,_=>if t.z.R.phase<4 then DP else yt [] [] zF zD t.z.R.fault
theorem ZT {R:Rt} (e:R.dealers.length<1000) (d:R.need<1000) {y:List Int × List Pt × Fr × List Int} (c:(fN R).1=some y):y.1.length<1048576/\y.2.1.length<1048576:=by have a:=O8 R;have b:=OE R d;unfold fN at c;split at c;split at c;split at c;cases c;exact⟨by show (cS R).length<_;omega,by show (fO R).1.length<_;omega⟩;cases c;cases c;exact⟨by show (cS R).length<_;omega,by show (fO R).1.length<_;omega⟩;cases c
theorem C4 (d:Nat->Option (Sigma aA)):Ob.dG Tryz.prog d 13 (fun t:fB=>[aG t.z.R.p]) TOk fB.ef (fun t (_:Unit)=>pU t) (fun t _=>t.ef) (fun _ _=>True):=by
 rintro⟨⟨R,H⟩,f⟩ h;cases f;exact Ob.cJ (fun _=>bu H) (OP d) R trivial
 ·obtain⟨c,j,g⟩:=h.inv;have g:eE c R H:=g;have i:R.phase=4:=h.fin rfl;cases b:(fN R).1 with
  | none =>
   have e:pU ⟨⟨R,H⟩,true⟩=(if R.phase<4 then DP else yt [] [] zF zD (fN R).2):=by unfold pU;simp only[b]
   simp only[K5 b,e];exact Ob.cJ (fun _=>bu H) (OP d) { R with fault:=(fN R).2 } trivial
  | some y =>
   have e:pU ⟨⟨R,H⟩,true⟩=yt y.1 y.2.1 (.row .fr 1 [y.2.2.1]) (.ints .u8 32 y.2.2.2) R.fault:=by unfold pU;simp only[b]
   simp only[K6 b,e];exact Ob.cJ (fun _=>bu H) (aaJ d y) R ⟨by rw[i];decide,ZT g.dl g.need b⟩
end rite
end Go.Proofs.YtofofalgjibokaaGreatDoor
namespace Go.Hbn
open Go.IntKind(i64)
open Go.IntKind(i64 u8)
open Go.IntKind(i64 u64 u32)
open Go.IntKind(i64 u64 u8 u32)
open Go.Hbm(aC Told gI UK ka di)
def a5.pC (H:a5) (t:Talk):a5:={ H with talks:=H.talks++[t] }
theorem TC (H:a5) (t:Talk):(H.pC t).get H.talks.length=t:=by unfold a5.get a5.pC;simp[aX]
theorem TE (H:a5) (t u:Talk):(H.pC t).set H.talks.length u=H.pC u:=by unfold a5.set a5.pC;simp
theorem OX (H:a5) (t:Talk):(H.pC t).qn=H.qn:=rfl
theorem OW (H:a5) (t:Talk):(H.pC t).half=H.half:=rfl
theorem TD (H:a5) (t:Talk):(H.pC t).mem=H.mem:=rfl
theorem YC (H:a5) (t:Talk):(H.pC t).me=H.me:=rfl
def a5.none (H:a5) (tp bO:Int):Prop:=∀ t∈H.talks,¬ (t.bD=tp/\t.bO=bO)
theorem afM {H:a5} {m:aC} (h:H.none m.bD m.bO) (t:Talk) (e:lZ m t=true):(H.pC t).at m=H.talks.length:=by
 have b:H.talks.findIdx (lZ m)=H.talks.length:=by
  refine II fun x c=>?_;have:=h x c;unfold lZ;cases a:(x.bD==m.bD&&x.bO==m.bO) with
  | false=>rfl
  | true =>simp only[aQ,tT] at a;exact (this a).elim
 show (H.talks++[t]).findIdx (lZ m)=_;rw[List.findIdx_append,b];simp[e]
theorem aaI {H:a5} {m:aC} (h:H.none m.bD m.bO):H.at m=H.talks.length:=by
 refine II fun x b=>?_;have:=h x b;unfold lZ;cases a:(x.bD==m.bD&&x.bO==m.bO) with
 | false=>rfl
 | true =>simp only[aQ,tT] at a;exact (this a).elim
def Hn (H:a5) (tp:Int) (b:List Int) (q:Nat × Nat × Nat):Talk :=
 if H.mem.length=1 then ⟨q.1,q.2.1,q.2.2,tp,H.me,true,true,true,[(H.me,b)],[(H.me,b)]⟩ else ⟨q.1,q.2.1,q.2.2,tp,H.me,true,false,false,[(H.me,b)],[]⟩
def Ks (H:a5) (tp:Int) (b:List Int):List aC:=[(1,0,H.me,H.me,tp,0,b),(2,0,H.me,H.me,tp,0,b)]++if H.mem.length=1 then [(3,0,H.me,H.me,tp,0,b)] else []
def Kr (H:a5) (tp:Int) (b:List Int):List Hbm.Told:=if H.mem.length=1 then [(tp,H.me,b)] else []
theorem alone {H:a5} {tp:Int} {b:List Int} (a:H.me∈H.mem) (n:1<=tp/\tp<=3) (s:b.length<=4096) (l:H.none tp H.me) (w:H.mem.length<=4) (q:Nat × Nat × Nat) :
  iW H tp b q=(H.pC (Hn H tp b q),Ks H tp b,Kr H tp b):=by
 have m:1<=H.mem.length:=List.length_pos_of_mem a;have i:∀ k:Int,(k=1\/k=2\/k=3)->counts H.mem (k,0,H.me,H.me,tp,0,b)=true:=fun k u=>by unfold counts;simp only[aQ,jR];exact⟨u,⟨n.1,n.2,s⟩,a,a⟩
 have j:H.of (1,0,H.me,H.me,tp,0,b) q=H.pC ⟨q.1,q.2.1,q.2.2,tp,H.me,false,false,false,[],[]⟩:=by unfold a5.of;rw[aaI l,ah (Nat.lt_irrefl _)];rfl
 have d:∀ (k:Int) (t:Talk),t.bD=tp->t.bO=H.me->(H.pC t).at (k,0,H.me,H.me,tp,0,b)=H.talks.length:=fun k t c g=>afM l t (by unfold lZ;rw[c,g];simp);have f:H.qn=((H.mem.length:Int)-1)/3:=rfl;have e:H.half=((H.mem.length:Int)+H.qn)/2:=rfl;unfold iW jc;rw[aj (i 1 (.inl rfl)),j];by_cases h:H.mem.length=1
 ·have c:H.qn=0:=by rw[f,h];rfl
  have g:H.half=0:=by rw[e,c,h];rfl
  simp[aC.kind,aC.aW,aC.bO,aC.bD,aC.body,kk,jl,mF,dK,kc,l8,andThen,plus,own,TC,TE,OX,OW,TD,YC,i,d,c,g,di,ka,h,Hn,Ks,Kr]
 ·have c:0<=H.qn:=by rw[f];omega
  have g:1<=H.half:=by rw[e];omega
  have o:¬ (H.half<1):=aa;have p:¬ (H.qn<0):=aa;have r:¬ (2*H.qn<0):=aa;simp[aC.kind,aC.aW,aC.bO,aC.bD,aC.body,kk,jl,mF,dK,kc,l8,andThen,plus,own,TC,TE,OX,OW,TD,YC,i,d,o,p,r,di,ka,h,Hn,Ks,Kr]
