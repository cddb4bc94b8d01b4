import Derived.Test.YtbeeaekepmnfhaaGreatDoorML15cPX
set_option maxRecDepth 100000
namespace Go.Proofs.YtbeeaekepmnfhaaGreatDoor.sha
noncomputable section
open Go Go.Eng Go.RowKit Cr
theorem ent_write:enters Tryz.prog 161 Tryz.f161:=ek
def wro (st rest:List Int) (sz:Int) (b:List Int):Car hashK:=opq (wrF tko firstL st rest sz b)
theorem took_wro {L st rest:List Int} {sz:Int} (h:Took tko firstL L st rest sz) (b:List Int):Took tko firstL (L++b) (wro st rest sz b).1 (wro st rest sz b).2.1 (wro st rest sz b).2.2:=by
 rw[wro,opq_eq];exact took_wr tko firstL h b
theorem wrEnd_step (st rest b:List Int) (h:64<=b.length):wrEnd tko (tko st (b.take 64)) rest (b.drop 64)=wrEnd tko st rest b:=by
 have h1:b.take 64++b.drop 64=b:=List.take_append_drop _ _
 have h2:(b.take 64).length=64*1:=by rw[List.length_take];omega
 have h3:tailOf (b.drop 64)=tailOf b:=by
  have:=tailOf_app (b.take 64) (b.drop 64) 1 h2
  rw[h1] at this;exact this.symm
 have h4:absK tko (tko st (b.take 64)) (b.drop 64) ((b.drop 64).length/64)=absK tko st b (b.length/64):=by
  have:=absK_app tko st (b.take 64) (b.drop 64) 1 h2 ((b.drop 64).length/64)
  rw[h1] at this
  have e:absK tko st (b.take 64) 1=tko st (b.take 64):=by
   show tko st _=_
   rw[Nat.mul_zero,List.drop_zero,List.take_take];rfl
  rw[e] at this
  rw[<- this]
  congr 1
  rw[List.length_drop];omega
 unfold wrEnd
 rw[h3,h4]
abbrev Wg:Type:=(List Int × List Int × Int) × List Int
def wrS (g:Wg):St:=mkSt Tryz.f161.ntmps 201 [(0,.is (.one (.ptr 0 0))),(1,.is (.one (.ro bK g.2)))] [(0,[.ints .u32 8 g.1.1,.ints .u8 64 g.1.2.1,.v (.int .i64 g.1.2.2)])]
abbrev preWr:Car hashK × HL [.sl bK]->Prop:=fun ((_,_,sz),b,_)=>(0:Int)<=sz/\sz<=(1152921504606846976:Int)/\List.length b<=1152921504606846976
def wrJ (st rest:List Int) (sz:Int) (b:List Int) (g:Wg):Prop:=((wrEnd tko g.1.1 g.1.2.1 g.2).1,(wrEnd tko g.1.1 g.1.2.1 g.2).2,g.1.2.2)=wro st rest sz b/\g.1.2.1.length=64
theorem wro_eq0 {st rest:List Int} {sz:Int} {b:List Int} (h:(sz%64).toNat=0):wro st rest sz b=((wrEnd tko (bif decide (sz=0) then firstL else st) rest b).1,(wrEnd tko (bif decide (sz=0) then firstL else st) rest b).2,sz+b.length):=by
 rw[wro,opq_eq,wrF,decide_eq_true h]
theorem wro_eq1 {st rest:List Int} {sz:Int} {b:List Int} {a:Nat} (ha:a=(sz%64).toNat) (h:a≠0) (h2:a+b.length<64):wro st rest sz b=(st,rest.take a++(b++rest.drop (a+b.length)),sz+b.length):=by
 subst ha
 rw[wro,opq_eq,wrF,decide_eq_false h,decide_eq_true h2]
theorem wro_eq2 {st rest:List Int} {sz:Int} {b:List Int} {a:Nat} (ha:a=(sz%64).toNat) (h:a≠0) (h2:¬a+b.length<64):wro st rest sz b =
  ((wrEnd tko (tko st (rest.take a++b.take (64-a))) (rest.take a++b.take (64-a)) (b.drop (64-a))).1,(wrEnd tko (tko st (rest.take a++b.take (64-a))) (rest.take a++b.take (64-a)) (b.drop (64-a))).2,sz+b.length):=by
 subst ha
 rw[wro,opq_eq,wrF,decide_eq_false h,decide_eq_false h2]
theorem fn_write:FnOkP Tryz.prog 161 hashK [.sl bK] [] shaG preWr (fun ((st,rest,sz),b,_)=>(wro st rest sz b,())):=by
 have hsp:SpecsOk Tryz.prog (sps [spTake]):=spk (fnSpecPG_ok fn_take) snl
 refine fn_of_trP (sp:=sps [spTake]) ent_write (by decide) (by decide) (by kernel_rfl) ?_
 rintro w M0 b0 ⟨st,rest,sz⟩ ⟨b,⟨⟩⟩
 revert st rest sz b
 intro (st:List Int) (rest:List Int) (sz:Int) (b:List Int) hw hw2 hp
 obtain⟨hs0,hs1,hb⟩:=hp
 have hs0:(0:Int)<=sz:=hs0
 have hs1:sz<=(1152921504606846976:Int):=hs1
 have hb:b.length<=1152921504606846976:=hb
 have hst:st.length=8:=hw.1.1
 have hrl:rest.length=64:=hw.2.1.1
 show Tr _ _ _ _ _ _ _
 refine tr_cutF hsp mixed 8 (fun σ=>(rdB hashK 0 σ,rdO bK 1 σ)) wrS (wrJ st rest sz b) ?_ ?_
 ·refine vcx (X:=(((sz==(0:Int))=true->(0:Nat)<[firstL].length/\((64:Int)=(0:Int)->False)/\(decide (sz.tmod (64:Int)>(0:Int))=true->((0:Int)<=sz.tmod (64:Int)/\sz.tmod (64:Int)<=(↑(64:Nat):Int))/\(sz.tmod (64:Int)).toNat+((↑(64:Nat):Int)-sz.tmod (64:Int)).toNat<=(64:Nat)/\(decide (IntKind.i64.wrap (sz.tmod (64:Int)+(↑(b.length.min ((↑(64:Nat):Int)-sz.tmod (64:Int)).toNat):Int))<(64:Int))=true->(([(1779033703:Int),(3144134277:Int),(1013904242:Int),(2773480762:Int),(1359893119:Int),(2600822924:Int),(528734635:Int),(1541459225:Int)],List.take (sz.tmod (64:Int)).toNat rest++(List.take (b.length.min ((↑(64:Nat):Int)-sz.tmod (64:Int)).toNat) b++List.drop ((sz.tmod (64:Int)).toNat+b.length.min ((↑(64:Nat):Int)-sz.tmod (64:Int)).toNat) rest),IntKind.i64.wrap (sz+(↑b.length:Int))),())=(wro st rest sz b,()))/\(decide (IntKind.i64.wrap (sz.tmod (64:Int)+(↑(b.length.min ((↑(64:Nat):Int)-sz.tmod (64:Int)).toNat):Int))<(64:Int))=false->((0:Int)<=(↑(b.length.min ((↑(64:Nat):Int)-sz.tmod (64:Int)).toNat):Int)/\(↑(b.length.min ((↑(64:Nat):Int)-sz.tmod (64:Int)).toNat):Int)<=(↑b.length:Int))/\(∀ (g:Nat) (s:Sigma Car),shaG g=some s->Decidable.rec (fun h=>(fun x=>if g=(1:Nat) then some ⟨Kd.arr (64:Nat) uK,rootsL⟩ else none) h) (fun h=>(fun x=>some ⟨Kd.arr (8:Nat) uK,firstL⟩) h) (instDecidableEqNat g (0:Nat))=some s)/\True/\(wrS ((tko firstL (List.take (sz.tmod (64:Int)).toNat rest++(List.take (b.length.min ((↑(64:Nat):Int)-sz.tmod (64:Int)).toNat) b++List.drop ((sz.tmod (64:Int)).toNat+b.length.min ((↑(64:Nat):Int)-sz.tmod (64:Int)).toNat) rest)),List.take (sz.tmod (64:Int)).toNat rest++(List.take (b.length.min ((↑(64:Nat):Int)-sz.tmod (64:Int)).toNat) b++List.drop ((sz.tmod (64:Int)).toNat+b.length.min ((↑(64:Nat):Int)-sz.tmod (64:Int)).toNat) rest),IntKind.i64.wrap (sz+(↑b.length:Int))),List.take ((↑b.length:Int)-(↑(b.length.min ((↑(64:Nat):Int)-sz.tmod (64:Int)).toNat):Int)).toNat (List.drop (↑(b.length.min ((↑(64:Nat):Int)-sz.tmod (64:Int)).toNat):Int).toNat b))).triv (wrJ st rest sz b ((tko firstL (List.take (sz.tmod (64:Int)).toNat rest++(List.take (b.length.min ((↑(64:Nat):Int)-sz.tmod (64:Int)).toNat) b++List.drop ((sz.tmod (64:Int)).toNat+b.length.min ((↑(64:Nat):Int)-sz.tmod (64:Int)).toNat) rest)),List.take (sz.tmod (64:Int)).toNat rest++(List.take (b.length.min ((↑(64:Nat):Int)-sz.tmod (64:Int)).toNat) b++List.drop ((sz.tmod (64:Int)).toNat+b.length.min ((↑(64:Nat):Int)-sz.tmod (64:Int)).toNat) rest),IntKind.i64.wrap (sz+(↑b.length:Int))),List.take ((↑b.length:Int)-(↑(b.length.min ((↑(64:Nat):Int)-sz.tmod (64:Int)).toNat):Int)).toNat (List.drop (↑(b.length.min ((↑(64:Nat):Int)-sz.tmod (64:Int)).toNat):Int).toNat b)))))/\(decide (sz.tmod (64:Int)>(0:Int))=false->(wrS (([(1779033703:Int),(3144134277:Int),(1013904242:Int),(2773480762:Int),(1359893119:Int),(2600822924:Int),(528734635:Int),(1541459225:Int)],rest,IntKind.i64.wrap (sz+(↑b.length:Int))),b)).triv (wrJ st rest sz b (([(1779033703:Int),(3144134277:Int),(1013904242:Int),(2773480762:Int),(1359893119:Int),(2600822924:Int),(528734635:Int),(1541459225:Int)],rest,IntKind.i64.wrap (sz+(↑b.length:Int))),b))))/\((sz==(0:Int))=false->((64:Int)=(0:Int)->False)/\(decide (sz.tmod (64:Int)>(0:Int))=true->((0:Int)<=sz.tmod (64:Int)/\sz.tmod (64:Int)<=(↑(64:Nat):Int))/\(sz.tmod (64:Int)).toNat+((↑(64:Nat):Int)-sz.tmod (64:Int)).toNat<=(64:Nat)/\(decide (IntKind.i64.wrap (sz.tmod (64:Int)+(↑(b.length.min ((↑(64:Nat):Int)-sz.tmod (64:Int)).toNat):Int))<(64:Int))=true->((st,List.take (sz.tmod (64:Int)).toNat rest++(List.take (b.length.min ((↑(64:Nat):Int)-sz.tmod (64:Int)).toNat) b++List.drop ((sz.tmod (64:Int)).toNat+b.length.min ((↑(64:Nat):Int)-sz.tmod (64:Int)).toNat) rest),IntKind.i64.wrap (sz+(↑b.length:Int))),())=(wro st rest sz b,()))/\(decide (IntKind.i64.wrap (sz.tmod (64:Int)+(↑(b.length.min ((↑(64:Nat):Int)-sz.tmod (64:Int)).toNat):Int))<(64:Int))=false->((0:Int)<=(↑(b.length.min ((↑(64:Nat):Int)-sz.tmod (64:Int)).toNat):Int)/\(↑(b.length.min ((↑(64:Nat):Int)-sz.tmod (64:Int)).toNat):Int)<=(↑b.length:Int))/\(∀ (g:Nat) (s:Sigma Car),shaG g=some s->Decidable.rec (fun h=>(fun x=>if g=(1:Nat) then some ⟨Kd.arr (64:Nat) uK,rootsL⟩ else none) h) (fun h=>(fun x=>some ⟨Kd.arr (8:Nat) uK,firstL⟩) h) (instDecidableEqNat g (0:Nat))=some s)/\True/\(wrS ((tko st (List.take (sz.tmod (64:Int)).toNat rest++(List.take (b.length.min ((↑(64:Nat):Int)-sz.tmod (64:Int)).toNat) b++List.drop ((sz.tmod (64:Int)).toNat+b.length.min ((↑(64:Nat):Int)-sz.tmod (64:Int)).toNat) rest)),List.take (sz.tmod (64:Int)).toNat rest++(List.take (b.length.min ((↑(64:Nat):Int)-sz.tmod (64:Int)).toNat) b++List.drop ((sz.tmod (64:Int)).toNat+b.length.min ((↑(64:Nat):Int)-sz.tmod (64:Int)).toNat) rest),IntKind.i64.wrap (sz+(↑b.length:Int))),List.take ((↑b.length:Int)-(↑(b.length.min ((↑(64:Nat):Int)-sz.tmod (64:Int)).toNat):Int)).toNat (List.drop (↑(b.length.min ((↑(64:Nat):Int)-sz.tmod (64:Int)).toNat):Int).toNat b))).triv (wrJ st rest sz b ((tko st (List.take (sz.tmod (64:Int)).toNat rest++(List.take (b.length.min ((↑(64:Nat):Int)-sz.tmod (64:Int)).toNat) b++List.drop ((sz.tmod (64:Int)).toNat+b.length.min ((↑(64:Nat):Int)-sz.tmod (64:Int)).toNat) rest)),List.take (sz.tmod (64:Int)).toNat rest++(List.take (b.length.min ((↑(64:Nat):Int)-sz.tmod (64:Int)).toNat) b++List.drop ((sz.tmod (64:Int)).toNat+b.length.min ((↑(64:Nat):Int)-sz.tmod (64:Int)).toNat) rest),IntKind.i64.wrap (sz+(↑b.length:Int))),List.take ((↑b.length:Int)-(↑(b.length.min ((↑(64:Nat):Int)-sz.tmod (64:Int)).toNat):Int)).toNat (List.drop (↑(b.length.min ((↑(64:Nat):Int)-sz.tmod (64:Int)).toNat):Int).toNat b)))))/\(decide (sz.tmod (64:Int)>(0:Int))=false->(wrS ((st,rest,IntKind.i64.wrap (sz+(↑b.length:Int))),b)).triv (wrJ st rest sz b ((st,rest,IntKind.i64.wrap (sz+(↑b.length:Int))),b)))))) (by kernel_rfl) ?_
  obtain⟨a,ha,ha64,har⟩:∃ a:Nat,sz.tmod 64=(a:Int)/\a<64/\a=(sz%64).toNat:=⟨(sz%64).toNat,by rw[Int.tmod_eq_emod_of_nonneg hs0];omega,by omega,rfl⟩
  have e1:((↑(64:Nat):Int)-(a:Int)).toNat=64-a:=by omega
  have e3:IntKind.i64.wrap (sz+(↑b.length:Int))=sz+b.length:=wrap_i64' (by omega) (by omega)
  rw[ha,e1,e3]
  obtain⟨n,hn⟩:∃ n,n=b.length.min (64-a):=⟨_,rfl⟩
  have hn':n=min b.length (64-a):=hn
  have e2:IntKind.i64.wrap ((a:Int)+(n:Int))=((a+n:Nat):Int):=by rw[wrap_i64' (by omega) (by omega)];omega
  rw[<- hn,e2]
  simp only[Int.toNat_natCast]
  refine⟨fun h0=>⟨by decide,by decide,fun hpos=>?_,fun hz=>tvi ?_⟩,fun h0=>⟨by decide,fun hpos=>⟨⟨by omega,by omega⟩,by omega,fun hlt=>?_,fun hge=>⟨⟨by omega,by omega⟩,fun _ _ h=>h,trivial,tvi ?_⟩⟩,fun hz=>tvi ?_⟩⟩
  ·exfalso
   have h0:sz=0:=by simpa using h0
   have:=of_decide_eq_true hpos
   subst h0;omega
  ·have h0:sz=0:=by simpa using h0
   refine⟨?_,hrl⟩
   rw[wro_eq0 (by omega),decide_eq_true h0];rfl
  ·have hlt:=of_decide_eq_true hlt
   have hpos:=of_decide_eq_true hpos
   have hnb:n=b.length:=by omega
   rw[wro_eq1 har (by omega) (by omega),hnb,List.take_of_length_le (Nat.le_refl _)]
  ·have hge:=of_decide_eq_false hge
   have hpos:=of_decide_eq_true hpos
   have hnb:n=64-a:=by omega
   have hr1:rest.take a++(b.take n++rest.drop (a+n))=rest.take a++b.take (64-a):=by
    rw[hnb,List.drop_eq_nil_of_le (by omega),List.append_nil]
   have hb1:List.take ((↑b.length:Int)-(n:Int)).toNat (List.drop n b)=b.drop (64-a):=by
    rw[List.take_of_length_le (by rw[List.length_drop];omega),hnb]
   rw[hr1,hb1]
   refine⟨?_,?_⟩
   ·rw[wro_eq2 har (by omega) (by omega)]
   ·show (rest.take a++b.take (64-a)).length=64
    rw[List.length_append,List.length_take,List.length_take];omega
  ·have hz:=of_decide_eq_false hz
   have h0:¬ sz=0:=by simpa using h0
   refine⟨?_,hrl⟩
   rw[wro_eq0 (by omega),decide_eq_false h0];rfl
 rintro⟨⟨st1,rest1,sz1⟩,b1⟩ hJ
 revert st1 rest1 sz1 b1
 intro (b1:List Int) (st1:List Int) (rest1:List Int) (sz1:Int) (hJ:wrJ st rest sz b ((st1,rest1,sz1),b1))
 refine tr_while hsp mixed noSw (fun σ=>(rdB hashK 0 σ,rdO bK 1 σ)) wrS (wrJ st rest sz b) (fun g=>g.2.length)
  (fun σ=>(rdB hashK 0 σ,rdO bK 1 σ)) wrS (fun g=>wrJ st rest sz b g/\g.2.length<64) ((st1,rest1,sz1),b1) (c:=nthC (codeOf Tryz.f161) 8) (by kernel_rfl) (by kernel_rfl) (le_of_proj (by kernel_rfl) (by kernel_rfl) ?_) ?_ ?_
 ·exact hJ
 ·rintro⟨⟨st1,rest1,sz1⟩,b1⟩ hj
  revert st1 rest1 sz1 b1
  intro (b1:List Int) (st1:List Int) (rest1:List Int) (sz1:Int) (hj:wrJ st rest sz b ((st1,rest1,sz1),b1))
  refine vcx (X:=((decide ((↑b1.length:Int)>=(64:Int))=true->(64:Nat)<=b1.length/\(0:Nat)+Tryz.prog.cellsOf 214/width bK<=b1.length/\(∀ (g:Nat) (s:Sigma Car),shaG g=some s->Decidable.rec (fun h=>(fun x=>if g=(1:Nat) then some ⟨Kd.arr (64:Nat) uK,rootsL⟩ else none) h) (fun h=>(fun x=>some ⟨Kd.arr (8:Nat) uK,firstL⟩) h) (instDecidableEqNat g (0:Nat))=some s)/\True/\((0:Int)<=(64:Int)/\(64:Int)<=(↑b1.length:Int))/\(wrS ((tko st1 (List.take (Tryz.prog.cellsOf 214/width bK) b1),rest1,sz1),List.take ((↑b1.length:Int)-(64:Int)).toNat (List.drop (64:Nat) b1))).triv (wrJ st rest sz b ((tko st1 (List.take (Tryz.prog.cellsOf 214/width bK) b1),rest1,sz1),List.take ((↑b1.length:Int)-(64:Int)).toNat (List.drop (64:Nat) b1))/\(List.take ((↑b1.length:Int)-(64:Int)).toNat (List.drop (64:Nat) b1)).length<b1.length))/\(decide ((↑b1.length:Int)>=(64:Int))=false->(wrS ((st1,rest1,sz1),b1)).triv (wrJ st rest sz b ((st1,rest1,sz1),b1)/\b1.length<(64:Nat))))) (by kernel_rfl) ?_
  have e64:Tryz.prog.cellsOf 214/width bK=64:=by kernel_rfl
  obtain⟨hj1,hj2⟩:=hj
  refine⟨fun h=>?_,fun h=>tvi ⟨⟨hj1,hj2⟩,by have:=of_decide_eq_false h;omega⟩⟩
  have h64:64<=b1.length:=by have:=of_decide_eq_true h;omega
  have hd:List.take ((↑b1.length:Int)-(64:Int)).toNat (List.drop 64 b1)=b1.drop 64:=List.take_of_length_le (by rw[List.length_drop];omega)
  show 64<=b1.length/\0+Tryz.prog.cellsOf 214/width bK<=b1.length/\_
  rw[e64,hd]
  refine⟨h64,by omega,fun _ _ h=>h,trivial,⟨by omega,by omega⟩,tvi ⟨⟨?_,hj2⟩,?_⟩⟩
  ·show ((wrEnd tko (tko st1 (List.take (Tryz.prog.cellsOf 214/width bK) b1)) rest1 (b1.drop 64)).1,(wrEnd tko (tko st1 (List.take (Tryz.prog.cellsOf 214/width bK) b1)) rest1 (b1.drop 64)).2,sz1)=_
   rw[e64,wrEnd_step _ _ _ h64];exact hj1
  ·rw[List.length_drop];omega
 rintro⟨⟨st2,rest2,sz2⟩,b2⟩ hj
 revert st2 rest2 sz2 b2
 intro (b2:List Int) (st2:List Int) (rest2:List Int) (sz2:Int) (hj:wrJ st rest sz b ((st2,rest2,sz2),b2)/\b2.length<64)
 refine tr_vc hsp mixed _ _ ?_
 refine vcx (X:=(0+64<=64/\((st2,List.take 0 rest2++(List.take (b2.length.min (64:Nat)) b2++List.drop ((0:Nat)+b2.length.min (64:Nat)) rest2),sz2),())=(wro st rest sz b,()))) (by kernel_rfl) ?_
 obtain⟨⟨hj1,hj2⟩,hlt⟩:=hj
 have hlt:b2.length<64:=hlt
 refine⟨by decide,?_⟩
 have e1:b2.length.min 64=b2.length:=Nat.min_eq_left (by omega)
 have e2:tailOf b2=b2:=by rw[tailOf,show b2.length/64=0 by omega];rfl
 rw[<- hj1,e1]
 show ((st2,List.take 0 rest2++(List.take b2.length b2++List.drop (0+b2.length) rest2),sz2),())=(((wrEnd tko st2 rest2 b2).1,(wrEnd tko st2 rest2 b2).2,sz2),())
 unfold wrEnd
 rw[e2,List.take_of_length_le (Nat.le_refl _),show b2.length/64=0 by omega,Nat.zero_add]
 rfl
def spWrite:Nat × Eng.Spec:=(161,fnSpecPG shaG hashK [.sl bK] [] preWr (fun ((st,rest,sz),b,_)=>(wro st rest sz b,())))
end
end Go.Proofs.YtbeeaekepmnfhaaGreatDoor.sha
namespace Go.Proofs.YtbeeaekepmnfhaaGreatDoor.sha
noncomputable section
open Go Go.Eng Go.RowKit Cr
theorem set_fill (f:Nat->Int) (p:List Int) (k n:Nat):(p++((List.range k).map f++List.replicate (n+1) 0)).set (p.length+k) (f k)=p++((List.range (k+1)).map f++List.replicate n 0):=by
 rw[List.set_append_right _ _ (by omega),show p.length+k-p.length=k by omega,List.set_append_right _ _ (by simp)]
 rw[show k-((List.range k).map f).length=0 by simp,List.replicate_succ,List.set_cons_zero,List.range_succ,List.map_append,List.append_assoc]
 rfl
theorem wrap_u8 (x:Int):IntKind.u8.wrap x=x%256:=by
 simp only[IntKind.wrap,IntKind.signed,IntKind.bits]
 simp
theorem ent_sum:enters Tryz.prog 162 Tryz.f162:=ek
def nn (sz:Int):Nat:=(64+55-sz.toNat%64)%64
def szB (sz:Int) (i:Nat):Int:=sz*8/2^(56-8*i)%256
def tlk (sz:Int) (k:Nat):List Int:=(128::List.replicate (nn sz) 0)++((List.range k).map (szB sz)++List.replicate (71-nn sz-k) 0)
theorem tlk_pad (sz:Int) (h:0<=sz):(tlk sz 8).take (1+nn sz+8)=padB sz.toNat:=by
 have e:tlk sz 8=((128::List.replicate (nn sz) 0)++(List.range 8).map (szB sz))++List.replicate (71-nn sz-8) 0:=by rw[tlk,List.append_assoc]
 rw[e,List.take_left' (by simp;omega)]
 have e2:((sz.toNat:Nat):Int)=sz:=by omega
 unfold padB szB nn
 rw[e2]
 rfl
def smA (st rest:List Int) (sz:Int) (n:Int) (g:Int × List Int):St:=mkSt Tryz.f162.ntmps 129 [(0,.is (.one (.ptr 0 0))),(2,.is (.one (.ptr 1 0))),(3,.is (.one (.ptr 9 0))),(4,.is (.one (.ptr 33 0))),(5,sI .i64 n),(20,sI .i64 g.1)] [(33,[.ints .u8 72 g.2]),(9,[.ints .u8 32 (List.replicate 32 0)]),(1,[.ints .u8 32 (List.replicate 32 0)]),(0,[.ints .u32 8 st,.ints .u8 64 rest,.v (.int .i64 sz)])]
def smB (st rest:List Int) (sz:Int) (y:Car hashK) (g:Int × List Int):St:=mkSt Tryz.f162.ntmps 217 [(2,.is (.one (.ptr 1 0))),(3,.is (.one (.ptr 9 0))),(7,.is (.one (.ptr 153 0))),(48,sI .i64 g.1)] [(153,[.ints .u32 8 y.1,.ints .u8 64 y.2.1,.v (.int .i64 y.2.2)]),(9,[.ints .u8 32 g.2]),(1,[.ints .u8 32 (List.replicate 32 0)]),(0,[.ints .u32 8 st,.ints .u8 64 rest,.v (.int .i64 sz)])]
def outE (s:List Int) (i:Nat):Int:=IntKind.u8.wrap ((s.getD (i/4) 0).fdiv (2^(24-8*(i%4))))
def oK (s:List Int) (k:Nat):List Int:=[]++((List.range k).map (outE s)++List.replicate (32-k) 0)
def sumo (st rest:List Int) (sz:Int):List Int:=opq (outB (wro st rest sz (padB sz.toNat)).1)
theorem took_sum {L st rest:List Int} {sz:Int} (h:Took tko firstL L st rest sz):sumo st rest sz=dig L:=by
 have e:sz.toNat=L.length:=by have:=h.1;omega
 have k:=took_wro h (padB L.length)
 have hne:L++padB L.length≠[]:=by simp[padB]
 rw[sumo,opq_eq,dig,opq_eq,digF,e,k.2.2.1 hne]
theorem fn_sum:FnOkP Tryz.prog 162 hashK [] [.val (.arr 32 bK)] shaG (fun ((_,_,sz),_)=>(0:Int)<=sz/\sz<=(1152921504606846976:Int)) (fun ((st,rest,sz),_)=>((st,rest,sz),(sumo st rest sz,()))):=by
 have hsp:SpecsOk Tryz.prog (sps [spWrite]):=spk (fnSpecPG_ok fn_write) snl
 refine fn_of_trP (sp:=sps [spWrite]) ent_sum (by decide) (by decide) (by kernel_rfl) ?_
 rintro w M0 b0 ⟨st,rest,sz⟩ ⟨⟩
 revert st rest sz
 intro (st:List Int) (rest:List Int) (sz:Int) hw hw2 hp
 have hs0:(0:Int)<=sz:=hp.1
 have hs1:sz<=(1152921504606846976:Int):=hp.2
 have hnn:nn sz<64:=Nat.mod_lt _ (by decide)
 have hn0:(119-sz.tmod 64).tmod 64=(nn sz:Int):=by
  rw[Int.tmod_eq_emod_of_nonneg hs0,Int.tmod_eq_emod_of_nonneg (by omega)]
  show _=(((64+55-sz.toNat%64)%64:Nat):Int)
  omega
 have hw64:IntKind.u64.wrap sz=sz:=by
  simp only[IntKind.wrap,IntKind.signed,IntKind.bits]
  simp;omega
 have hw8:IntKind.u64.wrap (sz*8)=sz*8:=by
  simp only[IntKind.wrap,IntKind.signed,IntKind.bits]
  simp;omega
 show Tr _ _ _ _ _ _ _
 refine tr_cutF hsp mixed 8 (fun σ=>(rdS (.int .i64) 5 σ,rdR bK 33 σ)) (fun g=>smA st rest sz g.1 (0,g.2)) (fun g=>g.1=(nn sz:Int)/\g.2=tlk sz 0) ?_ ?_
 ·refine vcx (X:=((0:Nat)<(72:Nat)/\((64:Int)=(0:Int)->False)/\((64:Int)=(0:Int)->False)/\(smA st rest sz ((IntKind.i64.wrap ((119:Int)-sz.tmod (64:Int))).tmod (64:Int),[(128:Int),(0:Int),(0:Int),(0:Int),(0:Int),(0:Int),(0:Int),(0:Int),(0:Int),(0:Int),(0:Int),(0:Int),(0:Int),(0:Int),(0:Int),(0:Int),(0:Int),(0:Int),(0:Int),(0:Int),(0:Int),(0:Int),(0:Int),(0:Int),(0:Int),(0:Int),(0:Int),(0:Int),(0:Int),(0:Int),(0:Int),(0:Int),(0:Int),(0:Int),(0:Int),(0:Int),(0:Int),(0:Int),(0:Int),(0:Int),(0:Int),(0:Int),(0:Int),(0:Int),(0:Int),(0:Int),(0:Int),(0:Int),(0:Int),(0:Int),(0:Int),(0:Int),(0:Int),(0:Int),(0:Int),(0:Int),(0:Int),(0:Int),(0:Int),(0:Int),(0:Int),(0:Int),(0:Int),(0:Int),(0:Int),(0:Int),(0:Int),(0:Int),(0:Int),(0:Int),(0:Int),(0:Int)]).fst ((0:Int),((IntKind.i64.wrap ((119:Int)-sz.tmod (64:Int))).tmod (64:Int),[(128:Int),(0:Int),(0:Int),(0:Int),(0:Int),(0:Int),(0:Int),(0:Int),(0:Int),(0:Int),(0:Int),(0:Int),(0:Int),(0:Int),(0:Int),(0:Int),(0:Int),(0:Int),(0:Int),(0:Int),(0:Int),(0:Int),(0:Int),(0:Int),(0:Int),(0:Int),(0:Int),(0:Int),(0:Int),(0:Int),(0:Int),(0:Int),(0:Int),(0:Int),(0:Int),(0:Int),(0:Int),(0:Int),(0:Int),(0:Int),(0:Int),(0:Int),(0:Int),(0:Int),(0:Int),(0:Int),(0:Int),(0:Int),(0:Int),(0:Int),(0:Int),(0:Int),(0:Int),(0:Int),(0:Int),(0:Int),(0:Int),(0:Int),(0:Int),(0:Int),(0:Int),(0:Int),(0:Int),(0:Int),(0:Int),(0:Int),(0:Int),(0:Int),(0:Int),(0:Int),(0:Int),(0:Int)]).snd)).triv ((IntKind.i64.wrap ((119:Int)-sz.tmod (64:Int))).tmod (64:Int)=(↑(nn sz):Int)/\[(128:Int),(0:Int),(0:Int),(0:Int),(0:Int),(0:Int),(0:Int),(0:Int),(0:Int),(0:Int),(0:Int),(0:Int),(0:Int),(0:Int),(0:Int),(0:Int),(0:Int),(0:Int),(0:Int),(0:Int),(0:Int),(0:Int),(0:Int),(0:Int),(0:Int),(0:Int),(0:Int),(0:Int),(0:Int),(0:Int),(0:Int),(0:Int),(0:Int),(0:Int),(0:Int),(0:Int),(0:Int),(0:Int),(0:Int),(0:Int),(0:Int),(0:Int),(0:Int),(0:Int),(0:Int),(0:Int),(0:Int),(0:Int),(0:Int),(0:Int),(0:Int),(0:Int),(0:Int),(0:Int),(0:Int),(0:Int),(0:Int),(0:Int),(0:Int),(0:Int),(0:Int),(0:Int),(0:Int),(0:Int),(0:Int),(0:Int),(0:Int),(0:Int),(0:Int),(0:Int),(0:Int),(0:Int)]=tlk sz (0:Nat)))) (by kernel_rfl) ?_
  have e:IntKind.i64.wrap (119-sz.tmod 64)=119-sz.tmod 64:=by
   rw[Int.tmod_eq_emod_of_nonneg hs0];exact wrap_i64' (by omega) (by omega)
  rw[e,hn0]
  refine⟨by decide,by decide,by decide,tvi ⟨rfl,?_⟩⟩
  show _=(128::List.replicate (nn sz) 0)++([]++List.replicate (71-nn sz-0) 0)
  rw[List.nil_append,List.cons_append,List.replicate_append_replicate,show nn sz+(71-nn sz-0)=71 by omega]
  rfl
 rintro⟨n0,t0⟩ hK
 revert n0 t0
 intro (n0:Int) (t0:List Int) ⟨e0,et⟩
 have e0:n0=(nn sz:Int):=e0
 have et:t0=tlk sz 0:=et
 subst e0 et
 refine tr_while hsp mixed noSw (fun σ=>(rdS (.int .i64) 20 σ,rdR bK 33 σ)) (smA st rest sz (nn sz)) (fun g=>∃ k:Nat,k<=8/\g.1=(k:Int)/\g.2=tlk sz k) (fun g=>8-g.1.toNat)
  (fun σ=>(rdS (.int .i64) 20 σ,rdR bK 33 σ)) (smA st rest sz (nn sz)) (fun g=>g.2=tlk sz 8) (0,tlk sz 0) (c:=nthC (codeOf Tryz.f162) 8) (by kernel_rfl) (by kernel_rfl) (le_of_proj (by kernel_rfl) (by kernel_rfl) ?_) ?_ ?_
 ·exact⟨0,by decide,rfl,rfl⟩
 ·rintro⟨i,l⟩ hj
  revert i l
  intro (i:Int) (l:List Int) ⟨k,hk,ei,el⟩
  have ei:i=(k:Int):=ei
  have kl:l=tlk sz k:=el
  subst ei
  refine vcx (X:=((decide ((↑k:Int)<(8:Int))=true->(0:Int)<=IntKind.i64.wrap ((56:Int)-IntKind.i64.wrap ((8:Int)*(↑k:Int)))/\((0:Int)<=IntKind.i64.wrap (IntKind.i64.wrap ((1:Int)+(↑(nn sz):Int))+(↑k:Int))/\IntKind.i64.wrap (IntKind.i64.wrap ((1:Int)+(↑(nn sz):Int))+(↑k:Int))<(↑(72:Nat):Int))/\(IntKind.i64.wrap (IntKind.i64.wrap ((1:Int)+(↑(nn sz):Int))+(↑k:Int))).toNat<(72:Nat)/\(smA st rest sz (↑(nn sz):Int) (IntKind.i64.wrap ((↑k:Int)+(1:Int)),l.set (IntKind.i64.wrap (IntKind.i64.wrap ((1:Int)+(↑(nn sz):Int))+(↑k:Int))).toNat (IntKind.u8.wrap ((IntKind.u64.wrap (IntKind.u64.wrap sz*(8:Int))).fdiv ((2:Int)^min (IntKind.i64.wrap ((56:Int)-IntKind.i64.wrap ((8:Int)*(↑k:Int)))).toNat IntKind.u64.bits))))).triv ((∃ k_1,k_1<=(8:Nat)/\IntKind.i64.wrap ((↑k:Int)+(1:Int))=(↑k_1:Int)/\l.set (IntKind.i64.wrap (IntKind.i64.wrap ((1:Int)+(↑(nn sz):Int))+(↑k:Int))).toNat (IntKind.u8.wrap ((IntKind.u64.wrap (IntKind.u64.wrap sz*(8:Int))).fdiv ((2:Int)^min (IntKind.i64.wrap ((56:Int)-IntKind.i64.wrap ((8:Int)*(↑k:Int)))).toNat IntKind.u64.bits)))=tlk sz k_1)/\(8:Nat)-(IntKind.i64.wrap ((↑k:Int)+(1:Int))).toNat<(8:Nat)-(↑k:Int).toNat))/\(decide ((↑k:Int)<(8:Int))=false->(smA st rest sz (↑(nn sz):Int) ((↑k:Int),l)).triv (l=tlk sz (8:Nat))))) (by kernel_rfl) ?_
  refine⟨fun h=>?_,fun h=>tvi ?_⟩
  ·have h4:k<8:=by have:=of_decide_eq_true h;omega
   have e1:IntKind.i64.wrap (IntKind.i64.wrap ((1:Int)+(nn sz:Int))+(k:Int))=((1+nn sz+k:Nat):Int):=by
    rw[wrap_i64' (a:=1+(nn sz:Int)) (by omega) (by omega),wrap_i64' (by omega) (by omega)];omega
   have e2:IntKind.i64.wrap (56-IntKind.i64.wrap (8*(k:Int)))=((56-8*k:Nat):Int):=by
    rw[wrap_i64' (a:=8*(k:Int)) (by omega) (by omega),wrap_i64' (by omega) (by omega)];omega
   rw[e1,e2,wrap_succ (by omega),hw64,hw8]
   simp only[Int.toNat_natCast]
   refine⟨by omega,⟨by omega,by omega⟩,by omega,tvi ⟨⟨k+1,h4,rfl,?_⟩,by omega⟩⟩
   have ev:IntKind.u8.wrap ((sz*8).fdiv (2^min (56-8*k) IntKind.u64.bits))=szB sz k:=by
    have hm:min (56-8*k) IntKind.u64.bits=56-8*k:=Nat.min_eq_left (show 56-8*k<=64 by omega)
    rw[wrap_u8,hm,Int.fdiv_eq_ediv_of_nonneg _ (Int.le_of_lt (Int.pow_pos (by decide)))];rfl
   rw[ev,kl,tlk,tlk,show 71-nn sz-k=(71-nn sz-(k+1))+1 by omega]
   have:=set_fill (szB sz) (128::List.replicate (nn sz) 0) k (71-nn sz-(k+1))
   rw[show (128::List.replicate (nn sz) (0:Int)).length=1+nn sz by simp;omega] at this
   exact this
  ·have:k=8:=by have:=of_decide_eq_false h;omega
   rw[kl,this]
 rintro⟨i1,l1⟩ hl1
 revert i1 l1
 intro (i1:Int) (l1:List Int) (hl1:l1=tlk sz 8)
 subst hl1
 refine tr_cutF hsp mixed 3 (fun σ=>rdB hashK 153 σ) (fun y=>smB st rest sz y (0,List.replicate 32 0)) (fun y=>y=wro st rest sz (padB sz.toNat)) ?_ ?_
 ·refine vcx (X:=(((0:Int)<=IntKind.i64.wrap (IntKind.i64.wrap ((1:Int)+(↑(nn sz):Int))+(8:Int))/\IntKind.i64.wrap (IntKind.i64.wrap ((1:Int)+(↑(nn sz):Int))+(8:Int))<=(↑(72:Nat):Int))/\(∀ (g:Nat) (s:Sigma Car),shaG g=some s->Decidable.rec (fun h=>(fun x=>if g=(1:Nat) then some ⟨Kd.arr (64:Nat) uK,rootsL⟩ else none) h) (fun h=>(fun x=>some ⟨Kd.arr (8:Nat) uK,firstL⟩) h) (instDecidableEqNat g (0:Nat))=some s)/\(0:Nat)+(IntKind.i64.wrap (IntKind.i64.wrap ((1:Int)+(↑(nn sz):Int))+(8:Int))-(0:Int)).toNat<=(72:Nat)/\preWr ((st,rest,sz),List.take (IntKind.i64.wrap (IntKind.i64.wrap ((1:Int)+(↑(nn sz):Int))+(8:Int))-(0:Int)).toNat (tlk sz (8:Nat)),())/\(smB st rest sz (wro st rest sz (List.take (IntKind.i64.wrap (IntKind.i64.wrap ((1:Int)+(↑(nn sz):Int))+(8:Int))-(0:Int)).toNat (tlk sz (8:Nat)))) ((0:Int),List.replicate (32:Nat) (0:Int))).triv (wro st rest sz (List.take (IntKind.i64.wrap (IntKind.i64.wrap ((1:Int)+(↑(nn sz):Int))+(8:Int))-(0:Int)).toNat (tlk sz (8:Nat)))=wro st rest sz (padB sz.toNat)))) (by kernel_rfl) ?_
  have e1:IntKind.i64.wrap (IntKind.i64.wrap ((1:Int)+(nn sz:Int))+8)=((1+nn sz+8:Nat):Int):=by
   rw[wrap_i64' (a:=1+(nn sz:Int)) (by omega) (by omega),wrap_i64' (by omega) (by omega)];omega
  have e2:(((1+nn sz+8:Nat):Int)-0).toNat=1+nn sz+8:=by omega
  rw[e1,e2,tlk_pad sz hs0]
  refine⟨⟨by omega,by omega⟩,fun _ _ h=>h,by omega,⟨hs0,hs1,?_⟩,tvi rfl⟩
  show (padB sz.toNat).length<=_
  rw[<- tlk_pad sz hs0,List.length_take];omega
 rintro⟨y1,y2,y3⟩ hy
 revert y1 y2 y3
 intro (y1:List Int) (y2:List Int) (y3:Int) (hy:(y1,y2,y3)=wro st rest sz (padB sz.toNat))
 rw[hy]
 refine tr_while hsp mixed noSw (fun σ=>(rdS (.int .i64) 48 σ,rdR bK 9 σ)) (smB st rest sz (wro st rest sz (padB sz.toNat))) (fun g=>∃ k:Nat,k<=32/\g.1=(k:Int)/\g.2=oK (wro st rest sz (padB sz.toNat)).1 k) (fun g=>32-g.1.toNat)
  (fun σ=>(rdS (.int .i64) 48 σ,rdR bK 9 σ)) (smB st rest sz (wro st rest sz (padB sz.toNat))) (fun g=>g.2=oK (wro st rest sz (padB sz.toNat)).1 32) (0,List.replicate 32 0) (c:=nthC (codeOf Tryz.f162) 12) (by kernel_rfl) (by kernel_rfl) (le_of_proj (by kernel_rfl) (by kernel_rfl) ?_) ?_ ?_
 ·exact⟨0,by decide,rfl,rfl⟩
 ·rintro⟨i,l⟩ hj
  revert i l
  intro (i:Int) (l:List Int) ⟨k,hk,ei,el⟩
  have ei:i=(k:Int):=ei
  have kl:l=oK (wro st rest sz (padB sz.toNat)).1 k:=el
  subst ei
  refine vcx (X:=((decide ((↑k:Int)<(32:Int))=true->((4:Int)=(0:Int)->False)/\((0:Int)<=IntKind.i64.wrap ((↑k:Int).tdiv (4:Int))/\IntKind.i64.wrap ((↑k:Int).tdiv (4:Int))<(↑(8:Nat):Int))/\(IntKind.i64.wrap ((↑k:Int).tdiv (4:Int))).toNat<(8:Nat)/\((4:Int)=(0:Int)->False)/\(0:Int)<=IntKind.i64.wrap ((24:Int)-IntKind.i64.wrap ((8:Int)*(↑k:Int).tmod (4:Int)))/\((0:Int)<=(↑k:Int)/\(↑k:Int)<(↑(32:Nat):Int))/\(↑k:Int).toNat<(32:Nat)/\(smB st rest sz (wro st rest sz (padB sz.toNat)) (IntKind.i64.wrap ((↑k:Int)+(1:Int)),l.set (↑k:Int).toNat (IntKind.u8.wrap (((wro st rest sz (padB sz.toNat)).fst.getD (IntKind.i64.wrap ((↑k:Int).tdiv (4:Int))).toNat (0:Int)).fdiv ((2:Int)^min (IntKind.i64.wrap ((24:Int)-IntKind.i64.wrap ((8:Int)*(↑k:Int).tmod (4:Int)))).toNat IntKind.u32.bits))))).triv ((∃ k_1,k_1<=(32:Nat)/\IntKind.i64.wrap ((↑k:Int)+(1:Int))=(↑k_1:Int)/\l.set (↑k:Int).toNat (IntKind.u8.wrap (((wro st rest sz (padB sz.toNat)).fst.getD (IntKind.i64.wrap ((↑k:Int).tdiv (4:Int))).toNat (0:Int)).fdiv ((2:Int)^min (IntKind.i64.wrap ((24:Int)-IntKind.i64.wrap ((8:Int)*(↑k:Int).tmod (4:Int)))).toNat IntKind.u32.bits)))=oK (wro st rest sz (padB sz.toNat)).fst k_1)/\(32:Nat)-(IntKind.i64.wrap ((↑k:Int)+(1:Int))).toNat<(32:Nat)-(↑k:Int).toNat))/\(decide ((↑k:Int)<(32:Int))=false->(smB st rest sz (wro st rest sz (padB sz.toNat)) ((↑k:Int),l)).triv (l=oK (wro st rest sz (padB sz.toNat)).fst (32:Nat))))) (by kernel_rfl) ?_
  refine⟨fun h=>?_,fun h=>tvi ?_⟩
  ·have h4:k<32:=by have:=of_decide_eq_true h;omega
   have e1:IntKind.i64.wrap ((k:Int).tdiv 4)=((k/4:Nat):Int):=by
    rw[Int.tdiv_eq_ediv_of_nonneg (by omega),wrap_i64' (by omega) (by omega)];omega
   have e2:IntKind.i64.wrap (24-IntKind.i64.wrap (8*(k:Int).tmod 4))=((24-8*(k%4):Nat):Int):=by
    rw[Int.tmod_eq_emod_of_nonneg (by omega),wrap_i64' (a:=8*((k:Int)%4)) (by omega) (by omega),wrap_i64' (by omega) (by omega)];omega
   rw[e1,e2,wrap_succ (by omega)]
   simp only[Int.toNat_natCast]
   refine⟨by decide,⟨by omega,by omega⟩,by omega,by decide,by omega,⟨by omega,by omega⟩,h4,tvi ⟨⟨k+1,h4,rfl,?_⟩,by omega⟩⟩
   have ev:IntKind.u8.wrap (((wro st rest sz (padB sz.toNat)).1.getD (k/4) 0).fdiv (2^min (24-8*(k%4)) IntKind.u32.bits))=outE (wro st rest sz (padB sz.toNat)).1 k:=by
    have hm:min (24-8*(k%4)) IntKind.u32.bits=24-8*(k%4):=Nat.min_eq_left (show 24-8*(k%4)<=32 by omega)
    rw[hm];rfl
   rw[ev,kl,oK,oK,show 32-k=(32-(k+1))+1 by omega]
   have:=set_fill (outE (wro st rest sz (padB sz.toNat)).1) [] k (32-(k+1))
   rw[show ([]:List Int).length+k=k by simp] at this
   exact this
  ·have:k=32:=by have:=of_decide_eq_false h;omega
   rw[kl,this]
 rintro⟨i2,l2⟩ hl2
 revert i2 l2
 intro (i2:Int) (l2:List Int) (hl2:l2=oK (wro st rest sz (padB sz.toNat)).1 32)
 refine tr_vc hsp mixed _ _ ?_
 refine vcx (X:=(((st,rest,sz),l2,())=((st,rest,sz),sumo st rest sz,()))) (by kernel_rfl) ?_
 rw[hl2,sumo,opq_eq]
 have e:oK (wro st rest sz (padB sz.toNat)).1 32=outB (wro st rest sz (padB sz.toNat)).1:=by
  show []++(_++[])=_
  rw[List.append_nil,List.nil_append];rfl
 rw[e]
def spSum:Nat × Eng.Spec:=(162,fnSpecPG shaG hashK [] [.val (.arr 32 bK)] (fun ((_,_,sz),_)=>(0:Int)<=sz/\sz<=(1152921504606846976:Int)) (fun ((st,rest,sz),_)=>((st,rest,sz),(sumo st rest sz,()))))
theorem ent_of:enters Tryz.prog 113 Tryz.f113:=ek
def ofS (ps:List (List Int)) (g:Int × Car hashK):St:=mkSt Tryz.f113.ntmps 40 [(2,.is (.one (.ptr 0 0))),(3,.is (.one (.ptr 8 0))),(6,.is (.one (.ro (.sl bK) ps))),(7,sI .i64 ps.length),(8,sI .i64 g.1)] [(8,[.ints .u32 8 g.2.1,.ints .u8 64 g.2.2.1,.v (.int .i64 g.2.2.2)]),(0,[.ints .u8 32 (List.replicate 32 0)])]
abbrev preOf:HL [.sl (.sl bK)]->Prop:=fun (ps,_)=>List.length (List.flatten ps)<=1099511627776/\List.length ps<=1099511627776
theorem fn_of:FnOk Tryz.prog 113 [.sl (.sl bK)] [.val (.arr 32 bK)] shaG preOf (fun (ps,_)=>(dig (List.flatten ps),())):=by
 have hsp:SpecsOk Tryz.prog (sps [spWrite,spSum]):=spk (fnSpecPG_ok fn_write) (spk (fnSpecPG_ok fn_sum) snl)
 refine fn_of_tr (sp:=sps [spWrite,spSum]) ent_of (by decide) (by decide) (by kernel_rfl) ?_
 rintro w M0 ⟨ps,⟨⟩⟩
 revert ps
 intro (ps:List (List Int)) _ hp
 have hl:(List.flatten ps).length<=1099511627776:=hp.1
 have hn:ps.length<=1099511627776:=hp.2
 show Tr _ _ _ _ _ _ _
 refine tr_cut hsp mixed 3 (ofS ps (0,(List.replicate 8 0,List.replicate 64 0,0))) True ?_ (fun _=>?_)
 ·refine vcx (X:=((ofS ps ((0:Int),List.replicate (8:Nat) (0:Car uK),List.replicate (64:Nat) (0:Car bK),(0:Car (Kd.int IntKind.i64)))).triv True)) (by kernel_rfl) ?_
  exact tvi trivial
 refine tr_while hsp mixed noSw (fun σ=>(rdS (.int .i64) 8 σ,rdB hashK 8 σ)) (ofS ps) (fun g=>∃ k:Nat,k<=ps.length/\g.1=(k:Int)/\Took tko firstL (List.flatten (ps.take k)) g.2.1 g.2.2.1 g.2.2.2) (fun g=>ps.length-g.1.toNat)
  (fun σ=>(rdS (.int .i64) 8 σ,rdB hashK 8 σ)) (ofS ps) (fun g=>Took tko firstL (List.flatten ps) g.2.1 g.2.2.1 g.2.2.2) (0,(List.replicate 8 0,List.replicate 64 0,0)) (c:=nthC (codeOf Tryz.f113) 3) (by kernel_rfl) (by kernel_rfl) (le_of_proj (by kernel_rfl) (by kernel_rfl) ?_) ?_ ?_
 ·exact⟨0,Nat.zero_le _,rfl,took_nil tko firstL _ _ List.length_replicate⟩
 ·rintro⟨i,st,rest,sz⟩ hj
  revert i st rest sz
  intro (i:Int) (st:List Int) (rest:List Int) (sz:Int) ⟨k,hk,ei,tk⟩
  have ei:i=(k:Int):=ei
  have tk:Took tko firstL (List.flatten (ps.take k)) st rest sz:=tk
  subst ei
  refine vcx (X:=((decide ((↑k:Int)<(↑ps.length:Int))=true->((0:Int)<=(↑k:Int)/\(↑k:Int)<(↑ps.length:Int))/\(↑k:Int).toNat<ps.length/\(∀ (g:Nat) (s:Sigma Car),shaG g=some s->Decidable.rec (fun h=>(fun x=>if g=(1:Nat) then some ⟨Kd.arr (64:Nat) uK,rootsL⟩ else none) h) (fun h=>(fun x=>some ⟨Kd.arr (8:Nat) uK,firstL⟩) h) (instDecidableEqNat g (0:Nat))=some s)/\preWr ((st,rest,sz),ps.getD (↑k:Int).toNat [],())/\(ofS ps (IntKind.i64.wrap ((↑k:Int)+(1:Int)),wro st rest sz (ps.getD (↑k:Int).toNat []))).triv ((∃ k_1,k_1<=ps.length/\IntKind.i64.wrap ((↑k:Int)+(1:Int))=(↑k_1:Int)/\Took tko firstL (List.take k_1 ps).flatten (wro st rest sz (ps.getD (↑k:Int).toNat [])).fst (wro st rest sz (ps.getD (↑k:Int).toNat [])).snd.fst (wro st rest sz (ps.getD (↑k:Int).toNat [])).snd.snd)/\ps.length-(IntKind.i64.wrap ((↑k:Int)+(1:Int))).toNat<ps.length-(↑k:Int).toNat))/\(decide ((↑k:Int)<(↑ps.length:Int))=false->(ofS ps ((↑k:Int),st,rest,sz)).triv (Took tko firstL ps.flatten st rest sz)))) (by kernel_rfl) ?_
  refine⟨fun h=>?_,fun h=>tvi ?_⟩
  ·have h4:k<ps.length:=by have:=of_decide_eq_true h;omega
   have hx:ps.getD k []=ps[k]:=by simp[List.getElem?_eq_getElem h4]
   have hf:(ps.take (k+1)).flatten=(ps.take k).flatten++ps.getD k []:=by
    rw[List.take_succ_eq_append_getElem h4,List.flatten_append,hx];simp
   have hlen:(ps.take (k+1)).flatten.length<=ps.flatten.length:=by
    have:ps.flatten=(ps.take (k+1)).flatten++(ps.drop (k+1)).flatten:=by rw[<- List.flatten_append,List.take_append_drop]
    rw[this,List.length_append];omega
   have hsz:sz=(((ps.take k).flatten.length:Nat):Int):=tk.1
   have hl2:(ps.take k).flatten.length+(ps.getD k []).length<=1099511627776:=by
    rw[hf,List.length_append] at hlen;omega
   rw[wrap_succ (by omega)]
   simp only[Int.toNat_natCast]
   have a1:(0:Int)<=sz:=by rw[hsz];omega
   have a2:sz<=(1152921504606846976:Int):=by rw[hsz];omega
   refine⟨⟨by omega,by omega⟩,h4,fun _ _ h=>h,⟨a1,a2,?_⟩,tvi ⟨⟨k+1,h4,rfl,?_⟩,by omega⟩⟩
   ·show (ps.getD k []).length<=_
    omega
   ·rw[hf];exact took_wro tk _
  ·have:k=ps.length:=by have:=of_decide_eq_false h;omega
   rw[this,List.take_length] at tk
   exact tk
 rintro⟨i,st,rest,sz⟩ hj
 revert i st rest sz
 intro (i:Int) (st:List Int) (rest:List Int) (sz:Int) (tk:Took tko firstL (List.flatten ps) st rest sz)
 refine tr_vc hsp mixed _ _ ?_
 refine vcx (X:=((∀ (g:Nat) (s:Sigma Car),shaG g=some s->Decidable.rec (fun h=>(fun x=>if g=(1:Nat) then some ⟨Kd.arr (64:Nat) uK,rootsL⟩ else none) h) (fun h=>(fun x=>some ⟨Kd.arr (8:Nat) uK,firstL⟩) h) (instDecidableEqNat g (0:Nat))=some s)/\((0:Int)<=sz/\sz<=(1152921504606846976:Int))/\(sumo st rest sz,())=(dig ps.flatten,()))) (by kernel_rfl) ?_
 have hsz:sz=((ps.flatten.length:Nat):Int):=tk.1
 have a1:(0:Int)<=sz:=by rw[hsz];omega
 have a2:sz<=(1152921504606846976:Int):=by rw[hsz];omega
 exact⟨fun _ _ h=>h,⟨a1,a2⟩,by rw[took_sum tk]⟩
def spOf:Nat × Eng.Spec:=(113,fnSpecG shaG [.sl (.sl bK)] [.val (.arr 32 bK)] preOf (fun (ps,_)=>(dig (List.flatten ps),())))
end
end Go.Proofs.YtbeeaekepmnfhaaGreatDoor.sha
namespace Go.Proofs.YtbeeaekepmnfhaaGreatDoor.xmd
noncomputable section
open Go Go.Eng Go.RowKit Cr sha
theorem ent_split:enters Tryz.prog 190 Tryz.f190:=ek
def sB (d:List Int) (i j:Nat) (w:List Int):List Int:=w.set i (bitOp .or .u32 (IntKind.u32.wrap (w.getD i 0*2^min (8:Nat) IntKind.u32.bits)) (IntKind.u32.wrap (d.getD (4*i+j) 0)))
def sBk (d:List Int) (i:Nat) (w:List Int) (j:Nat):List Int:=it (fun j w=>sB d i j w) w j
def sAk (d:List Int) (i:Nat):List Int:=it (fun i w=>sBk d i w 4) (List.replicate 8 0) i
def spl (d:List Int):List Int:=opq (sAk d 8)
def spA (d:List Int) (g:Int × List Int):St:=mkSt Tryz.f190.ntmps 32 [(1,.is (.one (.ptr 0 0))),(2,.is (.one (.ptr 8 0))),(3,.is (.one (.ptr 16 0))),(6,sI .i64 g.1)] [(16,[.ints .u32 8 g.2]),(8,[.ints .u32 8 (List.replicate 8 0)]),(0,[.ints .u8 32 d])]
def spB (d:List Int) (i:Nat) (g:Int × List Int):St:=mkSt Tryz.f190.ntmps 32 [(1,.is (.one (.ptr 0 0))),(2,.is (.one (.ptr 8 0))),(3,.is (.one (.ptr 16 0))),(4,sI .i64 i),(6,sI .i64 i),(9,sI .i64 g.1)] [(16,[.ints .u32 8 g.2]),(8,[.ints .u32 8 (List.replicate 8 0)]),(0,[.ints .u8 32 d])]
theorem fn_split:FnOk Tryz.prog 190 [.arr 32 bK] [.val (.arr 8 uK)] noG (fun _=>True) (fun (d,_)=>(spl d,())):=by
 have hsp:SpecsOk Tryz.prog (sps []):=snl
 refine fn_of_tr (sp:=sps []) ent_split (by decide) (by decide) (by kernel_rfl) ?_
 rintro w M0 ⟨d,⟨⟩⟩
 revert d
 intro (d:List Int) hw _
 have hd:d.length=32:=hw.1.1
 show Tr _ _ _ _ _ _ _
 refine tr_cut hsp mixed 3 (spA d (0,List.replicate 8 0)) True ?_ (fun _=>?_)
 ·refine vcx (X:=((spA d ((0:Int),List.replicate (8:Nat) (0:Int))).triv True)) (by kernel_rfl) ?_
  exact tvi trivial
 refine tr_whileT noSw (fun σ=>(rdS (.int .i64) 6 σ,rdR uK 16 σ)) (spA d) (fun g=>∃ k:Nat,k<=8/\g.1=(k:Int)/\g.2=sAk d k) (fun g=>8-g.1.toNat)
  (fun σ=>(rdS (.int .i64) 6 σ,rdR uK 16 σ)) (spA d) (fun g=>g.2=sAk d 8) (0,List.replicate 8 0) (c:=nthC (codeOf Tryz.f190) 3) (by kernel_rfl) (by kernel_rfl) (le_of_proj (by kernel_rfl) (by kernel_rfl) ?_) ?_ ?_
 ·exact⟨0,by decide,rfl,rfl⟩
 ·rintro⟨i,wl⟩ hj
  revert i wl
  intro (i:Int) (wl:List Int) ⟨k,hk,ei,ew⟩
  have ei:i=(k:Int):=ei
  have kw:wl=sAk d k:=ew
  subst ei
  refine tr_cut hsp mixed 2 (spA d ((k:Int),wl)) (k<8) ?_ (fun hlt=>?_)
  ·refine vcx (X:=((decide ((↑k:Int)<(8:Int))=true->(spA d ((↑k:Int),wl)).triv (k<(8:Nat)))/\(decide ((↑k:Int)<(8:Int))=false->(spA d ((↑k:Int),wl)).triv (wl=sAk d (8:Nat))))) (by kernel_rfl) ?_
   refine⟨fun h=>tvi (by have:=of_decide_eq_true h;omega),fun h=>tvi ?_⟩
   have:k=8:=by have:=of_decide_eq_false h;omega
   rw[kw,this]
  refine tr_block (c:=nthC (loopOf (nthC (codeOf Tryz.f190) 3)) 2) (by kernel_rfl) (by kernel_rfl) ?_
  refine tr_cut hsp mixed 2 (spB d k (0,wl)) True ?_ (fun _=>?_)
  ·refine vcx (X:=((spB d k ((0:Int),wl)).triv True)) (by kernel_rfl) ?_
   exact tvi trivial
  refine tr_while hsp mixed noSw (fun σ=>(rdS (.int .i64) 9 σ,rdR uK 16 σ)) (spB d k) (fun g=>∃ j:Nat,j<=4/\g.1=(j:Int)/\g.2=sBk d k wl j) (fun g=>4-g.1.toNat)
   (fun σ=>rdR uK 16 σ) (fun w=>spA d ((k:Int),w)) (fun w=>w=sBk d k wl 4) (0,wl) (c:=nthC (bodyOf (nthC (loopOf (nthC (codeOf Tryz.f190) 3)) 2)) 2) (by kernel_rfl) (by kernel_rfl) (le_of_proj (by kernel_rfl) (by kernel_rfl) ?_) ?_ ?_
  ·exact⟨0,by decide,rfl,rfl⟩
  ·rintro⟨j,wj⟩ hj
   revert j wj
   intro (j:Int) (wj:List Int) ⟨t,ht,ej,ewj⟩
   have ej:j=(t:Int):=ej
   have kwj:wj=sBk d k wl t:=ewj
   subst ej
   refine vcx (X:=((decide ((↑t:Int)<(4:Int))=true->((0:Int)<=(↑k:Int)/\(↑k:Int)<(↑(8:Nat):Int))/\(↑k:Int).toNat<(8:Nat)/\(0:Int)<=(8:Int)/\((0:Int)<=IntKind.i64.wrap (IntKind.i64.wrap ((4:Int)*(↑k:Int))+(↑t:Int))/\IntKind.i64.wrap (IntKind.i64.wrap ((4:Int)*(↑k:Int))+(↑t:Int))<(↑(32:Nat):Int))/\(IntKind.i64.wrap (IntKind.i64.wrap ((4:Int)*(↑k:Int))+(↑t:Int))).toNat<(32:Nat)/\((0:Int)<=(↑k:Int)/\(↑k:Int)<(↑(8:Nat):Int))/\(↑k:Int).toNat<(8:Nat)/\(spB d k (IntKind.i64.wrap ((↑t:Int)+(1:Int)),wj.set (↑k:Int).toNat (bitOp BinOp.or IntKind.u32 (IntKind.u32.wrap (wj.getD (↑k:Int).toNat (0:Int)*(2:Int)^min (8:Nat) IntKind.u32.bits)) (IntKind.u32.wrap (d.getD (IntKind.i64.wrap (IntKind.i64.wrap ((4:Int)*(↑k:Int))+(↑t:Int))).toNat (0:Int)))))).triv ((∃ j,j<=(4:Nat)/\IntKind.i64.wrap ((↑t:Int)+(1:Int))=(↑j:Int)/\wj.set (↑k:Int).toNat (bitOp BinOp.or IntKind.u32 (IntKind.u32.wrap (wj.getD (↑k:Int).toNat (0:Int)*(2:Int)^min (8:Nat) IntKind.u32.bits)) (IntKind.u32.wrap (d.getD (IntKind.i64.wrap (IntKind.i64.wrap ((4:Int)*(↑k:Int))+(↑t:Int))).toNat (0:Int))))=sBk d k wl j)/\(4:Nat)-(IntKind.i64.wrap ((↑t:Int)+(1:Int))).toNat<(4:Nat)-(↑t:Int).toNat))/\(decide ((↑t:Int)<(4:Int))=false->(spA d ((↑k:Int),wj)).triv (wj=sBk d k wl (4:Nat))))) (by kernel_rfl) ?_
   refine⟨fun h=>?_,fun h=>tvi ?_⟩
   ·have h4:t<4:=by have:=of_decide_eq_true h;omega
    have e1:IntKind.i64.wrap (IntKind.i64.wrap ((4:Int)*(k:Int))+(t:Int))=((4*k+t:Nat):Int):=by
     rw[wrap_i64' (a:=4*(k:Int)) (by omega) (by omega),wrap_i64' (by omega) (by omega)];omega
    rw[e1,wrap_succ (by omega),Int.toNat_natCast,Int.toNat_natCast]
    exact⟨⟨by omega,by omega⟩,by omega,by decide,⟨by omega,by omega⟩,by omega,⟨by omega,by omega⟩,by omega,tvi ⟨⟨t+1,h4,rfl,by rw[kwj];rfl⟩,by rw[Int.toNat_natCast,Int.toNat_natCast];omega⟩⟩
   ·have:t=4:=by have:=of_decide_eq_false h;omega
    rw[kwj,this]
  intro (w':List Int) (hw':w'=sBk d k wl 4)
  refine tr_nil ?_
  refine tr_vc hsp mixed _ _ ?_
  refine vcx (X:=((spA d (IntKind.i64.wrap ((↑k:Int)+(1:Int)),w')).triv ((∃ k_1,k_1<=(8:Nat)/\IntKind.i64.wrap ((↑k:Int)+(1:Int))=(↑k_1:Int)/\w'=sAk d k_1)/\(8:Nat)-(IntKind.i64.wrap ((↑k:Int)+(1:Int))).toNat<(8:Nat)-(↑k:Int).toNat))) (by kernel_rfl) ?_
  rw[wrap_succ (by omega)]
  exact tvi ⟨⟨k+1,hlt,rfl,by rw[hw',kw];rfl⟩,by rw[Int.toNat_natCast,Int.toNat_natCast];omega⟩
 rintro⟨i1,w1⟩ hw1
 revert i1 w1
 intro (i1:Int) (w1:List Int) (hw1:w1=sAk d 8)
 refine tr_vc hsp mixed _ _ ?_
 refine vcx (X:=((w1,())=(spl d,()))) (by kernel_rfl) ?_
 rw[hw1,spl,opq_eq]
def spSplit:Nat × Eng.Spec:=(190,fnSpec [.arr 32 bK] [.val (.arr 8 uK)] (fun _=>True) (fun (d,_)=>(spl d,())))
theorem ent_over:enters Tryz.prog 191 Tryz.f191:=ek
def oA (b:List Int) (i:Nat) (a:List Int):List Int:=a.set i (bitOp .xor .u32 (a.getD i 0) (b.getD i 0))
def oAk (a b:List Int) (i:Nat):List Int:=it (oA b) a i
def ovr (a b:List Int):List Int:=opq (oAk a b 8)
def ovS (b:List Int) (g:Int × List Int):St:=mkSt Tryz.f191.ntmps 40 [(2,.is (.one (.ptr 0 0))),(4,.is (.one (.ptr 16 0))),(7,sA .u32 8 b),(8,sI .i64 g.1)] [(16,[.ints .u32 8 (List.replicate 8 0)]),(0,[.ints .u32 8 g.2])]
theorem fn_over:FnOk Tryz.prog 191 [.arr 8 uK,.arr 8 uK] [.val (.arr 8 uK)] noG (fun _=>True) (fun (a,b,_)=>(ovr a b,())):=by
 have hsp:SpecsOk Tryz.prog (sps []):=snl
 refine fn_of_tr (sp:=sps []) ent_over (by decide) (by decide) (by kernel_rfl) ?_
 rintro w M0 ⟨a,b,⟨⟩⟩
 revert a b
 intro (a:List Int) (b:List Int) hw _
 have ha:a.length=8:=hw.1.1
 show Tr _ _ _ _ _ _ _
 refine tr_cut hsp mixed 2 (ovS b (0,a)) True ?_ (fun _=>?_)
 ·refine vcx (X:=((ovS b ((0:Int),a)).triv True)) (by kernel_rfl) ?_
  exact tvi trivial
 refine tr_while hsp mixed noSw (fun σ=>(rdS (.int .i64) 8 σ,rdR uK 0 σ)) (ovS b) (fun g=>∃ k:Nat,k<=8/\g.1=(k:Int)/\g.2=oAk a b k) (fun g=>8-g.1.toNat)
  (fun σ=>(rdS (.int .i64) 8 σ,rdR uK 0 σ)) (ovS b) (fun g=>g.2=oAk a b 8) (0,a) (c:=nthC (codeOf Tryz.f191) 2) (by kernel_rfl) (by kernel_rfl) (le_of_proj (by kernel_rfl) (by kernel_rfl) ?_) ?_ ?_
 ·exact⟨0,by decide,rfl,rfl⟩
 ·rintro⟨i,l⟩ hj
  revert i l
  intro (i:Int) (l:List Int) ⟨k,hk,ei,el⟩
  have ei:i=(k:Int):=ei
  have kl:l=oAk a b k:=el
  subst ei
  refine vcx (X:=((decide ((↑k:Int)<(8:Int))=true->((0:Int)<=(↑k:Int)/\(↑k:Int)<(↑(8:Nat):Int))/\((0:Int)<=(↑k:Int)/\(↑k:Int)<(↑(8:Nat):Int))/\(↑k:Int).toNat<(8:Nat)/\((0:Int)<=(↑k:Int)/\(↑k:Int)<(↑(8:Nat):Int))/\(↑k:Int).toNat<(8:Nat)/\(ovS b (IntKind.i64.wrap ((↑k:Int)+(1:Int)),l.set (↑k:Int).toNat (bitOp BinOp.xor IntKind.u32 (l.getD (↑k:Int).toNat (0:Int)) (b.getD (↑k:Int).toNat (0:Int))))).triv ((∃ k_1,k_1<=(8:Nat)/\IntKind.i64.wrap ((↑k:Int)+(1:Int))=(↑k_1:Int)/\l.set (↑k:Int).toNat (bitOp BinOp.xor IntKind.u32 (l.getD (↑k:Int).toNat (0:Int)) (b.getD (↑k:Int).toNat (0:Int)))=oAk a b k_1)/\(8:Nat)-(IntKind.i64.wrap ((↑k:Int)+(1:Int))).toNat<(8:Nat)-(↑k:Int).toNat))/\(decide ((↑k:Int)<(8:Int))=false->(ovS b ((↑k:Int),l)).triv (l=oAk a b (8:Nat))))) (by kernel_rfl) ?_
  refine⟨fun h=>?_,fun h=>tvi ?_⟩
  ·have h4:k<8:=by have:=of_decide_eq_true h;omega
   rw[wrap_succ (by omega)]
   simp only[Int.toNat_natCast]
   exact⟨⟨by omega,by omega⟩,⟨by omega,by omega⟩,h4,⟨by omega,by omega⟩,h4,tvi ⟨⟨k+1,h4,rfl,by rw[kl];rfl⟩,by omega⟩⟩
  ·have:k=8:=by have:=of_decide_eq_false h;omega
   rw[kl,this]
 rintro⟨i1,w1⟩ hw1
 revert i1 w1
 intro (i1:Int) (w1:List Int) (hw1:w1=oAk a b 8)
 refine tr_vc hsp mixed _ _ ?_
 refine vcx (X:=((w1,())=(ovr a b,()))) (by kernel_rfl) ?_
 rw[hw1,ovr,opq_eq]
def spOver:Nat × Eng.Spec:=(191,fnSpec [.arr 8 uK,.arr 8 uK] [.val (.arr 8 uK)] (fun _=>True) (fun (a,b,_)=>(ovr a b,())))
theorem ent_bytes:enters Tryz.prog 192 Tryz.f192:=ek
def bB (w:List Int) (i j:Nat) (d:List Int):List Int:=d.set (4*i+j) (IntKind.u8.wrap ((w.getD i 0).fdiv (2^min (24-8*j) IntKind.u32.bits)))
def bBk (w:List Int) (i:Nat) (d:List Int) (j:Nat):List Int:=it (fun j d=>bB w i j d) d j
def bAk (w:List Int) (i:Nat):List Int:=it (fun i d=>bBk w i d 4) (List.replicate 32 0) i
def byt (w:List Int):List Int:=opq (bAk w 8)
theorem bBk_len (w:List Int) (i:Nat) (d:List Int):∀ j,(bBk w i d j).length=d.length
 | 0=>rfl
 | j+1=>by show (bB w i j _).length=_;rw[bB,List.length_set];exact bBk_len w i d j
theorem bAk_len (w:List Int):∀ i,(bAk w i).length=32
 | 0=>rfl
 | i+1=>by show (bBk w i _ 4).length=_;rw[bBk_len];exact bAk_len w i
theorem byt_len (w:List Int):(byt w).length=32:=by rw[byt,opq_eq,bAk_len]
def byA (wd:List Int) (g:Int × List Int):St:=mkSt Tryz.f192.ntmps 40 [(2,.is (.one (.ptr 8 0))),(3,.is (.one (.ptr 16 0))),(7,sA .u32 8 wd),(8,sI .i64 g.1)] [(16,[.ints .u8 32 g.2]),(8,[.ints .u8 32 (List.replicate 32 0)])]
def byB (wd:List Int) (i:Nat) (x:Int) (g:Int × List Int):St:=mkSt Tryz.f192.ntmps 40 [(2,.is (.one (.ptr 8 0))),(3,.is (.one (.ptr 16 0))),(4,sI .i64 i),(5,sI .u32 x),(7,sA .u32 8 wd),(8,sI .i64 i),(12,sI .i64 g.1)] [(16,[.ints .u8 32 g.2]),(8,[.ints .u8 32 (List.replicate 32 0)])]
theorem fn_bytes:FnOk Tryz.prog 192 [.arr 8 uK] [.val (.arr 32 bK)] noG (fun _=>True) (fun (w,_)=>(byt w,())):=by
 have hsp:SpecsOk Tryz.prog (sps []):=snl
 refine fn_of_tr (sp:=sps []) ent_bytes (by decide) (by decide) (by kernel_rfl) ?_
 rintro w M0 ⟨wd,⟨⟩⟩
 revert wd
 intro (wd:List Int) hw _
 have hd:wd.length=8:=hw.1.1
 show Tr _ _ _ _ _ _ _
 refine tr_cut hsp mixed 3 (byA wd (0,List.replicate 32 0)) True ?_ (fun _=>?_)
 ·refine vcx (X:=((byA wd ((0:Int),List.replicate (32:Nat) (0:Int))).triv True)) (by kernel_rfl) ?_
  exact tvi trivial
 refine tr_whileT noSw (fun σ=>(rdS (.int .i64) 8 σ,rdR bK 16 σ)) (byA wd) (fun g=>∃ k:Nat,k<=8/\g.1=(k:Int)/\g.2=bAk wd k) (fun g=>8-g.1.toNat)
  (fun σ=>(rdS (.int .i64) 8 σ,rdR bK 16 σ)) (byA wd) (fun g=>g.2=bAk wd 8) (0,List.replicate 32 0) (c:=nthC (codeOf Tryz.f192) 3) (by kernel_rfl) (by kernel_rfl) (le_of_proj (by kernel_rfl) (by kernel_rfl) ?_) ?_ ?_
 ·exact⟨0,by decide,rfl,rfl⟩
 ·rintro⟨i,wl⟩ hj
  revert i wl
  intro (i:Int) (wl:List Int) ⟨k,hk,ei,ew⟩
  have ei:i=(k:Int):=ei
  have kw:wl=bAk wd k:=ew
  subst ei
  refine tr_cut hsp mixed 2 (byA wd ((k:Int),wl)) (k<8) ?_ (fun hlt=>?_)
  ·refine vcx (X:=((decide ((↑k:Int)<(8:Int))=true->(byA wd ((↑k:Int),wl)).triv (k<(8:Nat)))/\(decide ((↑k:Int)<(8:Int))=false->(byA wd ((↑k:Int),wl)).triv (wl=bAk wd (8:Nat))))) (by kernel_rfl) ?_
   refine⟨fun h=>tvi (by have:=of_decide_eq_true h;omega),fun h=>tvi ?_⟩
   have:k=8:=by have:=of_decide_eq_false h;omega
   rw[kw,this]
  refine tr_block (c:=nthC (loopOf (nthC (codeOf Tryz.f192) 3)) 2) (by kernel_rfl) (by kernel_rfl) ?_
  refine tr_cutF hsp mixed 2 (fun σ=>rdS (.int .u32) 5 σ) (fun x=>byB wd k x (0,wl)) (fun x=>x=wd.getD k 0) ?_ ?_
  ·refine vcx (X:=(((0:Int)<=(↑k:Int)/\(↑k:Int)<(↑(8:Nat):Int))/\(byB wd k (wd.getD (↑k:Int).toNat (0:Int)) ((0:Int),wl)).triv (wd.getD (↑k:Int).toNat (0:Int)=wd.getD k (0:Int)))) (by kernel_rfl) ?_
   simp only[Int.toNat_natCast]
   exact⟨⟨by omega,by omega⟩,tvi (by first|exact trivial|rfl)⟩
  intro (x:Int) (hx:x=wd.getD k 0)
  refine tr_while hsp mixed noSw (fun σ=>(rdS (.int .i64) 12 σ,rdR bK 16 σ)) (byB wd k x) (fun g=>∃ j:Nat,j<=4/\g.1=(j:Int)/\g.2=bBk wd k wl j) (fun g=>4-g.1.toNat)
   (fun σ=>rdR bK 16 σ) (fun w=>byA wd ((k:Int),w)) (fun w=>w=bBk wd k wl 4) (0,wl) (c:=nthC (bodyOf (nthC (loopOf (nthC (codeOf Tryz.f192) 3)) 2)) 2) (by kernel_rfl) (by kernel_rfl) (le_of_proj (by kernel_rfl) (by kernel_rfl) ?_) ?_ ?_
  ·exact⟨0,by decide,rfl,rfl⟩
  ·rintro⟨j,wj⟩ hj
   revert j wj
   intro (j:Int) (wj:List Int) ⟨t,ht,ej,ewj⟩
   have ej:j=(t:Int):=ej
   have kwj:wj=bBk wd k wl t:=ewj
   subst ej
   refine vcx (X:=((decide ((↑t:Int)<(4:Int))=true->(0:Int)<=IntKind.i64.wrap ((24:Int)-IntKind.i64.wrap ((8:Int)*(↑t:Int)))/\((0:Int)<=IntKind.i64.wrap (IntKind.i64.wrap ((4:Int)*(↑k:Int))+(↑t:Int))/\IntKind.i64.wrap (IntKind.i64.wrap ((4:Int)*(↑k:Int))+(↑t:Int))<(↑(32:Nat):Int))/\(IntKind.i64.wrap (IntKind.i64.wrap ((4:Int)*(↑k:Int))+(↑t:Int))).toNat<(32:Nat)/\(byB wd k x (IntKind.i64.wrap ((↑t:Int)+(1:Int)),wj.set (IntKind.i64.wrap (IntKind.i64.wrap ((4:Int)*(↑k:Int))+(↑t:Int))).toNat (IntKind.u8.wrap (x.fdiv ((2:Int)^min (IntKind.i64.wrap ((24:Int)-IntKind.i64.wrap ((8:Int)*(↑t:Int)))).toNat IntKind.u32.bits))))).triv ((∃ j,j<=(4:Nat)/\IntKind.i64.wrap ((↑t:Int)+(1:Int))=(↑j:Int)/\wj.set (IntKind.i64.wrap (IntKind.i64.wrap ((4:Int)*(↑k:Int))+(↑t:Int))).toNat (IntKind.u8.wrap (x.fdiv ((2:Int)^min (IntKind.i64.wrap ((24:Int)-IntKind.i64.wrap ((8:Int)*(↑t:Int)))).toNat IntKind.u32.bits)))=bBk wd k wl j)/\(4:Nat)-(IntKind.i64.wrap ((↑t:Int)+(1:Int))).toNat<(4:Nat)-(↑t:Int).toNat))/\(decide ((↑t:Int)<(4:Int))=false->(byA wd ((↑k:Int),wj)).triv (wj=bBk wd k wl (4:Nat))))) (by kernel_rfl) ?_
   refine⟨fun h=>?_,fun h=>tvi ?_⟩
   ·have h4:t<4:=by have:=of_decide_eq_true h;omega
    have e1:IntKind.i64.wrap (IntKind.i64.wrap ((4:Int)*(k:Int))+(t:Int))=((4*k+t:Nat):Int):=by
     rw[wrap_i64' (a:=4*(k:Int)) (by omega) (by omega),wrap_i64' (by omega) (by omega)];omega
    have e2:IntKind.i64.wrap (24-IntKind.i64.wrap ((8:Int)*(t:Int)))=((24-8*t:Nat):Int):=by
     rw[wrap_i64' (a:=8*(t:Int)) (by omega) (by omega),wrap_i64' (by omega) (by omega)];omega
    rw[e1,e2,wrap_succ (by omega)]
    simp only[Int.toNat_natCast]
    exact⟨by omega,⟨by omega,by omega⟩,by omega,tvi ⟨⟨t+1,h4,rfl,by rw[kwj,hx];rfl⟩,by omega⟩⟩
   ·have:t=4:=by have:=of_decide_eq_false h;omega
    rw[kwj,this]
  intro (w':List Int) (hw':w'=bBk wd k wl 4)
  refine tr_nil ?_
  refine tr_vc hsp mixed _ _ ?_
  refine vcx (X:=((byA wd (IntKind.i64.wrap ((↑k:Int)+(1:Int)),w')).triv ((∃ k_1,k_1<=(8:Nat)/\IntKind.i64.wrap ((↑k:Int)+(1:Int))=(↑k_1:Int)/\w'=bAk wd k_1)/\(8:Nat)-(IntKind.i64.wrap ((↑k:Int)+(1:Int))).toNat<(8:Nat)-(↑k:Int).toNat))) (by kernel_rfl) ?_
  rw[wrap_succ (by omega)]
  exact tvi ⟨⟨k+1,hlt,rfl,by rw[hw',kw];rfl⟩,by rw[Int.toNat_natCast,Int.toNat_natCast];omega⟩
 rintro⟨i1,w1⟩ hw1
 revert i1 w1
 intro (i1:Int) (w1:List Int) (hw1:w1=bAk wd 8)
 refine tr_vc hsp mixed _ _ ?_
 refine vcx (X:=((w1,())=(byt wd,()))) (by kernel_rfl) ?_
 rw[hw1,byt,opq_eq]
def spBytes:Nat × Eng.Spec:=(192,fnSpec [.arr 8 uK] [.val (.arr 32 bK)] (fun _=>True) (fun (w,_)=>(byt w,())))
end
end Go.Proofs.YtbeeaekepmnfhaaGreatDoor.xmd
namespace Go.Proofs.YtbeeaekepmnfhaaGreatDoor.xmd
noncomputable section
open Go Go.Eng Go.RowKit Cr sha
abbrev bsl:Kd:=.sl bK
def overS:List Int:=[72,50,67,45,79,86,69,82,83,73,90,69,45,68,83,84,45]
def tagF (tag:List Int):List Int:=match decide (255<tag.length) with
 | true=>dig (overS++tag)
 | false=>tag
def endF (t:List Int):List Int:=[IntKind.u8.wrap t.length]
def fstF (msg t:List Int) (n:Int):List Int:=spl (dig (List.flatten [List.replicate 64 0,msg,[IntKind.u8.wrap (n.fdiv (2^min (8:Nat) IntKind.i64.bits)),IntKind.u8.wrap n,0],t,endF t]))
def nxD (f t:List Int) (i:Nat) (last:List Int):List Int:=dig (List.flatten [byt (ovr f last),[IntKind.u8.wrap ((i:Int)+1)],t,endF t])
def exK (f t:List Int) (i:Nat):List Int × List Int:=it (fun i s=>(s.1++nxD f t i s.2,spl (nxD f t i s.2))) ([],List.replicate 8 0) i
theorem exK_len (f t:List Int):∀ i,(exK f t i).1.length=32*i
 | 0=>rfl
 | i+1=>by show ((exK f t i).1++nxD f t i _).length=_;rw[List.length_append,exK_len f t i,nxD,dig_len];omega
def expF (msg tag:List Int) (n:Int):List Int:=(exK (fstF msg (tagF tag) n) (tagF tag) ((n.toNat+31)/32)).1.take n.toNat
def expo (msg tag:List Int) (n:Int):List Int:=opq (expF msg tag n)
theorem expo_len (msg tag:List Int) (n:Int):(expo msg tag n).length=n.toNat:=by
 rw[expo,opq_eq,expF,List.length_take,exK_len];omega
def exA (msg tag:List Int) (n:Int):List Int × Int:=match decide (n<0)||decide (n>8160) with
 | true=>([],1)
 | false=>(expo msg tag n,0)
def exS (m:List Int) (n:Int) (t:List Int):St:=mkSt Tryz.f152.ntmps 88 [(0,.is (.one (.ro bK m))),(1,.is (.one (.ro bK t))),(2,sI .i64 n)] []
def exS0 (m:List Int) (n:Int) (t:List Int):St:=mkSt Tryz.f152.ntmps 88 [(0,.is (.one (.ro bK m))),(1,.is (.one (.ro bK t))),(2,sI .i64 n),(24,.is (.one (.v (.bool (decide ((t.length:Int)>255))))))] []
theorem tr_eqL {E:Env} {N:Nat} {n r:St->Prop} {x:Nat->St->Prop} {l l':List Code} {σ:St} (h:l=l') (ht:Tr E N l' σ n r x):Tr E N l σ n r x:=h▸ht
def exS1 (m:List Int) (n:Int) (d:List Int):St:=mkSt Tryz.f152.ntmps 160 [(0,.is (.one (.ro bK m))),(1,.is (.one (.sl 128 0 0 32 1))),(2,sI .i64 n)] [(128,[.ints .u8 32 d])]
abbrev Xg:Type:=Int × Nat × Nat × List Int × List Int
def exI (n:Int) (t e f:List Int) (g:Xg):St:=mkSt Tryz.f152.ntmps 296 [(1,.is (.one (.ro bK t))),(2,sI .i64 n),(9,.is (.one (.sl 112 0 0 1 1))),(10,.is (.one (.ptr 232 0))),(11,.is (.one (.sl 264 0 0 g.2.1 1))),(12,.is (.one (.ptr 280 0))),(13,sI .i64 g.1)] [(280,[.ints .u32 8 g.2.2.2.2]),(264,[.ints .u8 g.2.2.1 g.2.2.2.1]),(232,[.ints .u32 8 f]),(112,[.ints .u8 1 e])]
def exJ (n:Int) (t f:List Int) (g:Xg):Prop:=∃ k:Nat,g.1=(k:Int)+1/\g.2.1=32*k/\g.2.1<=g.2.2.1/\g.2.2.2.1.take (32*k)=(exK f t k).1/\g.2.2.2.2=(exK f t k).2/\((32*k:Nat):Int)<n+32
theorem ent_expand:enters Tryz.prog 152 Tryz.f152:=ek
abbrev preEx:HL [bsl,bsl,.int .i64]->Prop:=fun (m,t,_)=>List.length m<=1048576/\List.length t<=1048576
theorem fn_expand:FnOk Tryz.prog 152 [bsl,bsl,.int .i64] [.own bK,.val (.int .i64)] shaG preEx (fun (m,t,n,_)=>((exA m t n).1,(exA m t n).2,())):=by
 have hsp:SpecsOk Tryz.prog (sps [spOf,spSplit,spOver,spBytes]):=spk (fgk fn_of) (spk (fok fn_split) (spk (fok fn_over) (spk (fok fn_bytes) snl)))
 refine fn_of_tr (sp:=sps [spOf,spSplit,spOver,spBytes]) ent_expand (by decide) (by decide) (by kernel_rfl) ?_
 rintro w M0 ⟨m,t,n,⟨⟩⟩
 revert m t n
 intro (m:List Int) (t:List Int) (n:Int) hw hp
 have hm:m.length<=1048576:=hp.1
 have ht:t.length<=1048576:=hp.2
 show Tr _ _ _ _ _ _ _
 have rest:∀ t':List Int,t'.length<=255->0<=n->n<=8160->tagF t=t'->Tr ⟨Tryz.prog,sps [spOf,spSplit,spOver,spBytes],⟨w,[],shaG,M0⟩⟩ Tryz.f152.ntmps (List.drop 5 (codeOf Tryz.f152)) (exS m n t') (retK ⟨Tryz.prog,sps [spOf,spSplit,spOver,spBytes],⟨w,[],shaG,M0⟩⟩ Tryz.f152 (post [.own bK,.val (.int .i64)] ((exA m t n).1,(exA m t n).2,()))) (retK ⟨Tryz.prog,sps [spOf,spSplit,spOver,spBytes],⟨w,[],shaG,M0⟩⟩ Tryz.f152 (post [.own bK,.val (.int .i64)] ((exA m t n).1,(exA m t n).2,()))) (fun _ _=>False):=by
  intro t' ht' hn0 hn1 htag
  refine tr_cutF hsp mixed 5 (fun σ=>(rdR uK 232 σ,rdR bK 112 σ,rdR bK 264 σ)) (fun g=>exI n t' g.2.1 g.1 (1,0,(IntKind.i64.wrap (n+32)).toNat,g.2.2,List.replicate 8 0)) (fun g=>g.1=fstF m t' n/\g.2.1=endF t') ?_ ?_
  ·refine vcx (X:=(((0:Int)<=(64:Int)/\(64:Int)<=(64:Int)/\(↑(1:Nat):Int)*(64:Int)<=(281474976710656:Int)/\(64:Int)<=(9223372036854775807:Int))/\(0:Int)<=(8:Int)/\(∀ (g:Nat) (s:Sigma Car),shaG g=some s->Decidable.rec (fun h=>(fun x=>if g=(1:Nat) then some ⟨Kd.arr (64:Nat) uK,rootsL⟩ else none) h) (fun h=>(fun x=>some ⟨Kd.arr (8:Nat) uK,firstL⟩) h) (instDecidableEqNat g (0:Nat))=some s)/\0+64<=64/\0+3<=3/\0+1<=1/\preOf ([List.take 64 (List.replicate (64:Nat) (0:Int)),m,List.take 3 [IntKind.u8.wrap (n.fdiv ((2:Int)^min (8:Nat) IntKind.i64.bits)),IntKind.u8.wrap n,(0:Int)],t',List.take 1 [IntKind.u8.wrap (↑t'.length:Int)]],())/\True/\((0:Int)<=(0:Int)/\(0:Int)<=IntKind.i64.wrap (n+(32:Int))/\(↑(1:Nat):Int)*IntKind.i64.wrap (n+(32:Int))<=(281474976710656:Int)/\IntKind.i64.wrap (n+(32:Int))<=(9223372036854775807:Int))/\(exI n t' ((spl (dig [List.take 64 (List.replicate (64:Nat) (0:Int)),m,List.take 3 [IntKind.u8.wrap (n.fdiv ((2:Int)^min (8:Nat) IntKind.i64.bits)),IntKind.u8.wrap n,(0:Int)],t',List.take 1 [IntKind.u8.wrap (↑t'.length:Int)]].flatten,()).fst,()).fst,[IntKind.u8.wrap (↑t'.length:Int)],List.replicate (IntKind.i64.wrap (n+(32:Int))).toNat (0:Int)).snd.fst ((spl (dig [List.take 64 (List.replicate (64:Nat) (0:Int)),m,List.take 3 [IntKind.u8.wrap (n.fdiv ((2:Int)^min (8:Nat) IntKind.i64.bits)),IntKind.u8.wrap n,(0:Int)],t',List.take 1 [IntKind.u8.wrap (↑t'.length:Int)]].flatten,()).fst,()).fst,[IntKind.u8.wrap (↑t'.length:Int)],List.replicate (IntKind.i64.wrap (n+(32:Int))).toNat (0:Int)).fst ((1:Int),(0:Nat),(IntKind.i64.wrap (n+(32:Int))).toNat,((spl (dig [List.take 64 (List.replicate (64:Nat) (0:Int)),m,List.take 3 [IntKind.u8.wrap (n.fdiv ((2:Int)^min (8:Nat) IntKind.i64.bits)),IntKind.u8.wrap n,(0:Int)],t',List.take 1 [IntKind.u8.wrap (↑t'.length:Int)]].flatten,()).fst,()).fst,[IntKind.u8.wrap (↑t'.length:Int)],List.replicate (IntKind.i64.wrap (n+(32:Int))).toNat (0:Int)).snd.snd,List.replicate (8:Nat) (0:Int))).triv (spl (dig [List.take 64 (List.replicate (64:Nat) (0:Int)),m,List.take 3 [IntKind.u8.wrap (n.fdiv ((2:Int)^min (8:Nat) IntKind.i64.bits)),IntKind.u8.wrap n,(0:Int)],t',List.take 1 [IntKind.u8.wrap (↑t'.length:Int)]].flatten)=fstF m t' n/\[IntKind.u8.wrap (↑t'.length:Int)]=endF t'))) (by kernel_rfl) ?_
   have e1:IntKind.i64.wrap (n+32)=n+32:=wrap_i64' (by omega) (by omega)
   have e2:List.take 64 (List.replicate 64 (0:Int))=List.replicate 64 0:=by rw[List.take_of_length_le (by simp)]
   have e3:∀ a b c:Int,List.take 3 [a,b,c]=[a,b,c]:=fun _ _ _=>rfl
   have e4:∀ a:Int,List.take 1 [a]=[a]:=fun _=>rfl
   rw[e1,e2,e3,e4]
   refine⟨⟨by decide,by decide,by decide,by decide⟩,by decide,fun _ _ h=>h,by decide,by decide,by decide,⟨?_,by show 5<=_;decide⟩,trivial,⟨by decide,by omega,by omega,by omega⟩,tvi ⟨rfl,rfl⟩⟩
   show (List.flatten [List.replicate 64 (0:Int),m,[_,_,0],t',[_]]).length<=1099511627776
   simp only[List.flatten_cons,List.flatten_nil,List.length_append,List.length_replicate,List.length_cons,List.length_nil]
   omega
  rintro⟨f,e,x0⟩ ⟨hf,he⟩
  revert f e x0
  intro (f:List Int) (e:List Int) (x0:List Int) (hf:f=fstF m t' n) (he:e=endF t')
  refine tr_while hsp mixed (fun σ=>[(264,rdI 11 σ)]) (fun σ=>(rdS (.int .i64) 13 σ,rdL 11 σ,rdN 264 σ,rdR bK 264 σ,rdR uK 280 σ)) (exI n t' e f) (exJ n t' f) (fun g=>n.toNat-g.2.1)
   (fun σ=>(rdS (.int .i64) 13 σ,rdL 11 σ,rdN 264 σ,rdR bK 264 σ,rdR uK 280 σ)) (exI n t' e f) (fun g=>exJ n t' f g/\n<=(g.2.1:Int)) (1,0,(IntKind.i64.wrap (n+32)).toNat,x0,List.replicate 8 0) (c:=nthC (codeOf Tryz.f152) 10) (by kernel_rfl) (by kernel_rfl) (le_of_proj (by kernel_rfl) (by kernel_rfl) ?_) ?_ ?_
  ·refine⟨0,rfl,rfl,Nat.zero_le _,rfl,rfl,?_⟩
   show ((0:Nat):Int)<n+32
   omega
  ·rintro⟨i,L,N,xs,last⟩ hj
   revert i xs last
   intro (i:Int) (xs:List Int) (last:List Int) (hj:exJ n t' f (i,L,N,xs,last))
   obtain⟨k,ei,eL,hLN,hx,hl,hk⟩:=hj
   have ei:i=(k:Int)+1:=ei
   have eL:L=32*k:=eL
   have hLN:L<=N:=hLN
   have hx:xs.take (32*k)=(exK f t' k).1:=hx
   have hl:last=(exK f t' k).2:=hl
   have hbl:=byt_len (ovr f last)
   refine vcx (X:=((decide ((↑L:Int)<n)=true->True/\True/\(∀ (g:Nat) (s:Sigma Car),shaG g=some s->Decidable.rec (fun h=>(fun x=>if g=(1:Nat) then some ⟨Kd.arr (64:Nat) uK,rootsL⟩ else none) h) (fun h=>(fun x=>some ⟨Kd.arr (8:Nat) uK,firstL⟩) h) (instDecidableEqNat g (0:Nat))=some s)/\0+32<=32/\0+1<=1/\0+1<=1/\preOf ([List.take 32 (byt (ovr f last)),List.take 1 [IntKind.u8.wrap i],t',List.take 1 e],())/\0+32<=32/\L<=N/\(L+(32:Nat))*(1:Nat)<=(140737488355328:Nat)/\L+(32:Nat)<=(4611686018427387904:Nat)/\True/\(exI n t' e f (IntKind.i64.wrap (i+(1:Int)),L+(32:Nat),L+(32:Nat),List.take L xs++List.take 32 (dig [List.take 32 (byt (ovr f last,()).fst,()).fst,List.take 1 [IntKind.u8.wrap i],t',List.take 1 e].flatten,()).fst,(spl (dig [List.take 32 (byt (ovr f last,()).fst,()).fst,List.take 1 [IntKind.u8.wrap i],t',List.take 1 e].flatten,()).fst,()).fst)).triv (exJ n t' f (IntKind.i64.wrap (i+(1:Int)),L+(32:Nat),L+(32:Nat),List.take L xs++List.take 32 (dig [List.take 32 (byt (ovr f last)),List.take 1 [IntKind.u8.wrap i],t',List.take 1 e].flatten),spl (dig [List.take 32 (byt (ovr f last)),List.take 1 [IntKind.u8.wrap i],t',List.take 1 e].flatten))/\n.toNat-(L+(32:Nat))<n.toNat-L))/\(decide ((↑L:Int)<n)=false->(exI n t' e f (i,L,N,xs,last)).triv (exJ n t' f (i,L,N,xs,last)/\n<=(↑L:Int))))) (by kernel_rfl) ?_
   have e5:List.take 32 (byt (ovr f last))=byt (ovr f last):=List.take_of_length_le (by omega)
   have e4:∀ a:Int,List.take 1 [a]=[a]:=fun _=>rfl
   have e6:List.take 1 e=e:=by rw[he];rfl
   have e7:∀ l,List.take 32 (dig l)=dig l:=fun l=>List.take_of_length_le (by rw[dig_len];omega)
   refine⟨fun h=>?_,fun h=>tvi ⟨⟨k,ei,eL,hLN,hx,hl,hk⟩,by have:=of_decide_eq_false h;omega⟩⟩
   have hLn:(L:Int)<n:=of_decide_eq_true h
   have e8:dig (List.flatten [byt (ovr f last),[IntKind.u8.wrap i],t',e])=nxD f t' k (exK f t' k).2:=by
    rw[nxD,hl,ei,he]
   rw[e5,e4,e6,e8]
   refine⟨trivial,trivial,fun _ _ h=>h,by decide,by decide,by decide,⟨?_,by show 4<=_;decide⟩,by decide,hLN,by omega,by omega,trivial,?_⟩
   ·show (List.flatten [byt (ovr f last),[IntKind.u8.wrap i],t',e]).length<=1099511627776
    rw[he]
    simp only[List.flatten_cons,List.flatten_nil,List.length_append,List.length_cons,List.length_nil,hbl,endF]
    omega
   ·refine tvi ⟨⟨k+1,?_,?_,Nat.le_refl _,?_,?_,?_⟩,by omega⟩
    ·show IntKind.i64.wrap (i+1)=_
     rw[ei,wrap_i64' (by omega) (by omega)];omega
    ·show L+32=_
     omega
    ·show List.take (32*(k+1)) (List.take L xs++List.take 32 (nxD f t' k (exK f t' k).2))=_
     rw[nxD,e7,List.take_of_length_le (by rw[List.length_append,List.length_take,dig_len];omega),eL,hx]
     rfl
    ·rfl
    ·show ((32*(k+1):Nat):Int)<n+32
     omega
  rintro⟨i,L,N,xs,last⟩ hj
  revert i xs last
  intro (i:Int) (xs:List Int) (last:List Int) (hj:exJ n t' f (i,L,N,xs,last)/\n<=(L:Int))
  refine tr_vc hsp mixed _ _ ?_
  obtain⟨⟨k,ei,eL,hLN,hx,hl,hk⟩,hnL⟩:=hj
  have eL:L=32*k:=eL
  have hLN:L<=N:=hLN
  have hx:xs.take (32*k)=(exK f t' k).1:=hx
  have hk:((32*k:Nat):Int)<n+32:=hk
  have hnL:n<=(L:Int):=hnL
  have hA:exA m t n=(expo m t n,0):=by
   rw[exA,decide_eq_false (by omega),decide_eq_false (by omega)];rfl
  have hkk:(n.toNat+31)/32=k:=by omega
  have hE:xs.take n.toNat=expo m t n:=by
   rw[expo,opq_eq,expF,htag,hkk,<- hf,<- hx,List.take_take,Nat.min_eq_left (by omega)]
  rw[hA]
  refine vcx (X:=(((0:Int)<=n/\n<=n/\n<=(↑L:Int))/\(0:Nat)+(n-(0:Int)).toNat<=N/\(List.take (n-(0:Int)).toNat xs,(0:Int),())=(expo m t n,(0:Int),()))) (by kernel_rfl) ?_
  have e1:(n-0).toNat=n.toNat:=by omega
  rw[e1,hE]
  exact⟨⟨by omega,by omega,hnL⟩,by omega,rfl⟩
 refine tr_cut hsp mixed 4 (exS0 m n t) (0<=n/\n<=8160) ?_ (fun hn=>?_)
 ·refine vcx (X:=((decide (n<(0:Int))=true->([],(1:Int),())=((exA m t n).fst,(exA m t n).snd,()))/\(decide (n<(0:Int))=false->(decide (n>(8160:Int))=true->([],(1:Int),())=((exA m t n).fst,(exA m t n).snd,()))/\(decide (n>(8160:Int))=false->(exS0 m n t).triv ((0:Int)<=n/\n<=(8160:Int)))))) (by kernel_rfl) ?_
  refine⟨fun h=>?_,fun h=>⟨fun h2=>?_,fun h2=>tvi ⟨by have:=of_decide_eq_false h;omega,by have:=of_decide_eq_false h2;omega⟩⟩⟩
  ·rw[exA,h];rfl
  ·rw[exA,h,h2];rfl
 refine tr_cond (c:=nthC (codeOf Tryz.f152) 4) (decide ((t.length:Int)>255)) (by kernel_rfl) (by kernel_rfl) (by kernel_rfl) (fun hT=>?_) (fun hT=>?_)
 ·have hT:255<t.length:=by have:=of_decide_eq_true hT;omega
  refine tr_cutF hsp mixed 2 (fun σ=>rdR bK 128 σ) (exS1 m n) (fun d=>d=dig (overS++t)) ?_ ?_
  ·refine vcx (X:=((∀ (g:Nat) (s:Sigma Car),shaG g=some s->Decidable.rec (fun h=>(fun x=>if g=(1:Nat) then some ⟨Kd.arr (64:Nat) uK,rootsL⟩ else none) h) (fun h=>(fun x=>some ⟨Kd.arr (8:Nat) uK,firstL⟩) h) (instDecidableEqNat g (0:Nat))=some s)/\(0:Nat)+(nat_lit 16+(1:Nat))<=(17:Nat)/\preOf ([List.take (nat_lit 16+(1:Nat)) [(72:Int),(50:Int),(67:Int),(45:Int),(79:Int),(86:Int),(69:Int),(82:Int),(83:Int),(73:Int),(90:Int),(69:Int),(45:Int),(68:Int),(83:Int),(84:Int),(45:Int)],t],())/\(exS1 m n (dig [List.take (nat_lit 16+(1:Nat)) [(72:Int),(50:Int),(67:Int),(45:Int),(79:Int),(86:Int),(69:Int),(82:Int),(83:Int),(73:Int),(90:Int),(69:Int),(45:Int),(68:Int),(83:Int),(84:Int),(45:Int)],t].flatten,()).fst).triv (dig [List.take (nat_lit 16+(1:Nat)) [(72:Int),(50:Int),(67:Int),(45:Int),(79:Int),(86:Int),(69:Int),(82:Int),(83:Int),(73:Int),(90:Int),(69:Int),(45:Int),(68:Int),(83:Int),(84:Int),(45:Int)],t].flatten=dig (overS++t)))) (by kernel_rfl) ?_
   refine⟨fun _ _ h=>h,by decide,⟨?_,by show 2<=_;decide⟩,tvi ?_⟩
   ·show (List.flatten [overS,t]).length<=1099511627776
    simp only[List.flatten_cons,List.flatten_nil,List.length_append,List.length_nil]
    have:overS.length=17:=rfl
    omega
   ·show dig (List.flatten [overS,t])=_
    simp only[List.flatten_cons,List.flatten_nil,List.append_nil]
  intro (d:List Int) (hd:d=dig (overS++t))
  have hdl:d.length=32:=by rw[hd,dig_len]
  refine tr_frzI 1 128 32 1 .u8 d (by kernel_rfl) (by kernel_rfl) hdl ?_
  refine tr_le (τ:=exS m n d) (K:=True) (le_of_proj (by kernel_rfl) (by kernel_rfl) trivial) (fun _=>?_)
  exact tr_eqL (by kernel_rfl) (rest d (by omega) hn.1 hn.2 (by rw[tagF,decide_eq_true hT,hd]))
 ·have hT:¬ 255<t.length:=by have:=of_decide_eq_false hT;omega
  refine tr_le (τ:=exS m n t) (K:=True) (le_of_proj (by kernel_rfl) (by kernel_rfl) trivial) (fun _=>?_)
  exact tr_eqL (by kernel_rfl) (rest t (by omega) hn.1 hn.2 (by rw[tagF,decide_eq_false hT]))
end
end Go.Proofs.YtbeeaekepmnfhaaGreatDoor.xmd
namespace Go.Proofs.YtbeeaekepmnfhaaGreatDoor.fp2
noncomputable section
open Go Go.Eng Go.RowKit Cr Rg Fd
def fin2 (s b t:Fp):F2:=(s*fp.zinv t,b*fp.zinv t)
def sqrt2 (x:F2):F2 × Bool :=
 if x.2=0 then (if (fp.fpSqrt x.1).2=true then (((fp.fpSqrt x.1).1,0),true) else ((0,(fp.fpSqrt (-x.1)).1),(fp.fpSqrt (-x.1)).2))
 else if (fp.fpSqrt (x.1*x.1+x.2*x.2)).2=true then
  (if (fp.fpSqrt (x.1+(fp.fpSqrt (x.1*x.1+x.2*x.2)).1+(x.1+(fp.fpSqrt (x.1*x.1+x.2*x.2)).1))).2=true then
   (fin2 (x.1+(fp.fpSqrt (x.1*x.1+x.2*x.2)).1) x.2 (fp.fpSqrt (x.1+(fp.fpSqrt (x.1*x.1+x.2*x.2)).1+(x.1+(fp.fpSqrt (x.1*x.1+x.2*x.2)).1))).1,true)
   else (fin2 (x.1-(fp.fpSqrt (x.1*x.1+x.2*x.2)).1) x.2 (fp.fpSqrt (x.1-(fp.fpSqrt (x.1*x.1+x.2*x.2)).1+(x.1-(fp.fpSqrt (x.1*x.1+x.2*x.2)).1))).1,(fp.fpSqrt (x.1-(fp.fpSqrt (x.1*x.1+x.2*x.2)).1+(x.1-(fp.fpSqrt (x.1*x.1+x.2*x.2)).1))).2))
 else ((0,0),false)
theorem ent_sqrt:enters Tryz.prog 119 Tryz.f119:=ek
abbrev outSqrt:HL [f2]->HO [.val f2,.val .bool]:=fun (x,_)=>((sqrt2 x).1,(sqrt2 x).2,())
theorem fn_sqrt:FnOk Tryz.prog 119 [f2] [.val f2,.val .bool] noG (fun _=>True) outSqrt:=by
 refine fn_of_vc (sp:=sps [fp.spZero,fp.spSqrt,fp.spNeg,fp.spAdd,fp.spSub,spNorm,fp.spInv,spScale]) (spk (fok fp.fn_zero) (spk (fok fp.fn_sqrt) (spk (fok fp.fn_neg) (spk (fok fp.fn_add) (spk (fok fp.fn_sub) (spk (fok fn_norm) (spk (fok fp.fn_inv) (spk (fok fn_scale) snl)))))))) mixed ent_sqrt (by decide) (by decide) ?_
 rintro w M0 ⟨x,⟨⟩⟩
 revert x
 intro (x:F2) _ _
 refine vcx (X:=(True/\(decide (x.snd=(0:Zm Mp))=true->True/\((fp.fpSqrt x.fst).snd=true->(((fp.fpSqrt x.fst).fst,(0:Fp)),true,())=outSqrt (x,()))/\((fp.fpSqrt x.fst).snd=false->True/\True/\(((0:Fp),(fp.fpSqrt (-x.fst)).fst),(fp.fpSqrt (-x.fst)).snd,())=outSqrt (x,())))/\(decide (x.snd=(0:Zm Mp))=false->True/\True/\((!(fp.fpSqrt (x.fst*x.fst+x.snd*x.snd)).snd)=true->(((0:Fp),(0:Fp)),false,())=outSqrt (x,()))/\((!(fp.fpSqrt (x.fst*x.fst+x.snd*x.snd)).snd)=false->True/\True/\True/\((!(fp.fpSqrt (x.fst+(fp.fpSqrt (x.fst*x.fst+x.snd*x.snd)).fst+(x.fst+(fp.fpSqrt (x.fst*x.fst+x.snd*x.snd)).fst))).snd)=true->True/\True/\True/\True/\True/\(((x.fst-(fp.fpSqrt (x.fst*x.fst+x.snd*x.snd)).fst)*fp.zinv (fp.fpSqrt (x.fst-(fp.fpSqrt (x.fst*x.fst+x.snd*x.snd)).fst+(x.fst-(fp.fpSqrt (x.fst*x.fst+x.snd*x.snd)).fst))).fst,x.snd*fp.zinv (fp.fpSqrt (x.fst-(fp.fpSqrt (x.fst*x.fst+x.snd*x.snd)).fst+(x.fst-(fp.fpSqrt (x.fst*x.fst+x.snd*x.snd)).fst))).fst),(fp.fpSqrt (x.fst-(fp.fpSqrt (x.fst*x.fst+x.snd*x.snd)).fst+(x.fst-(fp.fpSqrt (x.fst*x.fst+x.snd*x.snd)).fst))).snd,())=outSqrt (x,()))/\((!(fp.fpSqrt (x.fst+(fp.fpSqrt (x.fst*x.fst+x.snd*x.snd)).fst+(x.fst+(fp.fpSqrt (x.fst*x.fst+x.snd*x.snd)).fst))).snd)=false->True/\True/\(((x.fst+(fp.fpSqrt (x.fst*x.fst+x.snd*x.snd)).fst)*fp.zinv (fp.fpSqrt (x.fst+(fp.fpSqrt (x.fst*x.fst+x.snd*x.snd)).fst+(x.fst+(fp.fpSqrt (x.fst*x.fst+x.snd*x.snd)).fst))).fst,x.snd*fp.zinv (fp.fpSqrt (x.fst+(fp.fpSqrt (x.fst*x.fst+x.snd*x.snd)).fst+(x.fst+(fp.fpSqrt (x.fst*x.fst+x.snd*x.snd)).fst))).fst),(fp.fpSqrt (x.fst+(fp.fpSqrt (x.fst*x.fst+x.snd*x.snd)).fst+(x.fst+(fp.fpSqrt (x.fst*x.fst+x.snd*x.snd)).fst))).snd,())=outSqrt (x,())))))) (by kernel_rfl) ?_
 refine⟨trivial,fun h=>⟨trivial,fun h2=>?_,fun h2=>⟨trivial,trivial,?_⟩⟩,fun h=>⟨trivial,trivial,fun h2=>?_,fun h2=>⟨trivial,trivial,trivial,fun h3=>⟨trivial,trivial,trivial,trivial,trivial,?_⟩,fun h3=>⟨trivial,trivial,?_⟩⟩⟩⟩
 all_goals show _=((sqrt2 x).1,(sqrt2 x).2,())
 ·rw[sqrt2,if_pos (of_decide_eq_true h),if_pos h2]
 ·rw[sqrt2,if_pos (of_decide_eq_true h),if_neg (by rw[h2];decide)]
 ·have h2:(fp.fpSqrt (x.1*x.1+x.2*x.2)).2=false:=by simpa using h2
  rw[sqrt2,if_neg (of_decide_eq_false h),if_neg (by rw[h2];decide)]
 ·have h2:(fp.fpSqrt (x.1*x.1+x.2*x.2)).2=true:=by simpa using h2
  have h3:=(Bool.not_eq_true' _).mp h3
  rw[sqrt2,if_neg (of_decide_eq_false h),if_pos h2,if_neg (by rw[h3];decide)]
  rfl
 ·have h2:(fp.fpSqrt (x.1*x.1+x.2*x.2)).2=true:=by simpa using h2
  have h3:=(Bool.not_eq_false' _).mp h3
  rw[sqrt2,if_neg (of_decide_eq_false h),if_pos h2,if_pos h3]
  show (_,_,())=(fin2 _ _ _,true,())
  rw[h3];rfl
def spSqrt:Nat × Eng.Spec:=(119,fnSpec [f2] [.val f2,.val .bool] (fun _=>True) outSqrt)
theorem fpsqrt_ok {x:Fp} (h:(fp.fpSqrt x).2=true):(fp.fpSqrt x).1*(fp.fpSqrt x).1=x:=by
 unfold fp.fpSqrt at h ⊢
 split at h
 ·rename_i e;rw[if_pos e];exact e
 ·cases h
theorem zinv_mul {x:Fp} (h:x≠0):x*fp.zinv x=1:=mul_inv (F:=Fp) x h
theorem fin2_ok {a b n s t:Fp} (hb:b≠0) (hn:n*n=a*a+b*b) (hs:s=a+n\/s=a-n) (ht:t*t=s+s):fin2 s b t*fin2 s b t=(a,b):=by
 have h:=fin_ok hb hn hs ht (i:=fp.zinv t) (fun h=>zinv_mul h)
 refine F2.ext ?_ ?_
 ·rw[F2.mul1];exact h.1
 ·rw[F2.mul2];exact h.2
theorem sqrt2_ok {x:F2} (h:(sqrt2 x).2=true):(sqrt2 x).1*(sqrt2 x).1=x:=by
 by_cases hb:x.2=0
 ·by_cases h1:(fp.fpSqrt x.1).2=true
  ·rw[sqrt2,if_pos hb,if_pos h1]
   refine F2.ext ?_ ?_
   ·rw[F2.mul1]
    show _*_-0*0=x.1
    rw[fpsqrt_ok h1,mul_zero,sub_def,neg_zero,add_zero]
   ·rw[F2.mul2]
    show _*0+0*_=x.2
    rw[mul_zero,zero_mul,add_zero,hb]
  ·rw[sqrt2,if_pos hb,if_neg h1] at h ⊢
   have h:(fp.fpSqrt (-x.1)).2=true:=h
   refine F2.ext ?_ ?_
   ·rw[F2.mul1]
    show 0*0-_*_=x.1
    rw[fpsqrt_ok h,mul_zero,sub_def,neg_neg,zero_add]
   ·rw[F2.mul2]
    show 0*_+_*0=x.2
    rw[mul_zero,zero_mul,add_zero,hb]
 ·by_cases h1:(fp.fpSqrt (x.1*x.1+x.2*x.2)).2=true
  ·have hn:=fpsqrt_ok h1
   rw[sqrt2,if_neg hb,if_pos h1] at h ⊢
   generalize (fp.fpSqrt (x.1*x.1+x.2*x.2)).1=n at *
   by_cases h2:(fp.fpSqrt (x.1+n+(x.1+n))).2=true
   ·rw[if_pos h2]
    exact fin2_ok hb hn (.inl rfl) (fpsqrt_ok h2)
   ·rw[if_neg h2] at h ⊢
    exact fin2_ok hb hn (.inr rfl) (fpsqrt_ok h)
  ·rw[sqrt2,if_neg hb,if_neg h1] at h
   cases h
theorem fpsqrt_zero:(fp.fpSqrt 0).2=true:=by
 unfold fp.fpSqrt
 have e:zpw (0:Fp) fp.p14*zpw 0 fp.p14=0:=by
  rw[zpw_eq]
  have:∀ n:Nat,n≠0->zpow (0:Fp) n=0:=by
   intro n hn
   cases n with
   | zero=>exact absurd rfl hn
   | succ n=>show zpow (0:Fp) n*0=0;rw[mul_zero]
  rw[this _ (by decide),mul_zero]
 rw[if_pos e]
end
end Go.Proofs.YtbeeaekepmnfhaaGreatDoor.fp2
