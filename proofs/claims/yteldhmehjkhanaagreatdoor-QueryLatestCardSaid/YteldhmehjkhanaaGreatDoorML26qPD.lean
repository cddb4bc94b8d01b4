import Derived.Laws.Strings2
import Derived.Lib.Bytealg
import Derived.Test.YteldhmehjkhanaaGreatDoorML26qPC
set_option maxRecDepth 100000
namespace Go.Qry
open Go Go.Eng
def pcs:List UInt8->List (List UInt8)
 | []=>[[]]
 | c::r=>if c=32 then []::pcs r else match pcs r with
  | []=>[[c]]
  | p::ps=>(c::p)::ps
theorem pcs_ne:∀ l,pcs l≠[]:=by
 intro l
 cases l with
 | nil=>simp[pcs]
 | cons c r =>
  unfold pcs
  split
  ·simp
  ·split<;>simp
theorem pcs_cons {c:UInt8} (h:c≠32) (r:List UInt8) {p:List UInt8} {ps:List (List UInt8)} (e:pcs r=p::ps):pcs (c::r)=(c::p)::ps:=by
 rw[pcs,if_neg h,e]
theorem pcs_no:∀ l:List UInt8,(∀ c∈l,c≠32)->pcs l=[l]:=by
 intro l
 induction l with
 | nil=>intro _;rfl
 | cons c r ih=>intro h;exact pcs_cons (h c (List.mem_cons_self ..)) r (ih fun d hd=>h d (List.mem_cons_of_mem _ hd))
theorem pcs_at:∀ (a b:List UInt8),(∀ c∈a,c≠32)->pcs (a++32::b)=a::pcs b:=by
 intro a
 induction a with
 | nil=>intro b _;rw[List.nil_append,pcs,if_pos rfl]
 | cons c r ih=>intro b h;exact pcs_cons (h c (List.mem_cons_self ..)) _ (ih b fun d hd=>h d (List.mem_cons_of_mem _ hd))
theorem pcs_count:∀ l:List UInt8,(pcs l).length=l.count 32+1:=by
 intro l
 induction l with
 | nil=>rfl
 | cons c r ih =>
  by_cases h:c=32
  ·subst h
   rw[pcs,if_pos rfl,List.length_cons,ih,List.count_cons_self]
  ·cases e:pcs r with
   | nil=>exact absurd e (pcs_ne r)
   | cons p ps =>
    rw[pcs_cons h r e,List.length_cons,List.count_cons_of_ne h,<- ih,e,List.length_cons]
def bs (l:List UInt8):ByteArray:=⟨l.toArray⟩
def wds (s:ByteArray):List ByteArray:=(pcs s.data.toList).map bs
theorem ext_list (s:ByteArray) (a b:Nat):(s.extract a b).data.toList=(s.data.toList.drop a).take (b-a):=by
 have:=ByteArray.extract_mk s.data.toList a b
 have e:(ByteArray.mk s.data.toList.toArray)=s:=rfl
 rw[e] at this
 rw[this]
theorem map_bs (xs:List ByteArray):(xs.map fun x=>x.data.toList).map bs=xs:=by
 rw[List.map_map]
 induction xs with
 | nil=>rfl
 | cons x xs ih=>rw[List.map_cons,ih];rfl
theorem wds_of {s:ByteArray} {xs:List ByteArray} (h:xs.map (fun x=>x.data.toList)=pcs s.data.toList):xs=wds s:=by
 rw[wds,<- h,map_bs]
theorem pcs_cut {l:List UInt8} {a b:Nat} (hab:a<=b) (hb:b<l.length) (h:∀ c∈(l.drop a).take (b-a),c≠32) (hc:l.getD b 0=32):pcs (l.drop a)=(l.drop a).take (b-a)::pcs (l.drop (b+1)):=by
 have e:l.drop a=(l.drop a).take (b-a)++32::l.drop (b+1):=by
  conv=>lhs;rw[<- List.take_append_drop (b-a) (l.drop a)]
  rw[List.drop_drop,show a+(b-a)=b by omega,List.drop_eq_getElem_cons hb]
  rw[List.getD_eq_getElem?_getD,List.getElem?_eq_getElem hb] at hc
  simp at hc
  rw[hc]
 conv=>lhs;rw[e]
 exact pcs_at _ _ h
def numL:List Int->Int->Option Int
 | [],n=>some n
 | c::r,n=>if c<48\/c>57 then none else if 10*n+(c-48)>1099511627776 then none else numL r (10*n+(c-48))
def numO (w:List Int):Option Int:=if w.length=0\/(w.getD 0 0=48/\w.length>1) then none else numL w 0
theorem str_bytes (s:ByteArray):strOfNums (sbytes s)=s:=by
 apply ByteArray.ext
 apply Array.toList_inj.1
 rw[strOfNums_data,sbytes,List.map_map]
 conv=>rhs;rw[<- List.map_id s.data.toList]
 refine List.map_congr_left fun b _=>?_
 simp
theorem sbytes_len (s:ByteArray):(sbytes s).length=s.size:=by
 rw[sbytes,List.length_map]
 exact Array.length_toList
theorem ix_spec:∀ l:List UInt8,(Lib.indexByte l 32=-1/\∀ c∈l,c≠32)\/∃ m:Nat,Lib.indexByte l 32=m/\m<l.length/\(∀ c∈l.take m,c≠32)/\l.getD m 0=32:=by
 intro l
 induction l with
 | nil=>exact .inl ⟨rfl,fun c h=>(nomatch h)⟩
 | cons b l ih =>
  by_cases hb:b=32
  ·subst hb
   refine .inr ⟨0,?_,by simp,fun c h=>(nomatch h),rfl⟩
   rw[Lib.indexByte];rfl
  ·have hbq:(b==(32:UInt8))=false:=beq_eq_false_iff_ne.2 hb
   rcases ih with ⟨h1,h2⟩|⟨m,h1,h2,h3,h4⟩
   ·refine .inl ⟨?_,fun c hc=>?_⟩
    ·rw[Lib.indexByte,hbq,h1];rfl
    ·rcases List.mem_cons.1 hc with rfl|hc
     ·exact hb
     ·exact h2 c hc
   ·refine .inr ⟨m+1,?_,by simpa using h2,fun c hc=>?_,h4⟩
    ·rw[Lib.indexByte,hbq,h1]
     have:(((m:Nat):Int) == -1)=false:=beq_eq_false_iff_ne.2 (by omega)
     rw[this]
     simp
    ·rw[List.take_succ_cons] at hc
     rcases List.mem_cons.1 hc with rfl|hc
     ·exact hb
     ·exact h3 c hc
theorem pcs_step {l:List UInt8} {m:Nat} (hm:m<l.length) (h:∀ c∈l.take m,c≠32) (hc:l.getD m 0=32):pcs l=l.take m::pcs (l.drop (m+1)):=by
 have:=pcs_cut (l:=l) (a:=0) (b:=m) (Nat.zero_le _) hm (by simpa using h) hc
 simpa using this
def sInfo:ByteArray:=⟨#[105,110,102,111]⟩
def sLatest:ByteArray:=⟨#[108,97,116,101,115,116]⟩
def sRound:ByteArray:=⟨#[114,111,117,110,100]⟩
def noAsk:ByteArray × Int:=(ByteArray.empty,0)
def parseW (ws:List ByteArray):(ByteArray × Int) × Int :=
 if ws.getD 0 ByteArray.empty=sInfo\/ws.getD 0 ByteArray.empty=sLatest then (if ws.length=1 then ((ws.getD 0 ByteArray.empty,0),0) else (noAsk,80))
 else if ws.getD 0 ByteArray.empty=sRound then (if ws.length=2 then (match numO (sbytes (ws.getD 1 ByteArray.empty)) with
   | none=>(noAsk,82)
   | some n=>if n=0 then (noAsk,82) else ((ws.getD 0 ByteArray.empty,n),0)) else (noAsk,80))
 else (noAsk,83)
def parseO (b:List Int):(ByteArray × Int) × Int:=if b.length>128 then (noAsk,81) else parseW (wds (strOfNums b))
theorem wds_pos (s:ByteArray):0<(wds s).length:=by
 rw[wds,List.length_map,pcs_count]
 omega
end Go.Qry
namespace Go.Eng
noncomputable def opq {α:Type} (x:α):α:=Classical.choose (⟨x,rfl⟩:∃ y,y=x)
theorem opq_eq {α:Type} (x:α):opq x=x:=Classical.choose_spec (⟨x,rfl⟩:∃ y,y=x)
end Go.Eng
