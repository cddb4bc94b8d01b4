import Derived.Deep.MidRow
import Derived.Deep.QuietTactic
import Derived.Deep.RegionHeld3
import Derived.Deep.RegionLaw
import Derived.Deep.AppendLies
import Derived.Shelf.Strings.Builder1
import Derived.Test.YteldhmehjkhanaaGreatDoorML26qPX
set_option maxRecDepth 100000
namespace Go.Proofs.YteldhmehjkhanaaGreatDoor.qry
noncomputable section
open Go Go.Eng Go.RowKit Cr Go.Qry
abbrev s8K:Kd:=.arr 8 (.int .u8)
def csO (b:List Int):List Int:=opq (List.take 8 (sha.dig b))
theorem csO_len (b:List Int):(csO b).length=8:=by rw[csO,opq_eq,List.length_take,sha.dig_len];rfl
theorem ent_csum:enters Tryz.prog 56 Tryz.f56:=ek
theorem fn_csum:FnOk Tryz.prog 56 [u8K] [.val s8K] sha.shaG (fun (b,_)=>List.length b<=1000) (fun (b,_)=>(csO b,())):=by
 refine fn_of_vc (sp:=sps [sha.spOf]) (spk (fgk sha.fn_of) snl) mixed ent_csum (by decide) (by decide) ?_
 rintro w M0 ⟨b,⟨⟩⟩
 revert b
 intro (b:List Int) _ (hb:b.length<=1000)
 refine vcx (X:=((∀ (g:Nat) (s:Sigma Car),sha.shaG g=some s->Decidable.rec (fun h=>(fun x=>if g=(1:Nat) then some ⟨Kd.arr (64:Nat) sha.uK,sha.rootsL⟩ else none) h) (fun h=>(fun x=>some ⟨Kd.arr (8:Nat) sha.uK,sha.firstL⟩) h) (instDecidableEqNat g (0:Nat))=some s)/\0+1<=1/\sha.preOf (List.take 1 [b],())/\((0:Int)<=(8:Int)/\(8:Int)<=(↑(32:Nat):Int))/\(8:Nat)<=(8:Nat)/\(0:Nat)+Tryz.prog.cellsOf 101/width (Kd.int IntKind.u8)<=(32:Nat)/\(List.take (Tryz.prog.cellsOf 101/width (Kd.int IntKind.u8)) (List.drop (0:Nat) (sha.dig (List.take 1 [b]).flatten)),())=(csO b,()))) (by kernel_rfl) ?_
 have hc:Tryz.prog.cellsOf 101/width (Kd.int IntKind.u8)=8:=by kernel_rfl
 rw[hc]
 refine⟨fun _ _ h=>h,Nat.le_refl _,⟨?_,by show 1<=_;decide⟩,⟨by omega,by decide⟩,Nat.le_refl _,by omega,?_⟩
 ·show (List.flatten [b]).length<=1099511627776
  simp only[List.flatten_cons,List.flatten_nil,List.length_append,List.length_nil]
  omega
 ·rw[List.drop_zero,csO,opq_eq]
  show (List.take 8 (sha.dig (List.flatten [b])),())=_
  rw[show List.flatten [b]=b from by simp]
def spCsum:Nat × Eng.Spec:=(56,fnSpecG sha.shaG [u8K] [.val s8K] (fun (b,_)=>List.length b<=1000) (fun (b,_)=>(csO b,())))
def rbK (r:Int):Nat->List Int
 | 0=>[]
 | k+1=>rbK r k++[IntKind.u8.wrap (r.fdiv (2^min (56-8*k) IntKind.i64.bits))]
theorem rbK_len (r:Int):∀ k,(rbK r k).length=k
 | 0=>rfl
 | k+1=>by rw[rbK,List.length_append,rbK_len r k];rfl
def cwO (r:Int) (sg:List Int):List Int:=opq ((rbK r 8++sg)++csO (rbK r 8++sg))
theorem cwO_len (r:Int) (sg:List Int) (h:sg.length=96):(cwO r sg).length=112:=by
 rw[cwO,opq_eq,List.length_append,csO_len,List.length_append,rbK_len,h]
def cwI (r:Int) (sg:List Int) (g:Int × (Nat × Nat) × List Int):St:=mkSt Tryz.f47.ntmps 40 [(1,.is (.one (.ptr 0 0))),(3,.is (.one (.sl 16 0 0 g.2.1.1 1))),(4,sI .i64 g.1)] [(16,[.ints .u8 g.2.1.2 g.2.2]),(0,[.v (.int .i64 r),.ints .u8 96 sg])]
def cwJ (r:Int) (g:Int × (Nat × Nat) × List Int):Prop:=∃ k:Nat,k<=8/\g.1=56-8*(k:Int)/\List.take k g.2.2=rbK r k/\g.2.1.1=k/\g.2.1.2=g.2.2.length/\k<=g.2.2.length
theorem ent_cwrite:enters Tryz.prog 47 Tryz.f47:=ek
theorem fn_cwrite:FnOk Tryz.prog 47 [linkK] [.own (.int .u8)] sha.shaG (fun ((_,sg),_)=>List.length sg=96) (fun ((r,sg),_)=>(cwO r sg,())):=by
 have hsp:SpecsOk Tryz.prog (sps [spCsum]):=spk (fgk fn_csum) snl
 refine fn_of_tr (sp:=sps [spCsum]) ent_cwrite (by decide) (by decide) (by kernel_rfl) ?_
 rintro w M0 ⟨⟨r,sg⟩,⟨⟩⟩
 revert r sg
 intro (r:Int) (sg:List Int) _ (hs:sg.length=96)
 show Tr _ _ _ _ _ _ _
 refine tr_cut hsp mixed 3 (cwI r sg (56,(0,112),List.replicate 112 0)) True ?_ (fun _=>?_)
 ·refine vcx (X:=(((0:Int)<=(0:Int)/\(0:Int)<=(112:Int)/\(↑(1:Nat):Int)*(112:Int)<=(281474976710656:Int)/\(112:Int)<=(9223372036854775807:Int))/\(cwI r sg ((56:Int),((0:Nat),(112:Nat)),List.replicate (112:Nat) (0:Int))).triv True)) (by kernel_rfl) ?_
  exact⟨⟨by decide,by decide,by decide,by decide⟩,tvi trivial⟩
 refine tr_while hsp mixed (fun σ=>[(16,rdI 3 σ)]) (fun σ=>(rdS (.int .i64) 4 σ,(rdL 3 σ,rdN 16 σ),rdR (.int .u8) 16 σ)) (cwI r sg) (cwJ r) (fun g=>(g.1+8).toNat)
  (fun σ=>(rdS (.int .i64) 4 σ,(rdL 3 σ,rdN 16 σ),rdR (.int .u8) 16 σ)) (cwI r sg) (fun g=>List.take 8 g.2.2=rbK r 8/\g.2.1.1=8/\g.2.1.2=g.2.2.length/\8<=g.2.2.length) (56,(0,112),List.replicate 112 0) (c:=nthC (codeOf Tryz.f47) 3) (by kernel_rfl) (by kernel_rfl) (le_of_proj (by kernel_rfl) (by kernel_rfl) ?_) ?_ ?_
 ·exact⟨0,by decide,rfl,rfl,rfl,by decide,by decide⟩
 ·rintro⟨i,⟨n,N⟩,l⟩ hj
  revert i l
  intro (i:Int) (l:List Int) ⟨k,hk,ei,el,en,eN,eL⟩
  have ei:i=56-8*(k:Int):=ei
  have kl:l.take k=rbK r k:=el
  have kn:n=k:=en
  have kN:N=l.length:=eN
  have kL:k<=l.length:=eL
  refine vcx (X:=((decide (i>=(0:Int))=true->(0:Int)<=i/\0+1<=1/\n<=N/\(n+(1:Nat))*(1:Nat)<=(140737488355328:Nat)/\n+(1:Nat)<=(4611686018427387904:Nat)/\(cwI r sg (IntKind.i64.wrap (i-(8:Int)),(n+(1:Nat),n+(1:Nat)),List.take n l++List.take 1 [IntKind.u8.wrap (r.fdiv ((2:Int)^min i.toNat IntKind.i64.bits))])).triv (cwJ r (IntKind.i64.wrap (i-(8:Int)),(n+(1:Nat),n+(1:Nat)),List.take n l++List.take 1 [IntKind.u8.wrap (r.fdiv ((2:Int)^min i.toNat IntKind.i64.bits))])/\Int.toNat (IntKind.i64.wrap (i-(8:Int))+(8:Car (Kd.int IntKind.i64)))<Int.toNat (i+(8:Car (Kd.int IntKind.i64)))))/\(decide (i>=(0:Int))=false->(cwI r sg (i,(n,N),l)).triv (List.take 8 l=rbK r (8:Nat)/\n=(8:Nat)/\N=l.length/\(8:Nat)<=l.length)))) (by kernel_rfl) ?_
  refine⟨fun h=>?_,fun h=>tvi ?_⟩
  ·have h0:0<=i:=of_decide_eq_true h
   have ht:i.toNat=56-8*k:=by omega
   rw[wrap_i64' (by omega) (by omega),ht,kn,kl]
   refine⟨h0,by decide,by omega,by omega,by omega,tvi ⟨⟨k+1,by omega,by show i-8=_;omega,?_,rfl,?_,?_⟩,by show (i-8+8).toNat<(i+8).toNat;omega⟩⟩
   ·show List.take (k+1) (rbK r k++[_])=_
    rw[List.take_of_length_le (by rw[List.length_append,rbK_len];exact Nat.le_refl _)];rfl
   ·show k+1=(rbK r k++[_]).length
    rw[List.length_append,rbK_len];rfl
   ·show k+1<=(rbK r k++[_]).length
    rw[List.length_append,rbK_len];exact Nat.le_refl _
  ·have h0:¬ 0<=i:=of_decide_eq_false h
   have hk8:k=8:=by omega
   subst hk8
   exact⟨kl,kn,kN,kL⟩
 rintro⟨i,⟨n,N⟩,l⟩ ⟨el,en,eN,eL⟩
 revert i l
 intro (i:Int) (l:List Int) (el:l.take 8=rbK r 8) (en:n=8) (eN:N=l.length) (eL:8<=l.length)
 subst en
 refine tr_vc hsp mixed _ _ ?_
 refine vcx (X:=(0+96<=96/\(8:Nat)<=N/\((8:Nat)+(96:Nat))*(1:Nat)<=(140737488355328:Nat)/\(8:Nat)+(96:Nat)<=(4611686018427387904:Nat)/\(∀ (g:Nat) (s:Sigma Car),sha.shaG g=some s->Decidable.rec (fun h=>(fun x=>if g=(1:Nat) then some ⟨Kd.arr (64:Nat) sha.uK,sha.rootsL⟩ else none) h) (fun h=>(fun x=>some ⟨Kd.arr (8:Nat) sha.uK,sha.firstL⟩) h) (instDecidableEqNat g (0:Nat))=some s)/\(0:Nat)+((8:Nat)+(96:Nat))<=(8:Nat)+(96:Nat)/\(List.take ((8:Nat)+(96:Nat)) (List.take 8 l++List.take 96 sg)).length<=(1000:Nat)/\0+8<=8/\(8:Nat)+(96:Nat)<=(8:Nat)+(96:Nat)/\((8:Nat)+(96:Nat)+(8:Nat))*(1:Nat)<=(140737488355328:Nat)/\(8:Nat)+(96:Nat)+(8:Nat)<=(4611686018427387904:Nat)/\(0:Nat)+((8:Nat)+(96:Nat)+(8:Nat))<=(8:Nat)+(96:Nat)+(8:Nat)/\(List.take ((8:Nat)+(96:Nat)+(8:Nat)) (List.take ((8:Nat)+(96:Nat)) (List.take 8 l++List.take 96 sg)++List.take 8 (csO (List.take ((8:Nat)+(96:Nat)) (List.take 8 l++List.take 96 sg)))),())=(cwO r sg,()))) (by kernel_rfl) ?_
 have l96:List.take 96 sg=sg:=List.take_of_length_le (Nat.le_of_eq hs)
 have l104:(rbK r 8++sg).length=104:=by rw[List.length_append,rbK_len,hs]
 have e104:List.take (8+96) (rbK r 8++sg)=rbK r 8++sg:=List.take_of_length_le (Nat.le_of_eq l104)
 have c8:∀ b,List.take 8 (csO b)=csO b:=fun b=>List.take_of_length_le (Nat.le_of_eq (csO_len b))
 rw[el,l96,e104,c8,List.take_of_length_le (l:=_++csO _) (by rw[List.length_append,csO_len,l104];exact Nat.le_refl _)]
 refine⟨Nat.le_refl _,by omega,by decide,by decide,fun _ _ h=>h,Nat.le_refl _,by omega,Nat.le_refl _,Nat.le_refl _,by decide,by decide,Nat.le_refl _,?_⟩
 rw[cwO,opq_eq]
end
end Go.Proofs.YteldhmehjkhanaaGreatDoor.qry
namespace Go.Proofs.YteldhmehjkhanaaGreatDoor.dk
open Go Go.RowKit Go.Eng Go.ChangeMaps
set_option maxHeartbeats 2000000
open qry (sChain)
def lkCells (r:Int) (sg:List Int):List Value:=i64 r::sg.map (Value.int .u8)
theorem cwrite_raw (w:World) (M:Mem) (hM:Mem.le M (memOf w)) (hG:GlOk sha.shaG M) (r:Int) (sg:List Int) (hs:sg.length=96) :
  Calls Tryz.prog 47 #[.agg ⟨lkCells r sg⟩] w fun e w'=>∃ (b cap:Nat) (news:List Value),e=.returned (.slice (some ⟨b,0,none⟩) 112 cap)/\(w.heap.size<=b/\b<w'.heap.size)/\news.length=112/\(∀ j u,news[j]?=some u->w'.cell? ((⟨b,0,none⟩:Addr).add j)=some u)/\(∀ u∈news,u.oneCell'=true)/\Below w.heap.size w w':=by
 have h:=qry.fn_cwrite w M [.agg ⟨lkCells r sg⟩] ((r,sg),()) hM hG ⟨_,[],rfl,⟨lkCells r sg,rfl,[i64 r],sg.map (Value.int .u8),rfl,rfl,hs,RdL_int.2 rfl⟩,rfl⟩ hs
 refine (calls_of qry.ent_cwrite h).mono ?_
 rintro e w' ⟨v,rfl,vs,ob,rfl,⟨v,vs',rfl,h1,h2⟩,hb⟩
 have h2:vs'=[]:=h2
 subst h2
 have hl:=qry.cwO_len r sg hs
 rcases h1 with ⟨h,_⟩|⟨b,o,cap,n,l,hob,hB,hv,hc,ho,hn,hblk,hr⟩
 ·have h:qry.cwO r sg=[]:=h
  rw[h] at hl;cases hl
 have hv:v=.slice (some ⟨b,o,none⟩) (qry.cwO r sg).length cap:=hv
 have hc:(qry.cwO r sg).length<=cap:=hc
 rw[hl] at hv hc
 have o0:o=0:=ho.elim id (fun q=>by omega)
 subst o0 hv
 have hr:=RdL_int.1 hr
 refine⟨b,cap,l,rfl,⟨hB,hblk.lt⟩,by rw[hr,List.length_map];exact hl,fun j u hj=>?_,fun u hu=>?_,hb⟩
 ·rw[add_off,Nat.zero_add]
  exact hblk.cell hj
 ·rw[hr] at hu
  obtain⟨x,_,rfl⟩:=List.mem_map.1 hu
  rfl
end Go.Proofs.YteldhmehjkhanaaGreatDoor.dk
namespace Go.Proofs.YteldhmehjkhanaaGreatDoor.dk
open Go Go.RowKit Go.Eng Go.ChangeMaps
set_option maxHeartbeats 4000000
open qry (sChain)
structure ChainAt (w:World) (p d m:Nat) (Vl Vd:Value) (k:Nat) (ys:List Value):Prop where
 ch:ChainB w p d Vl
 dk:∃ s,DiskB w d m 4194304 s
 fl:∃ a c there,Vd=.slice a (112*k) c/\FileAt w m there a (112*k) c ((112*k:Nat):Int)
 od:∃ xs,w.ownsRow 0 5 1 Vd (112*k) xs
 ol:w.ownsRow 0 68 97 Vl k ys
def Held (p d m:Nat) (Vl Vd:Value) (b:Nat):Prop:=b=p\/b=d\/b=m\/Vl.ownBlock=some b\/Vd.ownBlock=some b
theorem mem_kept {S:Nat->Prop} {M:Mem} {w w':World} (h:Mem.le M (memOf w)) (K:Kept S w w') (hs:∀ b l,M b=some l->¬ S b):Mem.le M (memOf w'):=by
 intro b l hb
 have h1:=h b l hb
 obtain⟨el,fr,hh⟩:=memOf_inv h1
 have e:=K.old hh (hs b l hb)
 unfold memOf at h1 ⊢
 rw[hh] at h1
 rw[e]
 exact h1
theorem info68:(Tryz.prog.info? 68).map (fun i=>(i.zero.map (·.cells.size),i.size,i.bytes))=some (some 97,97,104):=by kernel_rfl
theorem parts68:∃ i z,Tryz.prog.info? 68=some i/\i.zero=some z/\i.size=97/\i.bytes=104/\z.cells.size=97:=by
 obtain⟨i,hi,h⟩:=Option.map_eq_some_iff.1 info68
 simp only[Prod.mk.injEq] at h
 obtain⟨z,hz,hc⟩:=Option.map_eq_some_iff.1 h.1
 exact⟨i,z,hi,hz,h.2.1,h.2.2,hc⟩
noncomputable def loadLk (v:Value):Sem Value:=Instr.loadAt 68 v
theorem loadLk_fold (v:Value):Instr.loadAt 68 v=loadLk v:=rfl
theorem loadLk_ok (w:World) (b:Nat) (l:List Value) (hl:l.length=97) (h:w.heap[b]?=some (.cells ⟨l⟩ 68 (0,0))):(loadLk (.pointer (some ⟨b,0,none⟩))).run Tryz.prog w=.ok (.agg ⟨l⟩) w :=
 run_loadAt_mid w b 0 68 l _ (fun j v hj=>by rw[Nat.zero_add,Lib.cell_of_heap h];simpa using hj) Tryz.underlying68 rfl (by rw[hl];kernel_rfl)
noncomputable def bldLk (ps:Array (Nat × Value)):Sem Value:=Instr.buildSlice 29 1 ps
theorem bldLk_fold (ps:Array (Nat × Value)):Instr.buildSlice 29 1 ps=bldLk ps:=rfl
theorem fill_one (z:Array Value) (l:List Value) (hl:l.length=97) (hz:z.size=97):Instr.fill (fun i=>some (i*97,97)) z [(0,.agg ⟨l⟩)]=some ⟨l⟩:=by
 obtain⟨z⟩:=z
 have hz:z.length=97:=by simpa using hz
 have h:=foldl_set 0 l 0 z (by omega)
 have hc:(Value.agg ⟨l⟩).cells=⟨l⟩:=rfl
 unfold Instr.fill
 simp only[Nat.zero_mul,hc]
 rw[if_neg (by simp;omega)]
 unfold Instr.fill
 rw[show (Array.zipIdx ⟨l⟩:Array (Value × Nat))=⟨l.zipIdx⟩ from by simp]
 rw[show (⟨l.zipIdx⟩:Array (Value × Nat)).foldl (fun (cs:Array Value) (p:Value × Nat)=>cs.setIfInBounds (0+p.2) p.1) ⟨z⟩=l.zipIdx.foldl (fun (cs:Array Value) (p:Value × Nat)=>cs.setIfInBounds (0+p.2) p.1) ⟨z⟩ from by simp]
 rw[h]
 simp only[Nat.zero_add,List.take_zero,List.nil_append,List.drop_of_length_le (by omega:z.length<=l.length),List.append_nil]
theorem bldLk_ok (w:World) (l:List Value) (hl:l.length=97):(bldLk #[(0,.agg ⟨l⟩)]).run Tryz.prog w=.ok (.slice (some ⟨w.heap.size,0,none⟩) 1 1) (w.alloc (.cells ⟨l⟩ 68)):=by
 obtain⟨i,z,hi,hz,hs1,hs2,hs3⟩:=parts68
 have hc:Tryz.prog.cellsOf 68=97:=by kernel_rfl
 unfold bldLk Instr.buildSlice zeroValue
 simp only[Sem.run_bind,underlying_run Tryz.underlying29,Result.andThen_ok,sizeOf_run hi,Sem.run_ite,hc]
 rw[if_neg (by omega)]
 simp only[show ¬ (1*97=0) from by omega,if_false,typeInfo_run hi,Result.andThen_ok,hz,Sem.run_pure]
 rw[fill_one _ l hl (by simp)]
 simp only[newRow,Sem.run_bind,run_newObj,Result.andThen_ok,Sem.run_pure]
 rfl
attribute [local go_sem ↓] loadLk_fold bldLk_fold
theorem own_ne_own {w:World} {base base':Nat} {e e':TypeId} {size size':Nat} {v v':Value} {n n':Nat} {xs xs':List Value} (h:w.ownsRow base e size v n xs) (h':w.ownsRow base' e' size' v' n' xs') (hT:e≠e') {b:Nat} (hb:v.ownBlock=some b):v'.ownBlock≠some b:=by
 rcases h.2 with ⟨rfl,_⟩|⟨g,cap,cur,rfl,_,hg,_⟩
 ·simp[Value.ownBlock] at hb
 ·simp only[Value.ownBlock,Option.some.injEq] at hb
  subst hb
  exact own_ne_cells h' hg hT
theorem lk_one (r:Int) (sg:List Int):∀ u∈lkCells r sg,u.oneCell'=true:=by
 intro u hu
 rcases List.mem_cons.1 hu with rfl|hu
 ·rfl
 ·obtain⟨x,_,rfl⟩:=List.mem_map.1 hu
  rfl
theorem lk_len (r:Int) (sg:List Int) (hs:sg.length=96):(lkCells r sg).length=97:=by rw[lkCells,List.length_cons,List.length_map,hs]
theorem capp_ok (p d m:Nat) (la:Option Addr) (k cl:Nat) (Vd:Value) (ys:List Value) (w:World) (H:ChainAt w p d m (.slice la k cl) Vd k ys) (hk:k<=10) (M:Mem) (hM:Mem.le M (memOf w)) (hG:GlOk sha.shaG M) (r:Int) (sg:List Int) (hs:sg.length=96) (hr:r=(k:Int)+1) :
  Calls Tryz.prog 20 #[ptr p,.agg ⟨lkCells r sg⟩] w fun e w'=>e=.returned (i64 0) /\
   ∃ (la':Option Addr) (cl':Nat) (Vd':Value),ChainAt w' p d m (.slice la' (k+1) cl') Vd' (k+1) (ys++lkCells r sg)/\Kept (Held p d m (.slice la k cl) Vd) w w' /\
    (∀ b,Held p d m (.slice la' (k+1) cl') Vd' b->Held p d m (.slice la k cl) Vd b\/w.heap.size<=b):=by
 subst hr
 obtain⟨hp,⟨st,hd⟩,⟨a,c,there,rfl,hf⟩,⟨xs,hod⟩,hol⟩:=H
 have c2:w.cell? ⟨p,2,none⟩=some (.bool false):=by rw[Lib.cell_of_heap hp];rfl
 have c1:w.cell? ⟨p,1,none⟩=some (.slice la k cl):=by rw[Lib.cell_of_heap hp];rfl
 have hlt:=lt_of_block hp
 have hB:(w.alloc (.cells ⟨lkCells (k+1) sg⟩ 68)).heap[w.heap.size]?=some (.cells ⟨lkCells (k+1) sg⟩ 68 (0,0)):=heap_alloc_new w _
 have b0:(w.alloc (.cells ⟨lkCells (k+1) sg⟩ 68)).cell? ⟨w.heap.size,0,none⟩=some (i64 (k+1)):=by rw[Lib.cell_of_heap hB];rfl
 have K1:Kept noS w (w.alloc (.cells ⟨lkCells (k+1) sg⟩ 68)):=Kept.alloc' w _
 go_enter Tryz.func20,Tryz.ntmps20
 have c1':(w.alloc (.cells ⟨lkCells (k+1) sg⟩ 68)).cell? ⟨p,1,none⟩=some (.slice la k cl):=by rw[Lib.cell_of_heap (K1.old hp (fun q=>q))];rfl
 have hw:wrap64 ((k:Int)+1)=k+1:=IntWalk.wrap64_in _ (by omega)
 go_wp2_with fail
 go_quiet (fail)
 have hw2:IntKind.i64.wrap ((k:Int)+1)=k+1:=IntWalk.i64_in _ (by omega)
 simp only[hw2]
 have hR:∀ W:World,W.heap[w.heap.size]?=some (.cells ⟨lkCells (k+1) sg⟩ 68 (0,0))->W.rangeAt w.heap.size 0 (lkCells (k+1) sg):=fun W hW j v hj=>by
  rw[Nat.zero_add,Lib.cell_of_heap hW];simpa using hj
 have hi68:(Tryz.prog.info? 68).map (·.size)=some (lkCells (k+1) sg).length:=by rw[lk_len _ _ hs];kernel_rfl
 have hB2:=hR ((w.alloc (.cells ⟨lkCells (k+1) sg⟩ 68)).drewN nq) hB
 go_wp2_with (refine wpList_load_mid rfl 68 (.tmp 3) rfl w.heap.size 0 rfl (lkCells (k+1) sg) _ hB2 Tryz.underlying68 rfl hi68 ?_)
 have K2:Kept noS w ((w.alloc (.cells ⟨lkCells (k+1) sg⟩ 68)).drewN nq):=⟨K1.os,K1.tape,K1.output,K1.size,K1.block⟩
 refine (cwrite_raw ((w.alloc (.cells ⟨lkCells (k+1) sg⟩ 68)).drewN nq) M (mem_kept hM K2 (fun _ _ _ q=>q)) hG (k+1) sg hs).mono ?_
 rintro e w3 ⟨b,cap,news,rfl,⟨hb1,hb2⟩,hnl,hnews,hnone,hB3⟩
 have K3:Kept noS w w3:=K2.trans (Kept.below hB3)
 have hB4:w3.heap[w.heap.size]?=some (.cells ⟨lkCells (k+1) sg⟩ 68 (0,0)):=(Kept.below (S:=noS) hB3).old (b:=w.heap.size) hB (fun q=>q)
 have hp3:=K3.old hp (fun q=>q)
 have hd3:=K3.old hd (fun q=>q)
 obtain⟨es,ck,hm⟩:=hf.blk
 have hf3:=hf.kept (K3.block m (lt_of_block hm) (fun q=>q))
 have hod3:=own_kept hod K3 (fun b _ q=>q)
 have hol3:=own_kept hol K3 (fun b _ q=>q)
 go_wp2_with fail
 refine (put_ok p d m (.slice la k cl) a (112*k) c xs there ⟨b,0,none⟩ 112 cap news st w3 hp3 hd3 hf3 hod3 hnl (by decide) (by omega) hnews hnone hb2).mono ?_
 rintro e w4 ⟨rfl,⟨a',c',s',hf4,hod4,hd4,hblk4⟩,K4⟩
 have hpd:p≠d:=fun e=>by rw[ChainB,e,hd] at hp;cases hp
 have hpm:p≠m:=fun e=>by rw[ChainB,e,hm] at hp;cases hp
 have hp4:=K4.old hp3 (fun q=>q.elim hpd fun q=>q.elim hpm (own_ne_cells hod3 hp3 (by decide)))
 have hm3:=K3.old hm (fun q=>q)
 have hol4:=own_kept hol3 K4 (fun b hb q=>q.elim (fun q=>own_ne_cells hol3 hd3 (by decide) (by rw[<- q];exact hb)) fun q=>q.elim (fun q=>own_ne_map hol3 hm3 (by rw[<- q];exact hb)) (own_ne_own hol3 hod3 (by decide) hb))
 have hlm:=lt_of_block hm
 have hld:=lt_of_block hd
 have hB5:=K4.old hB4 (fun q=>q.elim (fun q=>by omega) fun q=>q.elim (fun q=>by omega) (own_ne_cells hod3 hB4 (by decide)))
 have np4:=own_ne_cells hol4 hp4 (by decide)
 have q1:w4.cell? ⟨p,1,none⟩=some (.slice la k cl):=by rw[Lib.cell_of_heap hp4];rfl
 have qf:w4.frozen? ⟨p,1,none⟩=false:=Lib.frozen_of_heap hp4 1
 have hR5:=hR w4 hB5
 have lp4:=lt_of_block hp4
 have lB4:=lt_of_block hB5
 have hl97:=lk_len (k+1) sg hs
 have hone:=lk_one (k+1) sg
 have hbl:=fun W=>bldLk_ok W (lkCells (k+1) sg) hl97
 have hll:=fun W=>loadLk_ok W w.heap.size (lkCells (k+1) sg) hl97
 obtain⟨i0,z0,hi0,hz0,hz1,hz2,hz3⟩:=parts68
 have hu68:=Tryz.underlying68
 go_wp2_with fail
 have npB:=own_ne_cells (((hol4.alloc (.cells ⟨lkCells (k+1) sg⟩ 68)).drew)) ((Below.heap_alloc w4 _ _ lp4).trans hp4) (by decide)
 have hA:(w4.alloc (.cells ⟨lkCells (k+1) sg⟩ 68)).drew.heap[p]?=some (.cells (cCells d (.slice la k cl)) 79 (0,0)):=(Below.heap_alloc w4 _ _ lp4).trans hp4
 have k1:(w4.alloc (.cells ⟨lkCells (k+1) sg⟩ 68)).drew.cell? ⟨p,1,none⟩=some (.slice la k cl):=by rw[Lib.cell_of_heap hA];rfl
 have hAB:(w4.alloc (.cells ⟨lkCells (k+1) sg⟩ 68)).drew.heap[w.heap.size]?=some (.cells ⟨lkCells (k+1) sg⟩ 68 (0,0)):=(Below.heap_alloc w4 _ _ lB4).trans hB5
 have hsz:(w4.alloc (.cells ⟨lkCells (k+1) sg⟩ 68)).drew.heap.size=w4.heap.size+1:=by simp
 have kf:(w4.alloc (.cells ⟨lkCells (k+1) sg⟩ 68)).drew.frozen? ⟨p,1,none⟩=false:=Lib.frozen_of_heap hA 1
 have nB:(Value.slice la k cl).ownBlock≠some w.heap.size:=fun e=>Nat.lt_irrefl _ (hol.lt _ e).2
 have ll1:=hll w4.drew hB5
 go_region_law ((refine step_append_lies _ (by rfl) _ _ _ (by rfl) 0 68 i0 z0 97 104 Tryz.underlying29 hi0 hz0 hz1 hz2 hz3 (by omega) (.slice la k cl) k ys (by rfl) ((hol4.alloc _).drew) ⟨w4.heap.size,0,none⟩ 1 1 (lkCells (k+1) sg) (by rfl) (by rw[hl97]) (World.news_of_block (cs:=⟨lkCells (k+1) sg⟩) (t:=68) (fr:=(0,0)) (heap_alloc_new w4.drew _)) hone (by omega) (by unfold maxLen;omega) (by omega) (by simp) (w4.heap.size+1) (by simp) ?_;intro gg cap w5 hown5 hgrow hat hlt5;have s1:=(hgrow.cell_far ⟨p,1,none⟩ (by rw[hsz];exact Nat.lt_succ_of_lt lp4) (Ne.symm np4)).trans k1;have sf:=(hgrow.frozen_far ⟨p,1,none⟩ (by rw[hsz];exact Nat.lt_succ_of_lt lp4) (Ne.symm np4)).trans kf))
 all_goals
  have hp5:w5.heap[p]?=some (.cells (cCells d (.slice la k cl)) 79 (0,0)):=(hgrow.block p (by rw[hsz];exact Nat.lt_succ_of_lt lp4) (Ne.symm np4)).trans hA
  have hp6:(w5.setCell ⟨p,1,none⟩ (.slice (some ⟨gg,0,none⟩) (k+1) cap)).heap[p]?=some (.cells (cCells d (.slice (some ⟨gg,0,none⟩) (k+1) cap)) 79 (0,0)):=by
   rw[heap_setCell_same _ _ _ _ _ _ hp5];rfl
  have t2:(w5.setCell ⟨p,1,none⟩ (.slice (some ⟨gg,0,none⟩) (k+1) cap)).cell? ⟨p,2,none⟩=some (.bool false):=by rw[Lib.cell_of_heap hp6];rfl
  have tf:(w5.setCell ⟨p,1,none⟩ (.slice (some ⟨gg,0,none⟩) (k+1) cap)).frozen? ⟨p,2,none⟩=false:=Lib.frozen_of_heap hp6 2
  have hp7:((w5.setCell ⟨p,1,none⟩ (.slice (some ⟨gg,0,none⟩) (k+1) cap)).setCell ⟨p,2,none⟩ (.bool false)).heap[p]?=some (.cells (cCells d (.slice (some ⟨gg,0,none⟩) (k+1) cap)) 79 (0,0)):=by
   rw[heap_setCell_same _ _ _ _ _ _ hp6];rfl
  have K5:Kept (fun b=>b=p\/(Value.slice la k cl).ownBlock=some b) w4 w5:=((Kept.alloc' w4 _).drew).grown hgrow (fun b hb=>.inl (.inr hb))
  have K7:Kept (fun b=>b=p\/(Value.slice la k cl).ownBlock=some b) w4 ((w5.setCell ⟨p,1,none⟩ (.slice (some ⟨gg,0,none⟩) (k+1) cap)).setCell ⟨p,2,none⟩ (.bool false)) :=
   (K5.setCell (a:=⟨p,1,none⟩) (.inl (.inl rfl)) _).setCell (a:=⟨p,2,none⟩) (.inl (.inl rfl)) _
  have ng:=own_ne_cells hown5 hp5 (by decide)
  have hol7:=ownsRow_setCell_other (a:=⟨p,2,none⟩) (ownsRow_setCell_other (a:=⟨p,1,none⟩) hown5 ng (.slice (some ⟨gg,0,none⟩) (k+1) cap)) ng (.bool false)
  have hm4:w4.heap[m]?=some (.map #[entOf a' (112*k+112) c' ((112*k+112:Nat):Int)] 1):=hf4
  have hd7:=K7.old hd4 (fun q=>q.elim (fun q=>hpd q.symm) (own_ne_cells hol4 hd4 (by decide)))
  have hm7:=K7.old hm4 (fun q=>q.elim (fun q=>hpm q.symm) (own_ne_map hol4 hm4))
  have hod7:=own_kept hod4 K7 (fun b hb q=>q.elim (fun q=>own_ne_cells hod4 hp4 (by decide) (by rw[<- q];exact hb)) (own_ne_own hod4 hol4 (by decide) hb))
  go_wp2
  go_ret
  refine⟨rfl,some ⟨gg,0,none⟩,cap,.slice a' (112*(k+1)) c',⟨hp7,⟨s',hd7⟩,⟨a',c',true,rfl,hm7⟩,⟨_,hod7⟩,hol7⟩,?_,?_⟩
  ·refine ((K3.mono (fun b q=>q.elim)).trans (K4.mono fun b q=>?_)).trans (K7.mono fun b q=>?_)
   ·exact q.elim (fun q=>.inr (.inl q)) fun q=>q.elim (fun q=>.inr (.inr (.inl q))) fun q=>.inr (.inr (.inr (.inr q)))
   ·exact q.elim .inl fun q=>.inr (.inr (.inr (.inl q)))
  ·rintro x (rfl|rfl|rfl|hx|hx)
   ·exact .inl (.inl rfl)
   ·exact .inl (.inr (.inl rfl))
   ·exact .inl (.inr (.inr (.inl rfl)))
   ·have hx:gg=x:=by simpa[Value.ownBlock] using hx
    subst hx
    rcases hat with h|h
    ·exact .inl (.inr (.inr (.inr (.inl h))))
    ·exact .inr (by have:=K3.size;have:=K4.size;omega)
   ·rcases hblk4 with h|⟨g,h,hg⟩
    ·exact .inl (.inr (.inr (.inr (.inr (h.symm.trans hx)))))
    ·have:g=x:=by simpa using h.symm.trans hx
     subst this
     exact .inr (Nat.le_trans K3.size hg)
end Go.Proofs.YteldhmehjkhanaaGreatDoor.dk
namespace Go.Proofs.YteldhmehjkhanaaGreatDoor.dk
open Go Go.RowKit Go.Eng Go.ChangeMaps
set_option maxHeartbeats 2000000
open qry (sChain)
theorem new_ok (w:World):Calls Tryz.prog 9 #[i64 4194304] w fun e w'=>∃ d m:Nat,e=.returned (ptr d)/\DiskB w' d m 4194304 0/\w'.heap[m]?=some (.map #[] 0)/\(w.heap.size<=d/\w.heap.size<=m)/\Kept noS w w':=by
 have hmm:=@run_makeMap Tryz.prog
 have hx:min (max (4194304:Int) 0) 4194304=4194304:=by omega
 go_enter Tryz.func9,Tryz.ntmps9
 go_wp2
 go_ret
 refine⟨w.heap.size+1,w.heap.size,rfl,?_,?_,⟨by omega,Nat.le_refl _⟩,(Kept.alloc' w _).alloc _⟩
 ·have h:=heap_alloc_new (w.alloc (.map #[] 0)) (.cells #[i64 4194304,.map (some w.heap.size),i64 0,i64 0,.bool false] 87 (0,0))
  have e:(w.alloc (.map #[] 0)).heap.size=w.heap.size+1:=by simp
  rw[e] at h
  exact h
 ·rw[Below.heap_alloc _ _ _ (by simp)]
  exact heap_alloc_new w _
theorem read_gone (d m:Nat) (steps:Int) (w:World) (hd:DiskB w d m 4194304 steps) (hm:w.heap[m]?=some (.map #[] 0)) :
  Calls Tryz.prog 26 #[ptr d,.string sChain] w fun e w'=>e=.returned (.tuple #[.slice none 0 0,i64 41])/\Kept noS w w':=by
 go_enter Tryz.func26,Tryz.ntmps26
 go_wp2_with fail
 refine (find_file d m _ steps none 0 0 0 false _ hd ⟨hm,rfl,rfl,rfl,rfl⟩).mono ?_
 rintro e w2 ⟨rfl,K2⟩
 go_wp2
 go_ret2
 exact⟨rfl,K2.alloc _⟩
theorem open_ok (d m:Nat) (steps:Int) (w:World) (hd:DiskB w d m 4194304 steps) (hm:w.heap[m]?=some (.map #[] 0)) :
  Calls Tryz.prog 8 #[ptr d] w fun e w'=>∃ p:Nat,e=.returned (.tuple #[ptr p,i64 0])/\ChainAt w' p d m (.slice none 0 0) (.slice none 0 0) 0 []/\w.heap.size<=p/\Kept noS w w':=by
 go_enter Tryz.func8,Tryz.ntmps8
 go_wp2_with fail
 have hP:(w.alloc (.cells #[ptr d,.slice none 0 0,.bool false] 79)).heap[w.heap.size]?=some (.cells (cCells d (.slice none 0 0)) 79 (0,0)):=heap_alloc_new w _
 have K1:Kept noS w (w.alloc (.cells #[ptr d,.slice none 0 0,.bool false] 79)):=Kept.alloc' w _
 refine (read_gone d m steps _ (K1.old hd (fun q=>q)) (K1.old hm (fun q=>q))).mono ?_
 rintro e w2 ⟨rfl,K2⟩
 go_wp2
 go_ret2
 have hd2:=(K1.trans K2).old hd (fun q=>q)
 have hm2:=(K1.trans K2).old hm (fun q=>q)
 refine⟨w.heap.size,rfl,⟨K2.old hP (fun q=>q),⟨steps,hd2⟩,⟨none,0,false,rfl,hm2,rfl,rfl,rfl,rfl⟩,⟨[],World.ownsRow_nil _ _ _ _⟩,World.ownsRow_nil _ _ _ _⟩,Nat.le_refl _,K1.trans K2⟩
end Go.Proofs.YteldhmehjkhanaaGreatDoor.dk
namespace Go.Proofs.YteldhmehjkhanaaGreatDoor.qry
noncomputable section
open Go Go.Eng Go.RowKit Cr Go.Qry
def balQa0:ByteArray:=(ByteArray.mk (#[(101:UInt8),(114:UInt8),(114:UInt8),(111:UInt8),(114:UInt8)] ))
def balQa1:ByteArray:=(ByteArray.mk (#[(105:UInt8),(110:UInt8),(102:UInt8),(111:UInt8)] ))
def balQa2:ByteArray:=(ByteArray.mk (#[(108:UInt8),(97:UInt8),(116:UInt8),(101:UInt8),(115:UInt8),(116:UInt8)] ))
def balQa3:ByteArray:=(ByteArray.mk (#[(114:UInt8),(111:UInt8),(117:UInt8),(110:UInt8),(100:UInt8)] ))
abbrev askK:Kd:=.pair .str iK
abbrev infoK:Kd:=.pair (.arr 48 (.int .u8)) (.pair (.arr 32 (.int .u8)) (.pair iK iK))
abbrev replyK:Kd:=.pair iK (.pair infoK (.pair linkK (.pair u8K (.pair (.arr 32 (.int .u8)) .str))))
def pso (b:List Int):(ByteArray × Int) × Int:=opq (parseO b)
theorem pcs_le:∀ (l:List UInt8),∀ p∈pcs l,p.length<=l.length:=by
 intro l
 induction l with
 | nil=>intro p hp;rw[pcs,List.mem_singleton] at hp;subst hp;exact Nat.le_refl _
 | cons c r ih =>
  intro p hp
  by_cases h:c=32
  ·rw[pcs,if_pos h] at hp
   rcases List.mem_cons.1 hp with rfl|hp
   ·exact Nat.zero_le _
   ·exact Nat.le_succ_of_le (ih p hp)
  ·cases e:pcs r with
   | nil=>exact absurd e (pcs_ne r)
   | cons q qs =>
    rw[pcs_cons h r e] at hp
    rcases List.mem_cons.1 hp with rfl|hp
    ·exact Nat.succ_le_succ (ih q (by rw[e];exact List.mem_cons_self ..))
    ·exact Nat.le_succ_of_le (ih p (by rw[e];exact List.mem_cons_of_mem _ hp))
theorem wds_size (s:ByteArray) (i:Nat):((wds s).getD i ByteArray.empty).size<=s.size:=by
 rw[List.getD_eq_getElem?_getD]
 cases h:(wds s)[i]? with
 | none=>exact Nat.zero_le _
 | some x =>
  have hm:=List.mem_of_getElem? h
  rw[wds] at hm
  obtain⟨p,hp,rfl⟩:=List.mem_map.1 hm
  have h1:=pcs_le _ p hp
  have h2:s.data.toList.length=s.size:=Array.length_toList
  have h3:(bs p).size=p.length:=rfl
  show (bs p).size<=s.size
  omega
theorem i_ne {a:Nat} {b:Int} (h:((a:Int) != b)=true):(a:Int)≠b:=by simpa using h
theorem i_eq {a:Nat} {b:Int} (h:((a:Int) != b)=false):(a:Int)=b:=by simpa using h
theorem qa_A {X:Prop} (W:List ByteArray) (P:(ByteArray × Int) × Int) (hP:P=parseW W) (hW:0<W.length) (h:W.getD 0 ByteArray.empty=sInfo\/W.getD 0 ByteArray.empty=sLatest) :
  (((W.length:Int) != 1)=true->((ByteArray.empty,(0:Int)),(80:Int),())=(P.1,P.2,()))/\(((W.length:Int) != 1)=false->((0:Int)<=0/\(0:Int)<(W.length:Int))/\0<W.length/\(((1:Int)==2)=true->X)/\(((1:Int)==2)=false->((W.getD 0 ByteArray.empty,(0:Int)),(0:Int),())=(P.1,P.2,()))):=by
 subst hP
 rw[parseW,if_pos h]
 refine⟨fun e=>?_,fun e=>⟨⟨Int.le_refl _,by omega⟩,hW,fun e=>(nomatch e),fun _=>?_⟩⟩
 ·have:=i_ne e
  rw[if_neg (by omega)];rfl
 ·have:=i_eq e
  rw[if_pos (by omega)]
theorem qa_B {Y:Prop} (W:List ByteArray) (P:(ByteArray × Int) × Int) (hP:P=parseW W) (hW:0<W.length) (hs:(W.getD 1 ByteArray.empty).size<=1048576) (h:¬ (W.getD 0 ByteArray.empty=sInfo\/W.getD 0 ByteArray.empty=sLatest)) (hr:W.getD 0 ByteArray.empty=sRound) :
  (((W.length:Int) != 2)=true->((ByteArray.empty,(0:Int)),(80:Int),())=(P.1,P.2,()))/\(((W.length:Int) != 2)=false->((0:Int)<=0/\(0:Int)<(W.length:Int))/\0<W.length /\
   (((2:Int)==2)=true->((0:Int)<=1/\(1:Int)<(W.length:Int))/\1<W.length/\(W.getD 1 ByteArray.empty).size<=1048576/\((!(numP (W.getD 1 ByteArray.empty)).2)=true->((ByteArray.empty,(0:Int)),(82:Int),())=(P.1,P.2,())) /\
    ((!(numP (W.getD 1 ByteArray.empty)).2)=false->(((numP (W.getD 1 ByteArray.empty)).1==0)=true->((ByteArray.empty,(0:Int)),(82:Int),())=(P.1,P.2,()))/\(((numP (W.getD 1 ByteArray.empty)).1==0)=false->((W.getD 0 ByteArray.empty,(numP (W.getD 1 ByteArray.empty)).1),(0:Int),())=(P.1,P.2,())))) /\
   (((2:Int)==2)=false->Y)):=by
 subst hP
 rw[parseW,if_neg h,if_pos hr]
 refine⟨fun e=>?_,fun e=>⟨⟨Int.le_refl _,by omega⟩,hW,fun _=>?_,fun e=>(nomatch e)⟩⟩
 ·have:=i_ne e
  rw[if_neg (by omega)];rfl
 ·have:=i_eq e
  rw[if_pos (show W.length=2 by omega)]
  refine⟨⟨by omega,by omega⟩,by omega,hs,?_⟩
  cases hn:numO (sbytes (W.getD 1 ByteArray.empty)) with
  | none =>
   rw[numP_none hn]
   exact⟨fun _=>rfl,fun e=>(nomatch e)⟩
  | some n =>
   rw[numP_some hn]
   refine⟨fun e=>(nomatch e),fun _=>⟨fun e=>?_,fun e=>?_⟩⟩
   ·have e:n=0:=eq_of_beq e
    dsimp only
    rw[if_pos e];rfl
   ·have e:n≠0:=fun q=>by subst q;cases e
    dsimp only
    rw[if_neg e]
theorem str_size (b:List Int):(strOfNums b).size=b.length:=strOfNums_size b
theorem ent_parse:enters Tryz.prog 10 Tryz.f10:=ek
theorem fn_parse:FnOk Tryz.prog 10 [u8K] [.val askK,.val iK] noG (fun _=>True) (fun (b,_)=>((pso b).1,(pso b).2,())):=by
 refine fn_of_vc (sp:=sps [spSplit,spNum]) (spk (fok fn_split) (spk (fok fn_num) snl)) mixed ent_parse (by decide) (by decide) ?_
 rintro w M0 ⟨b,⟨⟩⟩
 revert b
 intro (b:List Int) _ _
 refine vcx (X:=((decide ((↑b.length:Int)>(128:Int))=true->((ByteArray.empty,(0:Int)),(81:Int),())=((pso b).fst,(pso b).snd,()))/\(decide ((↑b.length:Int)>(128:Int))=false->((ByteArray.mk (#[(32:UInt8)] ))=sBlank/\(strOfNums b).size<=(1048576:Nat))/\((0:Int)<=(0:Int)/\(0:Int)<(↑(wds (strOfNums b)).length:Int))/\(0:Nat)<(wds (strOfNums b)).length/\(decide ((wds (strOfNums b)).getD (0:Nat) ByteArray.empty=balQa1)=true->(decide ((wds (strOfNums b)).getD (0:Nat) ByteArray.empty=balQa1)=true->(((↑(wds (strOfNums b)).length:Int) != (1:Int))=true->((ByteArray.empty,(0:Int)),(80:Int),())=((pso b).fst,(pso b).snd,()))/\(((↑(wds (strOfNums b)).length:Int) != (1:Int))=false->((0:Int)<=(0:Int)/\(0:Int)<(↑(wds (strOfNums b)).length:Int))/\(0:Nat)<(wds (strOfNums b)).length/\(((1:Int)==(2:Int))=true->((0:Int)<=(1:Int)/\(1:Int)<(↑(wds (strOfNums b)).length:Int))/\(1:Nat)<(wds (strOfNums b)).length/\((wds (strOfNums b)).getD (1:Nat) ByteArray.empty).size<=(1048576:Nat)/\((!(numP ((wds (strOfNums b)).getD (1:Nat) ByteArray.empty)).snd)=true->((ByteArray.empty,(0:Int)),(82:Int),())=((pso b).fst,(pso b).snd,()))/\((!(numP ((wds (strOfNums b)).getD (1:Nat) ByteArray.empty)).snd)=false->(((numP ((wds (strOfNums b)).getD (1:Nat) ByteArray.empty)).fst==(0:Int))=true->((ByteArray.empty,(0:Int)),(82:Int),())=((pso b).fst,(pso b).snd,()))/\(((numP ((wds (strOfNums b)).getD (1:Nat) ByteArray.empty)).fst==(0:Int))=false->(((wds (strOfNums b)).getD (0:Nat) ByteArray.empty,(numP ((wds (strOfNums b)).getD (1:Nat) ByteArray.empty)).fst),(0:Int),())=((pso b).fst,(pso b).snd,()))))/\(((1:Int)==(2:Int))=false->(((wds (strOfNums b)).getD (0:Nat) ByteArray.empty,(0:Int)),(0:Int),())=((pso b).fst,(pso b).snd,()))))/\(decide ((wds (strOfNums b)).getD (0:Nat) ByteArray.empty=balQa1)=false->(decide ((wds (strOfNums b)).getD (0:Nat) ByteArray.empty=balQa3)=true->(((↑(wds (strOfNums b)).length:Int) != (2:Int))=true->((ByteArray.empty,(0:Int)),(80:Int),())=((pso b).fst,(pso b).snd,()))/\(((↑(wds (strOfNums b)).length:Int) != (2:Int))=false->((0:Int)<=(0:Int)/\(0:Int)<(↑(wds (strOfNums b)).length:Int))/\(0:Nat)<(wds (strOfNums b)).length/\(((2:Int)==(2:Int))=true->((0:Int)<=(1:Int)/\(1:Int)<(↑(wds (strOfNums b)).length:Int))/\(1:Nat)<(wds (strOfNums b)).length/\((wds (strOfNums b)).getD (1:Nat) ByteArray.empty).size<=(1048576:Nat)/\((!(numP ((wds (strOfNums b)).getD (1:Nat) ByteArray.empty)).snd)=true->((ByteArray.empty,(0:Int)),(82:Int),())=((pso b).fst,(pso b).snd,()))/\((!(numP ((wds (strOfNums b)).getD (1:Nat) ByteArray.empty)).snd)=false->(((numP ((wds (strOfNums b)).getD (1:Nat) ByteArray.empty)).fst==(0:Int))=true->((ByteArray.empty,(0:Int)),(82:Int),())=((pso b).fst,(pso b).snd,()))/\(((numP ((wds (strOfNums b)).getD (1:Nat) ByteArray.empty)).fst==(0:Int))=false->(((wds (strOfNums b)).getD (0:Nat) ByteArray.empty,(numP ((wds (strOfNums b)).getD (1:Nat) ByteArray.empty)).fst),(0:Int),())=((pso b).fst,(pso b).snd,()))))/\(((2:Int)==(2:Int))=false->(((wds (strOfNums b)).getD (0:Nat) ByteArray.empty,(0:Int)),(0:Int),())=((pso b).fst,(pso b).snd,()))))/\(decide ((wds (strOfNums b)).getD (0:Nat) ByteArray.empty=balQa3)=false->((ByteArray.empty,(0:Int)),(83:Int),())=((pso b).fst,(pso b).snd,()))))/\(decide ((wds (strOfNums b)).getD (0:Nat) ByteArray.empty=balQa1)=false->(decide ((wds (strOfNums b)).getD (0:Nat) ByteArray.empty=balQa2)=true->(((↑(wds (strOfNums b)).length:Int) != (1:Int))=true->((ByteArray.empty,(0:Int)),(80:Int),())=((pso b).fst,(pso b).snd,()))/\(((↑(wds (strOfNums b)).length:Int) != (1:Int))=false->((0:Int)<=(0:Int)/\(0:Int)<(↑(wds (strOfNums b)).length:Int))/\(0:Nat)<(wds (strOfNums b)).length/\(((1:Int)==(2:Int))=true->((0:Int)<=(1:Int)/\(1:Int)<(↑(wds (strOfNums b)).length:Int))/\(1:Nat)<(wds (strOfNums b)).length/\((wds (strOfNums b)).getD (1:Nat) ByteArray.empty).size<=(1048576:Nat)/\((!(numP ((wds (strOfNums b)).getD (1:Nat) ByteArray.empty)).snd)=true->((ByteArray.empty,(0:Int)),(82:Int),())=((pso b).fst,(pso b).snd,()))/\((!(numP ((wds (strOfNums b)).getD (1:Nat) ByteArray.empty)).snd)=false->(((numP ((wds (strOfNums b)).getD (1:Nat) ByteArray.empty)).fst==(0:Int))=true->((ByteArray.empty,(0:Int)),(82:Int),())=((pso b).fst,(pso b).snd,()))/\(((numP ((wds (strOfNums b)).getD (1:Nat) ByteArray.empty)).fst==(0:Int))=false->(((wds (strOfNums b)).getD (0:Nat) ByteArray.empty,(numP ((wds (strOfNums b)).getD (1:Nat) ByteArray.empty)).fst),(0:Int),())=((pso b).fst,(pso b).snd,()))))/\(((1:Int)==(2:Int))=false->(((wds (strOfNums b)).getD (0:Nat) ByteArray.empty,(0:Int)),(0:Int),())=((pso b).fst,(pso b).snd,()))))/\(decide ((wds (strOfNums b)).getD (0:Nat) ByteArray.empty=balQa2)=false->(decide ((wds (strOfNums b)).getD (0:Nat) ByteArray.empty=balQa3)=true->(((↑(wds (strOfNums b)).length:Int) != (2:Int))=true->((ByteArray.empty,(0:Int)),(80:Int),())=((pso b).fst,(pso b).snd,()))/\(((↑(wds (strOfNums b)).length:Int) != (2:Int))=false->((0:Int)<=(0:Int)/\(0:Int)<(↑(wds (strOfNums b)).length:Int))/\(0:Nat)<(wds (strOfNums b)).length/\(((2:Int)==(2:Int))=true->((0:Int)<=(1:Int)/\(1:Int)<(↑(wds (strOfNums b)).length:Int))/\(1:Nat)<(wds (strOfNums b)).length/\((wds (strOfNums b)).getD (1:Nat) ByteArray.empty).size<=(1048576:Nat)/\((!(numP ((wds (strOfNums b)).getD (1:Nat) ByteArray.empty)).snd)=true->((ByteArray.empty,(0:Int)),(82:Int),())=((pso b).fst,(pso b).snd,()))/\((!(numP ((wds (strOfNums b)).getD (1:Nat) ByteArray.empty)).snd)=false->(((numP ((wds (strOfNums b)).getD (1:Nat) ByteArray.empty)).fst==(0:Int))=true->((ByteArray.empty,(0:Int)),(82:Int),())=((pso b).fst,(pso b).snd,()))/\(((numP ((wds (strOfNums b)).getD (1:Nat) ByteArray.empty)).fst==(0:Int))=false->(((wds (strOfNums b)).getD (0:Nat) ByteArray.empty,(numP ((wds (strOfNums b)).getD (1:Nat) ByteArray.empty)).fst),(0:Int),())=((pso b).fst,(pso b).snd,()))))/\(((2:Int)==(2:Int))=false->(((wds (strOfNums b)).getD (0:Nat) ByteArray.empty,(0:Int)),(0:Int),())=((pso b).fst,(pso b).snd,()))))/\(decide ((wds (strOfNums b)).getD (0:Nat) ByteArray.empty=balQa3)=false->((ByteArray.empty,(0:Int)),(83:Int),())=((pso b).fst,(pso b).snd,()))))))) (by kernel_rfl) ?_
 have key:b.length<=128->pso b=parseW (wds (strOfNums b)):=fun h=>by rw[pso,opq_eq,parseO,if_neg (by omega)]
 have hW:=wds_pos (strOfNums b)
 refine⟨fun h=>?_,fun h=>?_⟩
 ·have h:=of_decide_eq_true h
  rw[pso,opq_eq,parseO,if_pos (by omega)];rfl
 ·have h:=of_decide_eq_false h
  have hb:b.length<=128:=by omega
  have hs:=wds_size (strOfNums b) 1
  rw[str_size] at hs ⊢
  have hP:=key hb
  refine⟨⟨rfl,by omega⟩,⟨Int.le_refl _,by omega⟩,hW,fun hi=>⟨fun _=>qa_A _ _ hP hW (.inl (of_decide_eq_true hi)),fun hi'=>absurd (hi.symm.trans hi') (by decide)⟩,fun hi=>⟨fun hl=>qa_A _ _ hP hW (.inr (of_decide_eq_true hl)),fun hl=>⟨fun hr=>qa_B _ _ hP hW (by omega) (fun q=>q.elim (of_decide_eq_false hi) (of_decide_eq_false hl)) (of_decide_eq_true hr),fun hr=>?_⟩⟩⟩
  rw[hP,parseW,if_neg (fun q=>q.elim (of_decide_eq_false hi) (of_decide_eq_false hl)),if_neg (show ¬ _=sRound from of_decide_eq_false hr)]
  rfl
def spParse:Nat × Eng.Spec:=(10,fnSpec [u8K] [.val askK,.val iK] (fun _=>True) (fun (b,_)=>((pso b).1,(pso b).2,())))
def sErr:ByteArray:=⟨#[101,114,114,111,114]⟩
def wrO (e:Int):List Int:=opq (sbytes (jnO [sErr,itO e] sBlank))
theorem jn_eq (e:Int):Lib.join (List.map (fun x=>x.data.toList) [sErr,itO e]) sBlank.data.toList=sErr.data.toList++(sBlank.data.toList++Lib.decDigits e.toNat):=by
 show sErr.data.toList++(sBlank.data.toList++(Lib.decDigits e.toNat++[]))=_
 rw[List.append_nil]
theorem jn_ok {e:Int} (h0:0<e) (h1:e<100):joinP [sErr,itO e] sBlank:=by
 have hl:(Lib.decDigits e.toNat).length<=2:=by
  by_cases h:e.toNat<10
  ·rw[Lib.decDigits_one h];exact (by decide:1<=2)
  ·rw[Lib.decDigits_two h (by omega)];exact Nat.le_refl _
 refine⟨⟨Nat.zero_lt_succ _,Nat.le_of_ble_eq_true rfl⟩,?_⟩
 rw[jn_eq,List.length_append,List.length_append]
 have h5:sErr.data.toList.length=5:=rfl
 have h1:sBlank.data.toList.length=1:=rfl
 omega
abbrev preWr:HL [replyK]->Prop:=fun ((e,_),_)=>0<(e:Int)/\(e:Int)<100
theorem ent_write:enters Tryz.prog 21 Tryz.f21:=ek
theorem fn_write:FnOk Tryz.prog 21 [replyK] [.own (.int .u8)] noG preWr (fun ((e,_),_)=>(wrO e,())):=by
 refine fn_of_vc (sp:=sps [spItoa,spJoin]) (spk (fok fn_itoa) (spk (fok fn_join) snl)) mixed ent_write (by decide) (by decide) ?_
 rintro w M0 ⟨⟨e,i,l,p,r,v⟩,⟨⟩⟩
 revert e i l p r v
 intro (e:Int) i l (p:List Int) (r:List Int) (v:ByteArray) _ hp
 have hp:0<e/\e<100:=hp
 refine vcx (X:=(((e != (0:Int))=true->((0:Int)<=e/\e<(100:Int))/\0+2<=2/\preJoin (List.take 2 [balQa0,itO e],(ByteArray.mk (#[(32:UInt8)] )),())/\(0:Nat)+(jnO (List.take 2 [balQa0,itO e]) (ByteArray.mk (#[(32:UInt8)] ))).size<=(jnO (List.take 2 [balQa0,itO e]) (ByteArray.mk (#[(32:UInt8)] ))).size/\(List.take (jnO (List.take 2 [balQa0,itO e]) (ByteArray.mk (#[(32:UInt8)] ))).size (sbytes (jnO (List.take 2 [balQa0,itO e]) (ByteArray.mk (#[(32:UInt8)] )))),())=(wrO e,()))/\((e != (0:Int))=false->(decide (v=balQa1)=true->False)/\(decide (v=balQa1)=false->((0:Int)<=l.fst/\l.fst<(100:Int))/\False)))) (by kernel_rfl) ?_
 refine⟨fun _=>⟨⟨by omega,hp.2⟩,Nat.le_refl _,jn_ok hp.1 hp.2,by omega,?_⟩,fun h=>?_⟩
 ·rw[List.take_of_length_le (by rw[sbytes_len];exact Nat.le_refl _),wrO,opq_eq]
  rfl
 ·have h:e=0:=by simpa using h
  omega
def spWrite:Nat × Eng.Spec:=(21,fnSpec [replyK] [.own (.int .u8)] preWr (fun ((e,_),_)=>(wrO e,())))
theorem pw_rng (W:List ByteArray):0<=(parseW W).2/\(parseW W).2<84:=by
 have a:∀ x:ByteArray × Int,∀ n:Int,0<=n->n<84->0<=(x,n).2/\(x,n).2<84:=fun x n h0 h1=>⟨h0,h1⟩
 unfold parseW
 split
 ·split
  ·exact a _ _ (by omega) (by omega)
  ·exact a _ _ (by omega) (by omega)
 ·split
  ·split
   ·split
    ·exact a _ _ (by omega) (by omega)
    ·split
     ·exact a _ _ (by omega) (by omega)
     ·exact a _ _ (by omega) (by omega)
   ·exact a _ _ (by omega) (by omega)
  ·exact a _ _ (by omega) (by omega)
theorem pso_rng (b:List Int):0<=(pso b).2/\(pso b).2<84:=by
 rw[pso,opq_eq]
 unfold parseO
 split
 ·exact⟨by show (0:Int)<=81;omega,by show (81:Int)<84;omega⟩
 ·exact pw_rng _
def ansO (b:List Int):Int:=if (pso b).2=0 then 41 else (pso b).2
abbrev preAns:HL [infoK,.ptr chainK,u8K]->Prop:=fun (_,(_,ls,_),b,_)=>List.length ls=0/\((pso b).1.1≠sInfo\/(pso b).2≠0)
theorem ent_ans:enters Tryz.prog 6 Tryz.f6:=ek
theorem fn_ans:FnOk Tryz.prog 6 [infoK,.ptr chainK,u8K] [.own (.int .u8)] noG preAns (fun (_,_,b,_)=>(wrO (ansO b),())):=by
 refine fn_of_vc (sp:=sps [spParse,spWrite,spLast,spCget]) (spk (fok fn_parse) (spk (fok fn_write) (spk (fok fn_last) (spk (fok fn_cget) snl)))) mixed ent_ans (by decide) (by decide) ?_
 rintro w M0 ⟨⟨k,s,g,pe⟩,⟨p,ls,d⟩,b,⟨⟩⟩
 revert k s g pe p ls d b
 intro (k:List Int) (s:List Int) (g:Int) (pe:Int) (p:Bool) (ls:List (Int × List Int)) (d:Bool) (b:List Int) _ hp
 obtain⟨hl,hi⟩:=hp
 have hl:ls.length=0:=hl
 have hi:(pso b).1.1≠sInfo\/(pso b).2≠0:=hi
 obtain⟨r0,r1⟩:=pso_rng b
 refine vcx (X:=(True/\(((pso b).snd != (0:Int))=true->preWr (((pso b).snd,(List.replicate (48:Nat) (0:Int),List.replicate (32:Nat) (0:Int),(0:Int),(0:Int)),((0:Int),List.replicate (96:Nat) (0:Int)),[],List.replicate (32:Nat) (0:Int),ByteArray.empty),())/\(0:Nat)+(wrO (pso b).snd).length<=(wrO (pso b).snd).length/\(List.take (wrO (pso b).snd).length (wrO (pso b).snd),())=(wrO (ansO b),()))/\(((pso b).snd != (0:Int))=false->(decide ((pso b).fst.fst=balQa1)=true->preWr (((0:Int),(k,s,g,pe),((0:Int),List.replicate (96:Nat) (0:Int)),[],List.replicate (32:Nat) (0:Int),balQa1),())/\(0:Nat)+(wrO (0:Int)).length<=(wrO (0:Int)).length/\(List.take (wrO (0:Int)).length (wrO (0:Int)),())=(wrO (ansO b),()))/\(decide ((pso b).fst.fst=balQa1)=false->(decide ((pso b).fst.fst=balQa2)=true->True/\preGet ((p,ls,d),(↑ls.length:Int),())/\((!false)=true->preWr (((41:Int),(List.replicate (48:Nat) (0:Int),List.replicate (32:Nat) (0:Int),(0:Int),(0:Int)),((0:Int),List.replicate (96:Nat) (0:Int)),[],List.replicate (32:Nat) (0:Int),ByteArray.empty),())/\(0:Nat)+(wrO (41:Int)).length<=(wrO (41:Int)).length/\(List.take (wrO (41:Int)).length (wrO (41:Int)),())=(wrO (ansO b),()))/\((!false)=false->preGet ((p,ls,d),IntKind.i64.wrap ((↑ls.length:Int)-(1:Int)),())/\False))/\(decide ((pso b).fst.fst=balQa2)=false->preGet ((p,ls,d),(pso b).fst.snd,())/\((!false)=true->preWr (((41:Int),(List.replicate (48:Nat) (0:Int),List.replicate (32:Nat) (0:Int),(0:Int),(0:Int)),((0:Int),List.replicate (96:Nat) (0:Int)),[],List.replicate (32:Nat) (0:Int),ByteArray.empty),())/\(0:Nat)+(wrO (41:Int)).length<=(wrO (41:Int)).length/\(List.take (wrO (41:Int)).length (wrO (41:Int)),())=(wrO (ansO b),()))/\((!false)=false->preGet ((p,ls,d),IntKind.i64.wrap ((pso b).fst.snd-(1:Int)),())/\False)))))) (by kernel_rfl) ?_
 have e41:(pso b).2=0->ansO b=41:=fun h=>by rw[ansO,if_pos h]
 have fin:(pso b).2=0->(0:Nat)+(wrO 41).length<=(wrO 41).length/\(List.take (wrO 41).length (wrO 41),())=(wrO (ansO b),()):=fun h=>⟨by omega,by rw[List.take_length,e41 h]⟩
 refine⟨trivial,fun h=>?_,fun h=>?_⟩
 ·have h:(pso b).2≠0:=by simpa using h
  have e:ansO b=(pso b).2:=by rw[ansO,if_neg h]
  exact⟨⟨by show 0<(pso b).2;omega,by show (pso b).2<100;omega⟩,by omega,by rw[List.take_length,e]⟩
 ·have h:(pso b).2=0:=by simpa using h
  refine⟨fun hq=>?_,fun _=>⟨fun _=>⟨trivial,?_,fun _=>⟨⟨by show (0:Int)<41;omega,by show (41:Int)<100;omega⟩,fin h⟩,fun e=>(nomatch e)⟩,fun _=>⟨?_,fun _=>⟨⟨by show (0:Int)<41;omega,by show (41:Int)<100;omega⟩,fin h⟩,fun e=>(nomatch e)⟩⟩⟩
  ·exact (hi.elim (fun q=>q (of_decide_eq_true hq)) (fun q=>q h)).elim
  ·exact .inl (by show (ls.length:Int)<1;omega)
  ·show (pso b).1.2<1\/(pso b).1.2>(ls.length:Int)
   omega
def spAns:Nat × Eng.Spec:=(6,fnSpec [infoK,.ptr chainK,u8K] [.own (.int .u8)] preAns (fun (_,_,b,_)=>(wrO (ansO b),())))
end
end Go.Proofs.YteldhmehjkhanaaGreatDoor.qry
namespace Go.Proofs.YteldhmehjkhanaaGreatDoor.hx
open Go Go.RowKit
set_option maxHeartbeats 1000000
theorem szB:(Tryz.prog.info? 136).map (·.size)=some 2:=by kernel_rfl
theorem liesB:liesAt Tryz.prog Tryz.prog.depth 136 (2/Tryz.prog.cellsOf 136) 0 136 1=true:=by kernel_rfl
theorem inf5:(Tryz.prog.info? 5).map (fun i=>(i.zero,i.size,i.bytes))=some (some (.int .u8 0),1,1):=by kernel_rfl
theorem cc_used (b:Nat) (w:World) (h0:w.cell? ⟨b,0,none⟩=some (.pointer (some ⟨b,0,none⟩))) :
  Calls Tryz.prog 107 #[.pointer (some ⟨b,0,none⟩)] w fun e w'=>e=.returned (.tuple #[])/\w'=w:=by
 obtain⟨j,hj,_⟩:=Option.map_eq_some_iff.1 szB
 go_enter Tryz.func107,Tryz.ntmps107
 go_wp2
 rw[Lib.run_neq_ptr_same w _ Tryz.underlying134 hj]
 go_wp2
 go_end0
 exact⟨rfl,rfl⟩
theorem cc_fresh (b:Nat) (w:World) (h0:w.cell? ⟨b,0,none⟩=some (.pointer none)) (hsh:w.shape? b=some (136,2)) (hfz:w.frozen? ⟨b,0,none⟩=false) :
  Calls Tryz.prog 107 #[.pointer (some ⟨b,0,none⟩)] w fun e w'=>e=.returned (.tuple #[])/\w'=w.setCell ⟨b,0,none⟩ (.pointer (some ⟨b,0,none⟩)):=by
 obtain⟨j,hj,hjs⟩:=Option.map_eq_some_iff.1 szB
 go_enter Tryz.func107,Tryz.ntmps107
 go_wp2
 rw[Lib.run_to_unsafe w ⟨b,0,none⟩ Tryz.underlying134 Tryz.underlying207 hj (by rw[hjs];decide) hsh (Nat.zero_lt_succ 1)]
 simp only[Result.andThen]
 rw[Oper.upon_value]
 go_wp2
 rw[run_callFunc_extern Tryz.func149 (by kernel_rfl) (by kernel_rfl) (by kernel_rfl) (e:=Extern.AbiNoEscape.same) (by kernel_rfl)]
 rw[Lib.run_noEscape]
 simp only[Result.andThen]
 rw[Oper.upon_value]
 go_wp2
 rw[Lib.run_from_unsafe w ⟨b,0,none⟩ Tryz.underlying207 Tryz.underlying134 hj hsh liesB]
 simp only[Result.andThen]
 rw[Oper.upon_value]
 go_wp2
 go_end0
 exact⟨rfl,rfl⟩
theorem cc_any (B b:Nat) (bs:List Value) (w:World) (h:Lib.IsBuilder 136 5 B b bs w) :
  Calls Tryz.prog 107 #[.pointer (some ⟨b,0,none⟩)] w fun e w'=>e=.returned (.tuple #[])/\(Lib.BuilderAt 136 5 B b (.pointer (some ⟨b,0,none⟩)) bs w'/\Below B w w'):=by
 rcases h with h|h
 ·refine (cc_fresh b w h.cell0 h.shape h.frozen0).mono ?_
  rintro e w' ⟨rfl,rfl⟩
  exact⟨rfl,h.used _,(Below.refl B w).setCell (p:=⟨b,0,none⟩) h.1 _⟩
 ·refine (cc_used b w h.cell0).mono ?_
  rintro e w' ⟨rfl,rfl⟩
  exact⟨rfl,h,Below.refl B _⟩
theorem wb_any (B b:Nat) (bs:List Value) (c:Int) (w:World) (h:Lib.IsBuilder 136 5 B b bs w) (hlen:bs.length+1<=140737488355328) (hBw:B<=w.heap.size) :
  Calls Tryz.prog 77 #[.pointer (some ⟨b,0,none⟩),.int .u8 c] w fun e w'=>e=.returned .nilIface/\(Lib.BuilderAt 136 5 B b (.pointer (some ⟨b,0,none⟩)) (bs++[.int .u8 c]) w'/\Below B w w'):=by
 obtain⟨i0,hi,hz0,hz1,hz2⟩:=info_parts inf5
 go_enter Tryz.func77,Tryz.ntmps77
 go_wp2_with (go_at_call 107;refine (cc_any B b bs _ h).mono ?_)
 rintro e w1 ⟨rfl,⟨hB,v,hbk,hown,hne⟩,hb1⟩
 have hs1:=hb1.size
 have c0:w1.cell? ⟨b,0,none⟩=some (.pointer (some ⟨b,0,none⟩)):=by rw[Lib.cell_of_heap hbk];rfl
 have c1:w1.cell? ⟨b,1,none⟩=some v:=by rw[Lib.cell_of_heap hbk];rfl
 go_wp2_with (at_builtin;refine wpList_append_own _ rfl _ _ 22 rfl B 5 i0 (.int .u8 0) 1 1 Tryz.underlying22 hi hz0 hz1 hz2 rfl (by decide) _ _ _ rfl (hown.alloc _) ⟨w1.heap.size,0,none⟩ 1 1 [.int .u8 c] rfl rfl ?c1 ?c2 ?c3 ?c4 ?c5 ?_)
 case c1 =>
  intro j u hj
  match j,hj with
  | 0,hj=>simp at hj;subst hj;simp[Addr.add]
 case c2=>intro u hu;simp at hu;subst hu;rfl
 case c3=>unfold maxLen;omega
 case c4=>omega
 case c5=>simp;omega
 intro v' w2 hown' hgrow _
 have hlt:b<w1.heap.size:=by
  rcases Nat.lt_or_ge b w1.heap.size with h'|h'
  ·exact h'
  ·simp[Array.getElem?_eq_none h'] at hbk
 have hb2:w2.heap[b]?=some (.cells #[.pointer (some ⟨b,0,none⟩),v] 136 (0,0)):=by
  rw[hgrow.block b (by simp;omega) (fun e=>hne e.symm),Lib.alloc_old w1 _ b hlt]
  exact hbk
 have d0:w2.cell? ⟨b,0,none⟩=some (.pointer (some ⟨b,0,none⟩)):=by rw[Lib.cell_of_heap hb2];rfl
 have d1:w2.cell? ⟨b,1,none⟩=some v:=by rw[Lib.cell_of_heap hb2];rfl
 have f1:w2.frozen? ⟨b,1,none⟩=false:=Lib.frozen_of_heap hb2 1
 obtain⟨g,cap,rfl⟩:∃ g cap,v'=.slice (some ⟨g,0,none⟩) (bs.length+1) cap:=by
  rcases hown'.2 with ⟨_,h0⟩|⟨g,cap,cur,hv,_⟩
  ·omega
  ·exact⟨g,cap,hv⟩
 go_wp2
 go_ret
 refine⟨rfl,Lib.BuilderAt.put (T:=136) (e:=5) hB hb2 (bs':=bs++[.int .u8 c]) (by simpa using hown') (by decide),?_⟩
 exact ((hb1.alloc (by omega) _).grown hgrow (by simp;omega) (fun k hk=>(hown.lt k hk).1)).setCell (p:=⟨b,1,none⟩) hB _
end Go.Proofs.YteldhmehjkhanaaGreatDoor.hx
namespace Go.Proofs.YteldhmehjkhanaaGreatDoor.hx
open Go Go.RowKit
set_option maxHeartbeats 1000000
def dgs:List UInt8:=[48,49,50,51,52,53,54,55,56,57,97,98,99,100,101,102]
def hexL (xs:List Int):List UInt8:=xs.flatMap fun x=>[dgs.getD (x/16).toNat 0,dgs.getD (x%16).toNat 0]
theorem hexL_take (xs:List Int) (k:Nat) (h:k<xs.length):hexL (xs.take (k+1))=hexL (xs.take k)++[dgs.getD (xs.getD k 0/16).toNat 0,dgs.getD (xs.getD k 0%16).toNat 0]:=by
 have e:xs.take (k+1)=xs.take k++[xs.getD k 0]:=by
  rw[List.take_add_one,List.getElem?_eq_getElem h,List.getD_eq_getElem?_getD,List.getElem?_eq_getElem h];rfl
 rw[e]
 unfold hexL
 rw[List.flatMap_append]
 simp
theorem hexL_len (xs:List Int):(hexL xs).length=2*xs.length:=by
 induction xs with
 | nil=>rfl
 | cons x xs ih =>
  show (_++hexL xs).length=_
  rw[List.length_append,ih];simp;omega
theorem cells_app (l:List UInt8) (d:UInt8):Lib.byteCells l++[.int .u8 (d.toNat:Int)]=Lib.byteCells (l++[d]):=by
 rw[Lib.byteCells_append];rfl
theorem dg_get (i:Nat) (h:i<16):((⟨#[48,49,50,51,52,53,54,55,56,57,97,98,99,100,101,102]⟩:ByteArray)[i]'h)=dgs.getD i 0:=by
 match i,h with
 | 0,_|1,_|2,_|3,_|4,_|5,_|6,_|7,_|8,_|9,_|10,_|11,_|12,_|13,_|14,_|15,_=>rfl
 | n+16,h=>exact absurd h (by omega)
theorem Tryz.Builder_String_any' (B b:Nat) (l:List UInt8) (w:World) (h:Lib.IsBuilder 136 5 B b (Lib.byteCells l) w) (hBw:B<=w.heap.size) :
  Calls Tryz.prog 78 #[.pointer (some ⟨b,0,none⟩)] w fun e w'=>e=.returned (.string ⟨l.toArray⟩)/\Below B w w':=Any.Builder_String_any Tryz.lays169 Tryz.Builder_Extra_169 B b l w h hBw
theorem hex_any (b o n c:Nat) (xs:List Int) (w:World) (hn:xs.length=n) (hx:∀ i,i<n->0<=xs.getD i 0/\xs.getD i 0<256) (hc:∀ i,i<n->w.cell? ⟨b,o+i,none⟩=some (.int .u8 (xs.getD i 0))) (hb:b<w.heap.size) (hlen:n<=1000000) :
  Calls Tryz.prog 49 #[.slice (some ⟨b,o,none⟩) n c] w fun e w'=>e=.returned (.string ⟨(hexL xs).toArray⟩)/\Below w.heap.size w w':=by
 have h0:Lib.IsBuilder 136 5 w.heap.size w.heap.size [] (w.alloc (.cells #[.pointer none,.slice none 0 0] 136)):=Lib.fresh_isBuilder 136 5 w
 have b0:Below w.heap.size w (w.alloc (.cells #[.pointer none,.slice none 0 0] 136)):=(Below.refl _ w).alloc (Nat.le_refl _) _
 have H0:Hid (Lib.IsBuilder 136 5 w.heap.size w.heap.size (Lib.byteCells (hexL (xs.take 0))) (w.alloc (.cells #[.pointer none,.slice none 0 0] 136))):=h0
 have B0:Hid (Below w.heap.size w (w.alloc (.cells #[.pointer none,.slice none 0 0] 136))):=b0
 clear h0 b0
 go_enter Tryz.func49,Tryz.ntmps49
 go_wp2
 go_loopw [8] (fun i wr=>∃ k:Nat,k<=n/\i=.int .i64 k/\Hid (Lib.IsBuilder 136 5 w.heap.size w.heap.size (Lib.byteCells (hexL (xs.take k))) wr)/\Hid (Below w.heap.size w wr)) (fun i _=>n-(intOf i).toNat)
 case atStart=>exact⟨0,Nat.zero_le _,rfl,H0,B0⟩
 case round =>
  obtain⟨k,hk,rfl,HB,HW⟩:=hrel
  by_cases hkn:k<n
  ·have hck:wr.cell? ⟨b,o+k,none⟩=some (.int .u8 (xs.getD k 0)):=by
    rw[HW.out.cell (p:=⟨b,o+k,none⟩) hb];exact hc k hkn
   have hr:=hx k hkn
   have hbs:w.heap.size<=wr.heap.size:=HW.out.size
   have hl:=hexL_len (xs.take k)
   have hl2:(Lib.byteCells (hexL (xs.take k))).length=2*k:=by rw[Lib.byteCells_length,hl,List.length_take];omega
   have ht:=hexL_take xs k (by omega)
   generalize hex:xs.getD k 0=x at *
   go_wp2_with fail
   refine (wb_any w.heap.size w.heap.size _ _ wr HB.out (by rw[hl2];omega) hbs).mono ?_
   rintro e w3 ⟨rfl,h3,hb3⟩
   rw[dg_get (x/16).toNat (by omega),cells_app] at h3
   have H3:=Any.hidJ (Or.inr h3:Lib.IsBuilder 136 5 w.heap.size w.heap.size _ w3)
   have Hb3:=Any.hidJ hb3
   have hbs3:w.heap.size<=w3.heap.size:=Nat.le_trans hbs hb3.size
   clear h3 hb3
   go_wp2_with fail
   refine (wb_any w.heap.size w.heap.size _ _ w3 H3.out (by rw[Lib.byteCells_length,List.length_append,hl,List.length_take,List.length_singleton];omega) hbs3).mono ?_
   rintro e w4 ⟨rfl,h4,hb4⟩
   rw[dg_get (x%16).toNat (by omega),cells_app,List.append_assoc] at h4
   have h4':=Any.hidJ (Or.inr h4:Lib.IsBuilder 136 5 w.heap.size w.heap.size _ w4)
   have Hb4:=Any.hidJ ((HW.out.trans Hb3.out).trans hb4)
   have h5:Hid (Lib.IsBuilder 136 5 w.heap.size w.heap.size (Lib.byteCells (hexL (xs.take (k+1)))) w4):=by rw[ht];exact h4'
   clear h4 hb4 h4'
   go_wp2
   exact⟨⟨k+1,by omega,by go_num,h5,Hb4⟩,by simp[intOf];omega⟩
  ·have hke:k=n:=by omega
   subst hke
   have hbs:w.heap.size<=wr.heap.size:=HW.out.size
   have e:xs.take k=xs:=List.take_of_length_le (by omega)
   rw[e] at HB
   go_wp2_with fail
   refine (Tryz.Builder_String_any' w.heap.size w.heap.size _ wr HB.out hbs).mono ?_
   rintro e w5 ⟨rfl,hb5⟩
   have Hb5:=Any.hidJ (HW.out.trans hb5)
   clear hb5
   go_wp2
   go_ret
   exact⟨rfl,Hb5.out⟩
end Go.Proofs.YteldhmehjkhanaaGreatDoor.hx
namespace Go.Proofs.YteldhmehjkhanaaGreatDoor.qry
open Go Go.Eng Go.RowKit Cr Go.Qry
noncomputable def hxO (b:List Int):ByteArray:=opq ⟨(hx.hexL b).toArray⟩
theorem hxO_size (b:List Int):(hxO b).data.toList.length=2*b.length:=by rw[hxO,opq_eq];exact (hx.hexL_len b)
def hexP (b:List Int):Prop:=(0<List.length b/\List.length b<=1000)/\Bs b
abbrev preHex:HL [.sl (.int .u8)]->Prop:=fun (b,_)=>hexP b
theorem ent_hex:enters Tryz.prog 49 Tryz.f49:=ek
theorem fn_hex:FnOk Tryz.prog 49 [.sl (.int .u8)] [.val .str] noG preHex (fun (b,_)=>(hxO b,())):=by
 intro w M us xs hM _
 obtain⟨xs,⟨⟩⟩:=xs
 revert xs
 intro (xs:List Int) hin hp
 obtain⟨⟨p0,p1⟩,p2⟩:=hp
 obtain⟨u,us',rfl,h1,h3⟩:=hin
 have h3:us'=[]:=h3
 subst h3
 have h1:Rd M (.sl (.int .u8)) xs [u]:=h1
 rcases h1 with ⟨h,_⟩|⟨b,o,cap,e,hc,l,hl,hn,hr⟩
 ·have h:xs=[]:=h
  subst h;exact absurd p0 (by decide)
 simp only[List.cons.injEq,and_true] at e
 subst e
 have hr:=RdL_int.1 hr
 have hn:o+xs.length*1<=l.length:=hn
 rw[Nat.mul_one] at hn
 have hr:(l.drop o).take (xs.length*1)=xs.map (Value.int .u8):=hr
 rw[Nat.mul_one] at hr
 have hne:l≠[]:=by intro e;rw[e,List.length_nil] at hn;omega
 obtain⟨el,fr,hh⟩:=memOf_inv (hM _ _ (hl hne))
 rw[objOf_cells hne] at hh
 have hb:b<w.heap.size:=by
  rcases Nat.lt_or_ge b w.heap.size with h'|h'
  ·exact h'
  ·rw[Array.getElem?_eq_none h'] at hh;cases hh
 have hg:∀ i,i<xs.length->xs[i]?=some (xs.getD i 0):=fun i hi=>by
  rw[List.getD_eq_getElem?_getD,List.getElem?_eq_getElem hi];rfl
 refine .inl ⟨ent_hex.2 _ _,(hx.hex_any b o xs.length cap xs w rfl ?_ ?_ hb (by omega)).mono ?_⟩
 ·intro i hi
  exact p2 _ (List.mem_of_getElem? (hg i hi))
 ·intro i hi
  have:=congrArg (fun q:List Value=>q[i]?) hr
  simp only[List.getElem?_take,List.getElem?_drop,List.getElem?_map,hg i hi,if_pos hi,Option.map_some] at this
  simp only[World.cell?,hh]
  simpa using this
 ·rintro e w' ⟨rfl,hw⟩
  refine⟨_,rfl,[.string (hxO xs)],none,?_,⟨_,[],rfl,rfl,rfl⟩,hw⟩
  show Value.string _=Value.string (hxO xs)
  rw[hxO,opq_eq]
noncomputable def spHex:Nat × Eng.Spec:=(49,fnSpec [.sl (.int .u8)] [.val .str] preHex (fun (b,_)=>(hxO b,())))
end Go.Proofs.YteldhmehjkhanaaGreatDoor.qry
namespace Go.Proofs.YteldhmehjkhanaaGreatDoor.qry
noncomputable section
open Go Go.Eng Go.RowKit Cr Go.Qry
def balQc0:ByteArray:=(ByteArray.mk (#[(101:UInt8),(114:UInt8),(114:UInt8),(111:UInt8),(114:UInt8)] ))
def balQc1:ByteArray:=(ByteArray.mk (#[(105:UInt8),(110:UInt8),(102:UInt8),(111:UInt8)] ))
def balQc2:ByteArray:=(ByteArray.mk (#[(108:UInt8),(97:UInt8),(116:UInt8),(101:UInt8),(115:UInt8),(116:UInt8)] ))
def balQc3:ByteArray:=(ByteArray.mk (#[(114:UInt8),(111:UInt8),(117:UInt8),(110:UInt8),(100:UInt8)] ))
theorem ent_bclone:enters Tryz.prog 51 Tryz.f51:=ek
abbrev preBclone:HL [u8K]->Prop:=fun (c,_)=>List.length c<1048576
theorem fn_bclone:FnOk Tryz.prog 51 [u8K] [.own (.int .u8)] noG preBclone (fun (c,_)=>(c,())):=by
 have hsp:SpecsOk Tryz.prog (sps []):=snl
 refine fn_of_trN (sp:=sps []) ent_bclone (by decide) (by decide) (by kernel_rfl) ?_ ?_
 ·rintro w M0 ⟨⟩ _ hp
  show Tr _ _ _ _ _ _ _
  refine tr_vc hsp mixed _ _ ?_
  refine vcx (X:=((([]:List Int),())=(([]:List Int),()))) (by kernel_rfl) rfl
 ·rintro w M0 c ⟨⟩ _ _ hp
  revert c
  intro (c:List Int) _ hp
  have hp:c.length<1048576:=hp
  show Tr _ _ _ _ _ _ _
  refine tr_vc hsp mixed _ _ ?_
  refine vcx (X:=((0:Nat)<=(0:Nat)/\((0:Nat)+c.length)*(1:Nat)<=(140737488355328:Nat)/\(0:Nat)+c.length<=(4611686018427387904:Nat)/\(0:Nat)+((0:Nat)+c.length)<=(0:Nat)+c.length/\(List.take ((0:Nat)+c.length) (List.take 0 []++c),())=(c,()))) (by kernel_rfl) ?_
  rw[List.take_zero,List.nil_append,Nat.zero_add,List.take_length]
  exact⟨Nat.le_refl _,by omega,by omega,by omega,rfl⟩
def spBclone:Nat × Eng.Spec:=(51,fnSpec [u8K] [.own (.int .u8)] preBclone (fun (c,_)=>(c,())))
def prvO (s:List Int) (a:Int × List Int):List Int:=opq (if a.1<1 then s else a.2)
theorem ent_prev:enters Tryz.prog 24 Tryz.f24:=ek
abbrev prePrev:HL [infoK,linkK]->Prop:=fun ((_,s,_),(_,sg),_)=>List.length s=32/\List.length sg=96
theorem fn_prev:FnOk Tryz.prog 24 [infoK,linkK] [.own (.int .u8)] noG prePrev (fun ((_,s,_),a,_)=>(prvO s a,())):=by
 refine fn_of_vc (sp:=sps [spBclone]) (spk (fok fn_bclone) snl) mixed ent_prev (by decide) (by decide) ?_
 rintro w M0 ⟨⟨k,s,g,pe⟩,⟨r,sg⟩,⟨⟩⟩
 revert k s g pe r sg
 intro (k:List Int) (s:List Int) (g:Int) (pe:Int) (r:Int) (sg:List Int) _ hp
 obtain⟨h1,h2⟩:=hp
 have h1:s.length=32:=h1
 have h2:sg.length=96:=h2
 refine vcx (X:=((decide (r<(1:Int))=true->0+32<=32/\preBclone (List.take 32 s,())/\(0:Nat)+(List.take 32 s).length<=(List.take 32 s).length/\(List.take (List.take 32 s).length (List.take 32 s),())=(prvO s (r,sg),()))/\(decide (r<(1:Int))=false->0+96<=96/\preBclone (List.take 96 sg,())/\(0:Nat)+(List.take 96 sg).length<=(List.take 96 sg).length/\(List.take (List.take 96 sg).length (List.take 96 sg),())=(prvO s (r,sg),())))) (by kernel_rfl) ?_
 rw[List.take_of_length_le (Nat.le_of_eq h1),List.take_of_length_le (Nat.le_of_eq h2),List.take_length,List.take_length,prvO,opq_eq]
 refine⟨fun h=>⟨Nat.le_refl _,(by show s.length<_;omega),by omega,?_⟩,fun h=>⟨Nat.le_refl _,(by show sg.length<_;omega),by omega,?_⟩⟩
 ·rw[if_pos (show (r,sg).1<1 from of_decide_eq_true h)]
 ·rw[if_neg (show ¬ (r,sg).1<1 from of_decide_eq_false h)]
def spPrev:Nat × Eng.Spec:=(24,fnSpec [infoK,linkK] [.own (.int .u8)] prePrev (fun ((_,s,_),a,_)=>(prvO s a,())))
def gtO (ls:List (Int × List Int)) (r:Int):(Int × List Int) × Bool:=opq (if r<1\/r>(ls.length:Int) then (noLink,false) else (ls.getD (r-1).toNat noLink,true))
abbrev preGet2:HL [.ptr chainK,iK]->Prop:=fun ((_,ls,_),_)=>List.length ls<=10/\∀ x∈(ls:List (Int × List Int)),x.2.length=96
theorem fn_cget2:FnOk Tryz.prog 23 [.ptr chainK,iK] [.val linkK,.val .bool] noG preGet2 (fun ((_,ls,_),r,_)=>((gtO ls r).1,(gtO ls r).2,())):=by
 refine fn_of_vc (sp:=sps [spLast]) (spk (fok fn_last) snl) mixed ent_cget (by decide) (by decide) ?_
 rintro w M0 ⟨⟨p,ls,d⟩,r,⟨⟩⟩
 revert p ls d r
 intro (p:Bool) (ls:List (Int × List Int)) (d:Bool) (r:Int) _ hp
 obtain⟨hl,hs⟩:=hp
 have hl:ls.length<=10:=hl
 refine vcx (X:=((decide (r<(1:Int))=true->(((0:Int),[(0:Int),(0:Int),(0:Int),(0:Int),(0:Int),(0:Int),(0:Int),(0:Int),(0:Int),(0:Int),(0:Int),(0:Int),(0:Int),(0:Int),(0:Int),(0:Int),(0:Int),(0:Int),(0:Int),(0:Int),(0:Int),(0:Int),(0:Int),(0:Int),(0:Int),(0:Int),(0:Int),(0:Int),(0:Int),(0:Int),(0:Int),(0:Int),(0:Int),(0:Int),(0:Int),(0:Int),(0:Int),(0:Int),(0:Int),(0:Int),(0:Int),(0:Int),(0:Int),(0:Int),(0:Int),(0:Int),(0:Int),(0:Int),(0:Int),(0:Int),(0:Int),(0:Int),(0:Int),(0:Int),(0:Int),(0:Int),(0:Int),(0:Int),(0:Int),(0:Int),(0:Int),(0:Int),(0:Int),(0:Int),(0:Int),(0:Int),(0:Int),(0:Int),(0:Int),(0:Int),(0:Int),(0:Int),(0:Int),(0:Int),(0:Int),(0:Int),(0:Int),(0:Int),(0:Int),(0:Int),(0:Int),(0:Int),(0:Int),(0:Int),(0:Int),(0:Int),(0:Int),(0:Int),(0:Int),(0:Int),(0:Int),(0:Int),(0:Int),(0:Int),(0:Int),(0:Int)]),false,())=((gtO ls r).fst,(gtO ls r).snd,()))/\(decide (r<(1:Int))=false->True/\(decide (r>(↑ls.length:Int))=true->(((0:Int),[(0:Int),(0:Int),(0:Int),(0:Int),(0:Int),(0:Int),(0:Int),(0:Int),(0:Int),(0:Int),(0:Int),(0:Int),(0:Int),(0:Int),(0:Int),(0:Int),(0:Int),(0:Int),(0:Int),(0:Int),(0:Int),(0:Int),(0:Int),(0:Int),(0:Int),(0:Int),(0:Int),(0:Int),(0:Int),(0:Int),(0:Int),(0:Int),(0:Int),(0:Int),(0:Int),(0:Int),(0:Int),(0:Int),(0:Int),(0:Int),(0:Int),(0:Int),(0:Int),(0:Int),(0:Int),(0:Int),(0:Int),(0:Int),(0:Int),(0:Int),(0:Int),(0:Int),(0:Int),(0:Int),(0:Int),(0:Int),(0:Int),(0:Int),(0:Int),(0:Int),(0:Int),(0:Int),(0:Int),(0:Int),(0:Int),(0:Int),(0:Int),(0:Int),(0:Int),(0:Int),(0:Int),(0:Int),(0:Int),(0:Int),(0:Int),(0:Int),(0:Int),(0:Int),(0:Int),(0:Int),(0:Int),(0:Int),(0:Int),(0:Int),(0:Int),(0:Int),(0:Int),(0:Int),(0:Int),(0:Int),(0:Int),(0:Int),(0:Int),(0:Int),(0:Int),(0:Int)]),false,())=((gtO ls r).fst,(gtO ls r).snd,()))/\(decide (r>(↑ls.length:Int))=false->(0:Nat)<[(p,ls,d)].length/\((0:Int)<=IntKind.i64.wrap (r-(1:Int))/\IntKind.i64.wrap (r-(1:Int))<(↑ls.length:Int))/\(IntKind.i64.wrap (r-(1:Int))).toNat<ls.length/\(ls.getD (IntKind.i64.wrap (r-(1:Int))).toNat ((0:Int),List.replicate (96:Nat) (0:Int)),true,())=((gtO ls r).fst,(gtO ls r).snd,()))))) (by kernel_rfl) ?_
 rw[gtO,opq_eq]
 refine⟨fun h=>?_,fun h1=>⟨trivial,fun h=>?_,fun h2=>?_⟩⟩
 ·rw[if_pos (.inl (of_decide_eq_true h))];rfl
 ·rw[if_pos (.inr (of_decide_eq_true h))];rfl
 ·have h1:=of_decide_eq_false h1
  have h2:=of_decide_eq_false h2
  rw[if_neg (fun q=>q.elim h1 h2),wrap_i64' (by omega) (by omega)]
  exact⟨Nat.zero_lt_one,⟨by omega,by omega⟩,by omega,rfl⟩
def spCget2:Nat × Eng.Spec:=(23,fnSpec [.ptr chainK,iK] [.val linkK,.val .bool] preGet2 (fun ((_,ls,_),r,_)=>((gtO ls r).1,(gtO ls r).2,())))
theorem itO_len {n:Int} (h:0<=n/\n<100):(itO n).data.toList.length<=2:=by
 show (Lib.decDigits n.toNat).length<=2
 by_cases h:n.toNat<10
 ·rw[Lib.decDigits_one h];exact (by decide:1<=2)
 ·rw[Lib.decDigits_two h (by omega)];exact Nat.le_refl _
theorem rd_join {n:Int} {sg p r:List Int} (hn:0<=n/\n<100) (hs:hexP sg) (hp:hexP p) (hr:hexP r):joinP [sRound,itO n,hxO sg,hxO p,hxO r] sBlank:=by
 refine⟨⟨Nat.zero_lt_succ _,Nat.le_of_ble_eq_true rfl⟩,?_⟩
 have e:Lib.join (List.map (fun x=>x.data.toList) [sRound,itO n,hxO sg,hxO p,hxO r]) sBlank.data.toList=sRound.data.toList++(sBlank.data.toList++((itO n).data.toList++(sBlank.data.toList++((hxO sg).data.toList++(sBlank.data.toList++((hxO p).data.toList++(sBlank.data.toList++((hxO r).data.toList++[])))))))):=rfl
 rw[e]
 simp only[List.length_append,List.length_nil,hxO_size]
 have h5:sRound.data.toList.length=5:=rfl
 have h1:sBlank.data.toList.length=1:=rfl
 have h2:=itO_len hn
 have:=hs.1.2
 have:=hp.1.2
 have:=hr.1.2
 omega
def rdO (r:Int) (sg pv rn:List Int):List Int:=opq (sbytes (jnO [sRound,itO r,hxO sg,hxO pv,hxO rn] sBlank))
def wr2 (e:Int) (l:Int × List Int) (p r:List Int):List Int:=opq (if e=0 then rdO l.1 l.2 p r else wrO e)
abbrev preWr2:HL [replyK]->Prop:=fun ((e,_,(n,sg),p,r,v),_)=>(0<(e:Int)/\(e:Int)<100)\/((e:Int)=0/\(v:ByteArray)≠sInfo/\(0<=(n:Int)/\(n:Int)<100)/\hexP sg/\hexP p/\hexP r/\List.length r=32/\List.length sg=96)
theorem fn_write2:FnOk Tryz.prog 21 [replyK] [.own (.int .u8)] noG preWr2 (fun ((e,_,l,p,r,_),_)=>(wr2 e l p r,())):=by
 refine fn_of_vc (sp:=sps [spItoa,spJoin,spHex]) (spk (fok fn_itoa) (spk (fok fn_join) (spk (fok fn_hex) snl))) mixed ent_write (by decide) (by decide) ?_
 rintro w M0 ⟨⟨e,⟨k,s,g,pe⟩,⟨n,sg⟩,p,r,v⟩,⟨⟩⟩
 revert e k s g pe n sg p r v
 intro (e:Int) (k:List Int) (s:List Int) (g:Int) (pe:Int) (n:Int) (sg:List Int) (p:List Int) (r:List Int) (v:ByteArray) _ hp
 have hp:(0<e/\e<100)\/(e=0/\v≠sInfo/\(0<=n/\n<100)/\hexP sg/\hexP p/\hexP r/\r.length=32/\sg.length=96):=hp
 refine vcx (X:=(((e != (0:Int))=true->((0:Int)<=e/\e<(100:Int))/\0+2<=2/\preJoin (List.take 2 [balQc0,itO e],(ByteArray.mk (#[(32:UInt8)] )),())/\(0:Nat)+(jnO (List.take 2 [balQc0,itO e]) (ByteArray.mk (#[(32:UInt8)] ))).size<=(jnO (List.take 2 [balQc0,itO e]) (ByteArray.mk (#[(32:UInt8)] ))).size/\(List.take (jnO (List.take 2 [balQc0,itO e]) (ByteArray.mk (#[(32:UInt8)] ))).size (sbytes (jnO (List.take 2 [balQc0,itO e]) (ByteArray.mk (#[(32:UInt8)] )))),())=(wr2 e (n,sg) p r,()))/\((e != (0:Int))=false->(decide (v=balQc1)=true->0+48<=48/\preHex (List.take 48 k,())/\0+32<=32/\preHex (List.take 32 s,())/\((0:Int)<=g/\g<(100:Int))/\((0:Int)<=pe/\pe<(100:Int))/\0+5<=5/\preJoin (List.take 5 [balQc1,hxO (List.take 48 k),hxO (List.take 32 s),itO g,itO pe],(ByteArray.mk (#[(32:UInt8)] )),())/\(0:Nat)+(jnO (List.take 5 [balQc1,hxO (List.take 48 k),hxO (List.take 32 s),itO g,itO pe]) (ByteArray.mk (#[(32:UInt8)] ))).size<=(jnO (List.take 5 [balQc1,hxO (List.take 48 k),hxO (List.take 32 s),itO g,itO pe]) (ByteArray.mk (#[(32:UInt8)] ))).size/\(List.take (jnO (List.take 5 [balQc1,hxO (List.take 48 k),hxO (List.take 32 s),itO g,itO pe]) (ByteArray.mk (#[(32:UInt8)] ))).size (sbytes (jnO (List.take 5 [balQc1,hxO (List.take 48 k),hxO (List.take 32 s),itO g,itO pe]) (ByteArray.mk (#[(32:UInt8)] )))),())=(wr2 e (n,sg) p r,()))/\(decide (v=balQc1)=false->((0:Int)<=n/\n<(100:Int))/\0+96<=96/\preHex (List.take 96 sg,())/\preHex (p,())/\0+32<=32/\preHex (List.take 32 r,())/\0+5<=5/\preJoin (List.take 5 [balQc3,itO n,hxO (List.take 96 sg),hxO p,hxO (List.take 32 r)],(ByteArray.mk (#[(32:UInt8)] )),())/\(0:Nat)+(jnO (List.take 5 [balQc3,itO n,hxO (List.take 96 sg),hxO p,hxO (List.take 32 r)]) (ByteArray.mk (#[(32:UInt8)] ))).size<=(jnO (List.take 5 [balQc3,itO n,hxO (List.take 96 sg),hxO p,hxO (List.take 32 r)]) (ByteArray.mk (#[(32:UInt8)] ))).size/\(List.take (jnO (List.take 5 [balQc3,itO n,hxO (List.take 96 sg),hxO p,hxO (List.take 32 r)]) (ByteArray.mk (#[(32:UInt8)] ))).size (sbytes (jnO (List.take 5 [balQc3,itO n,hxO (List.take 96 sg),hxO p,hxO (List.take 32 r)]) (ByteArray.mk (#[(32:UInt8)] )))),())=(wr2 e (n,sg) p r,()))))) (by kernel_rfl) ?_
 refine⟨fun h=>?_,fun h=>?_⟩
 ·have h:e≠0:=by simpa using h
  have hp:0<e/\e<100:=hp.elim id fun q=>absurd q.1 h
  refine⟨⟨by omega,hp.2⟩,Nat.le_refl _,jn_ok hp.1 hp.2,by omega,?_⟩
  rw[List.take_of_length_le (by rw[sbytes_len];exact Nat.le_refl _),wr2,opq_eq,if_neg h,wrO,opq_eq]
  rfl
 ·have h:e=0:=by simpa using h
  subst h
  obtain⟨_,hv,hn,hs,hpp,hr,hr2,hs2⟩:=hp.resolve_left (fun q=>absurd q.1 (by omega))
  rw[List.take_of_length_le (Nat.le_of_eq hr2),List.take_of_length_le (Nat.le_of_eq hs2)]
  refine⟨fun q=>absurd (of_decide_eq_true q) hv,fun _=>⟨hn,Nat.le_refl _,hs,hpp,Nat.le_refl _,hr,Nat.le_refl _,rd_join hn hs hpp hr,by omega,?_⟩⟩
  rw[List.take_of_length_le (by rw[sbytes_len];exact Nat.le_refl _),wr2,opq_eq,if_pos rfl,rdO,opq_eq]
  rfl
def spWrite2:Nat × Eng.Spec:=(21,fnSpec [replyK] [.own (.int .u8)] preWr2 (fun ((e,_,l,p,r,_),_)=>(wr2 e l p r,())))
def anR (ls:List (Int × List Int)) (b:List Int):Int:=opq (if (pso b).1.1=sLatest then (ls.length:Int) else (pso b).1.2)
def anO (s:List Int) (ls:List (Int × List Int)) (b:List Int):List Int:=opq (if (pso b).2=0 then (if (gtO ls (anR ls b)).2 then wr2 0 (gtO ls (anR ls b)).1 (prvO s (gtO ls (anR ls b-1)).1) (sha.dig (gtO ls (anR ls b)).1.2) else wrO 41) else wrO (pso b).2)
abbrev preAns2:HL [infoK,.ptr chainK,u8K]->Prop:=fun ((_,s,_),(_,ls,_),b,_)=>(List.length ls<=10/\∀ x∈(ls:List (Int × List Int)),x.2.length=96/\(0<=x.1/\x.1<100)/\Bs x.2)/\(List.length s=32/\Bs s)/\((pso b).1.1≠sInfo\/(pso b).2≠0)
theorem gt_t {ls:List (Int × List Int)} {R:Int} (h:(gtO ls R).2=true):1<=R/\R<=ls.length:=by
 rw[gtO,opq_eq] at h
 split at h
 ·cases h
 ·omega
theorem gt_ok {ls:List (Int × List Int)} (hx:∀ x∈ls,x.2.length=96/\(0<=x.1/\x.1<100)/\Bs x.2) (R:Int):(gtO ls R).1.2.length=96/\(0<=(gtO ls R).1.1/\(gtO ls R).1.1<100)/\Bs (gtO ls R).1.2:=by
 have hz:noLink.2.length=96/\(0<=noLink.1/\noLink.1<100)/\Bs noLink.2:=⟨by decide,by decide,fun x hx=>by rw[List.eq_of_mem_replicate hx];decide⟩
 rw[gtO,opq_eq]
 split
 ·exact hz
 ·show (ls.getD _ _).2.length=96/\_
  rw[List.getD_eq_getElem?_getD]
  cases h:ls[(R-1).toNat]? with
  | none=>exact hz
  | some x=>exact hx x (List.mem_of_getElem? h)
theorem prv_ok {s:List Int} (hs:s.length=32) (hb:Bs s) {a:Int × List Int} (ha:a.2.length=96) (hab:Bs a.2):hexP (prvO s a):=by
 rw[prvO,opq_eq]
 split
 ·exact⟨⟨by omega,by omega⟩,hb⟩
 ·exact⟨⟨by omega,by omega⟩,hab⟩
theorem u8_rng (y:Int):0<=IntKind.u8.wrap y/\IntKind.u8.wrap y<256:=by
 simp[IntKind.wrap,IntKind.signed,IntKind.bits];omega
theorem dig_Bs (b:List Int):Bs (sha.dig b):=by
 rw[sha.dig,opq_eq,sha.digF,sha.outB]
 intro x hx
 obtain⟨i,_,rfl⟩:=List.mem_map.1 hx
 exact u8_rng _
theorem dig_hex (b:List Int):hexP (sha.dig b)/\(sha.dig b).length=32:=⟨⟨by rw[sha.dig_len];decide,dig_Bs b⟩,sha.dig_len b⟩
theorem ans_core {k s:List Int} {g pe:Int} {p:Bool} {ls:List (Int × List Int)} {d:Bool} {b:List Int} {R:Int} (hl:ls.length<=10) (hx:∀ x∈ls,x.2.length=96/\(0<=x.1/\x.1<100)/\Bs x.2) (hs:s.length=32) (hb:Bs s) (h0:(pso b).2=0) (hR:anR ls b=R) :
  ((!(gtO ls R).2)=true->preWr2 ((41,(List.replicate 48 0,List.replicate 32 0,0,0),(0,List.replicate 96 0),[],List.replicate 32 0,ByteArray.empty),())/\0+(wr2 41 (0,List.replicate 96 0) [] (List.replicate 32 0)).length<=(wr2 41 (0,List.replicate 96 0) [] (List.replicate 32 0)).length /\
   (List.take (wr2 41 (0,List.replicate 96 0) [] (List.replicate 32 0)).length (wr2 41 (0,List.replicate 96 0) [] (List.replicate 32 0)),())=(anO s ls b,())) /\
  ((!(gtO ls R).2)=false->preGet2 ((p,ls,d),IntKind.i64.wrap (R-1),())/\prePrev ((k,s,g,pe),(gtO ls (IntKind.i64.wrap (R-1))).1,())/\(∀ (g:Nat) (s:Sigma Car),sha.shaG g=some s->sha.shaG g=some s)/\0+96<=96/\sha.preOf ([List.take 96 (gtO ls R).1.2],()) /\
   0+(prvO s (gtO ls (IntKind.i64.wrap (R-1))).1).length<=(prvO s (gtO ls (IntKind.i64.wrap (R-1))).1).length /\
   preWr2 ((0,(List.replicate 48 0,List.replicate 32 0,0,0),(gtO ls R).1,List.take (prvO s (gtO ls (IntKind.i64.wrap (R-1))).1).length (prvO s (gtO ls (IntKind.i64.wrap (R-1))).1),sha.dig [List.take 96 (gtO ls R).1.2].flatten,⟨#[114,111,117,110,100]⟩),()) /\
   0+(wr2 0 (gtO ls R).1 (List.take (prvO s (gtO ls (IntKind.i64.wrap (R-1))).1).length (prvO s (gtO ls (IntKind.i64.wrap (R-1))).1)) (sha.dig [List.take 96 (gtO ls R).1.2].flatten)).length<=(wr2 0 (gtO ls R).1 (List.take (prvO s (gtO ls (IntKind.i64.wrap (R-1))).1).length (prvO s (gtO ls (IntKind.i64.wrap (R-1))).1)) (sha.dig [List.take 96 (gtO ls R).1.2].flatten)).length /\
   (List.take (wr2 0 (gtO ls R).1 (List.take (prvO s (gtO ls (IntKind.i64.wrap (R-1))).1).length (prvO s (gtO ls (IntKind.i64.wrap (R-1))).1)) (sha.dig [List.take 96 (gtO ls R).1.2].flatten)).length (wr2 0 (gtO ls R).1 (List.take (prvO s (gtO ls (IntKind.i64.wrap (R-1))).1).length (prvO s (gtO ls (IntKind.i64.wrap (R-1))).1)) (sha.dig [List.take 96 (gtO ls R).1.2].flatten)),())=(anO s ls b,())):=by
 subst hR
 obtain⟨g1,g2,g3⟩:=gt_ok hx (anR ls b)
 have ef:[List.take 96 (gtO ls (anR ls b)).1.2].flatten=(gtO ls (anR ls b)).1.2:=by rw[List.take_of_length_le (Nat.le_of_eq g1)];simp
 refine⟨fun h=>?_,fun h=>?_⟩
 ·have h:(gtO ls (anR ls b)).2=false:=by simpa using h
  have e:wr2 41 (0,List.replicate 96 0) [] (List.replicate 32 0)=anO s ls b:=by rw[wr2,opq_eq,if_neg (by decide),anO,opq_eq,if_pos h0,h,if_neg (by decide)]
  exact⟨.inl ⟨by show (0:Int)<41;omega,by show (41:Int)<100;omega⟩,by omega,by rw[List.take_length,e]⟩
 ·have h:(gtO ls (anR ls b)).2=true:=by simpa using h
  obtain⟨a1,a2⟩:=gt_t h
  rw[wrap_i64' (by omega) (by omega),ef,List.take_length,List.take_length]
  obtain⟨k1,k2,k3⟩:=gt_ok hx (anR ls b-1)
  have e:wr2 0 (gtO ls (anR ls b)).1 (prvO s (gtO ls (anR ls b-1)).1) (sha.dig (gtO ls (anR ls b)).1.2)=anO s ls b:=by rw[anO,opq_eq,if_pos h0,h,if_pos rfl]
  obtain⟨d1,d2⟩:=dig_hex (gtO ls (anR ls b)).1.2
  refine⟨⟨hl,fun x h=>(hx x h).1⟩,⟨hs,k1⟩,fun _ _ h=>h,Nat.le_refl _,?_,by omega,.inr ⟨rfl,fun q=>?_,g2,⟨⟨Nat.lt_of_lt_of_eq (by decide:0<96) g1.symm,Nat.le_trans (Nat.le_of_eq g1) (by decide)⟩,g3⟩,prv_ok hs hb k1 k3,d1,d2,g1⟩,by omega,by rw[e]⟩
  ·refine⟨?_,by show 1<=_;decide⟩
   show (List.flatten _).length<=_
   rw[ef,g1];decide
  ·exact absurd q (of_decide_eq_false (by kernel_rfl))
theorem fn_ans2:FnOk Tryz.prog 6 [infoK,.ptr chainK,u8K] [.own (.int .u8)] sha.shaG preAns2 (fun ((_,s,_),(_,ls,_),b,_)=>(anO s ls b,())):=by
 refine fn_of_vc (sp:=sps [spParse,spWrite2,spLast,spCget2,spPrev,sha.spOf]) (spk (fok fn_parse) (spk (fok fn_write2) (spk (fok fn_last) (spk (fok fn_cget2) (spk (fok fn_prev) (spk (fgk sha.fn_of) snl)))))) mixed ent_ans (by decide) (by decide) ?_
 rintro w M0 ⟨⟨k,s,g,pe⟩,⟨p,ls,d⟩,b,⟨⟩⟩
 revert k s g pe p ls d b
 intro (k:List Int) (s:List Int) (g:Int) (pe:Int) (p:Bool) (ls:List (Int × List Int)) (d:Bool) (b:List Int) _ hp
 obtain⟨⟨hl,hx⟩,⟨hs,hb⟩,hi⟩:=hp
 have hl:ls.length<=10:=hl
 have hx:∀ x∈ls,x.2.length=96/\(0<=x.1/\x.1<100)/\Bs x.2:=hx
 have hs:s.length=32:=hs
 have hi:(pso b).1.1≠sInfo\/(pso b).2≠0:=hi
 obtain⟨r0,r1⟩:=pso_rng b
 refine vcx (X:=(True/\(((pso b).snd != (0:Int))=true->preWr2 (((pso b).snd,(List.replicate (48:Nat) (0:Int),List.replicate (32:Nat) (0:Int),(0:Int),(0:Int)),((0:Int),List.replicate (96:Nat) (0:Int)),[],List.replicate (32:Nat) (0:Int),ByteArray.empty),())/\(0:Nat)+(wr2 (pso b).snd ((0:Int),List.replicate (96:Nat) (0:Int)) [] (List.replicate (32:Nat) (0:Int))).length<=(wr2 (pso b).snd ((0:Int),List.replicate (96:Nat) (0:Int)) [] (List.replicate (32:Nat) (0:Int))).length/\(List.take (wr2 (pso b).snd ((0:Int),List.replicate (96:Nat) (0:Int)) [] (List.replicate (32:Nat) (0:Int))).length (wr2 (pso b).snd ((0:Int),List.replicate (96:Nat) (0:Int)) [] (List.replicate (32:Nat) (0:Int))),())=(anO s ls b,()))/\(((pso b).snd != (0:Int))=false->(decide ((pso b).fst.fst=balQc1)=true->preWr2 (((0:Int),(k,s,g,pe),((0:Int),List.replicate (96:Nat) (0:Int)),[],List.replicate (32:Nat) (0:Int),balQc1),())/\(0:Nat)+(wr2 (0:Int) ((0:Int),List.replicate (96:Nat) (0:Int)) [] (List.replicate (32:Nat) (0:Int))).length<=(wr2 (0:Int) ((0:Int),List.replicate (96:Nat) (0:Int)) [] (List.replicate (32:Nat) (0:Int))).length/\(List.take (wr2 (0:Int) ((0:Int),List.replicate (96:Nat) (0:Int)) [] (List.replicate (32:Nat) (0:Int))).length (wr2 (0:Int) ((0:Int),List.replicate (96:Nat) (0:Int)) [] (List.replicate (32:Nat) (0:Int))),())=(anO s ls b,()))/\(decide ((pso b).fst.fst=balQc1)=false->(decide ((pso b).fst.fst=balQc2)=true->True/\preGet2 ((p,ls,d),(↑ls.length:Int),())/\((!(gtO ls (↑ls.length:Int)).snd)=true->preWr2 (((41:Int),(List.replicate (48:Nat) (0:Int),List.replicate (32:Nat) (0:Int),(0:Int),(0:Int)),((0:Int),List.replicate (96:Nat) (0:Int)),[],List.replicate (32:Nat) (0:Int),ByteArray.empty),())/\(0:Nat)+(wr2 (41:Int) ((0:Int),List.replicate (96:Nat) (0:Int)) [] (List.replicate (32:Nat) (0:Int))).length<=(wr2 (41:Int) ((0:Int),List.replicate (96:Nat) (0:Int)) [] (List.replicate (32:Nat) (0:Int))).length/\(List.take (wr2 (41:Int) ((0:Int),List.replicate (96:Nat) (0:Int)) [] (List.replicate (32:Nat) (0:Int))).length (wr2 (41:Int) ((0:Int),List.replicate (96:Nat) (0:Int)) [] (List.replicate (32:Nat) (0:Int))),())=(anO s ls b,()))/\((!(gtO ls (↑ls.length:Int)).snd)=false->preGet2 ((p,ls,d),IntKind.i64.wrap ((↑ls.length:Int)-(1:Int)),())/\prePrev ((k,s,g,pe),(gtO ls (IntKind.i64.wrap ((↑ls.length:Int)-(1:Int)))).fst,())/\(∀ (g:Nat) (s:Sigma Car),sha.shaG g=some s->Decidable.rec (fun h=>(fun x=>if g=(1:Nat) then some ⟨Kd.arr (64:Nat) sha.uK,sha.rootsL⟩ else none) h) (fun h=>(fun x=>some ⟨Kd.arr (8:Nat) sha.uK,sha.firstL⟩) h) (instDecidableEqNat g (0:Nat))=some s)/\0+96<=96/\sha.preOf ([List.take 96 (gtO ls (↑ls.length:Int)).fst.snd],())/\(0:Nat)+(prvO s (gtO ls (IntKind.i64.wrap ((↑ls.length:Int)-(1:Int)))).fst).length<=(prvO s (gtO ls (IntKind.i64.wrap ((↑ls.length:Int)-(1:Int)))).fst).length/\preWr2 (((0:Int),(List.replicate (48:Nat) (0:Int),List.replicate (32:Nat) (0:Int),(0:Int),(0:Int)),(gtO ls (↑ls.length:Int)).fst,List.take (prvO s (gtO ls (IntKind.i64.wrap ((↑ls.length:Int)-(1:Int)))).fst).length (prvO s (gtO ls (IntKind.i64.wrap ((↑ls.length:Int)-(1:Int)))).fst),sha.dig [List.take 96 (gtO ls (↑ls.length:Int)).fst.snd].flatten,balQc3),())/\(0:Nat)+(wr2 (0:Int) (gtO ls (↑ls.length:Int)).fst (List.take (prvO s (gtO ls (IntKind.i64.wrap ((↑ls.length:Int)-(1:Int)))).fst).length (prvO s (gtO ls (IntKind.i64.wrap ((↑ls.length:Int)-(1:Int)))).fst)) (sha.dig [List.take 96 (gtO ls (↑ls.length:Int)).fst.snd].flatten)).length<=(wr2 (0:Int) (gtO ls (↑ls.length:Int)).fst (List.take (prvO s (gtO ls (IntKind.i64.wrap ((↑ls.length:Int)-(1:Int)))).fst).length (prvO s (gtO ls (IntKind.i64.wrap ((↑ls.length:Int)-(1:Int)))).fst)) (sha.dig [List.take 96 (gtO ls (↑ls.length:Int)).fst.snd].flatten)).length/\(List.take (wr2 (0:Int) (gtO ls (↑ls.length:Int)).fst (List.take (prvO s (gtO ls (IntKind.i64.wrap ((↑ls.length:Int)-(1:Int)))).fst).length (prvO s (gtO ls (IntKind.i64.wrap ((↑ls.length:Int)-(1:Int)))).fst)) (sha.dig [List.take 96 (gtO ls (↑ls.length:Int)).fst.snd].flatten)).length (wr2 (0:Int) (gtO ls (↑ls.length:Int)).fst (List.take (prvO s (gtO ls (IntKind.i64.wrap ((↑ls.length:Int)-(1:Int)))).fst).length (prvO s (gtO ls (IntKind.i64.wrap ((↑ls.length:Int)-(1:Int)))).fst)) (sha.dig [List.take 96 (gtO ls (↑ls.length:Int)).fst.snd].flatten)),())=(anO s ls b,())))/\(decide ((pso b).fst.fst=balQc2)=false->preGet2 ((p,ls,d),(pso b).fst.snd,())/\((!(gtO ls (pso b).fst.snd).snd)=true->preWr2 (((41:Int),(List.replicate (48:Nat) (0:Int),List.replicate (32:Nat) (0:Int),(0:Int),(0:Int)),((0:Int),List.replicate (96:Nat) (0:Int)),[],List.replicate (32:Nat) (0:Int),ByteArray.empty),())/\(0:Nat)+(wr2 (41:Int) ((0:Int),List.replicate (96:Nat) (0:Int)) [] (List.replicate (32:Nat) (0:Int))).length<=(wr2 (41:Int) ((0:Int),List.replicate (96:Nat) (0:Int)) [] (List.replicate (32:Nat) (0:Int))).length/\(List.take (wr2 (41:Int) ((0:Int),List.replicate (96:Nat) (0:Int)) [] (List.replicate (32:Nat) (0:Int))).length (wr2 (41:Int) ((0:Int),List.replicate (96:Nat) (0:Int)) [] (List.replicate (32:Nat) (0:Int))),())=(anO s ls b,()))/\((!(gtO ls (pso b).fst.snd).snd)=false->preGet2 ((p,ls,d),IntKind.i64.wrap ((pso b).fst.snd-(1:Int)),())/\prePrev ((k,s,g,pe),(gtO ls (IntKind.i64.wrap ((pso b).fst.snd-(1:Int)))).fst,())/\(∀ (g:Nat) (s:Sigma Car),sha.shaG g=some s->Decidable.rec (fun h=>(fun x=>if g=(1:Nat) then some ⟨Kd.arr (64:Nat) sha.uK,sha.rootsL⟩ else none) h) (fun h=>(fun x=>some ⟨Kd.arr (8:Nat) sha.uK,sha.firstL⟩) h) (instDecidableEqNat g (0:Nat))=some s)/\0+96<=96/\sha.preOf ([List.take 96 (gtO ls (pso b).fst.snd).fst.snd],())/\(0:Nat)+(prvO s (gtO ls (IntKind.i64.wrap ((pso b).fst.snd-(1:Int)))).fst).length<=(prvO s (gtO ls (IntKind.i64.wrap ((pso b).fst.snd-(1:Int)))).fst).length/\preWr2 (((0:Int),(List.replicate (48:Nat) (0:Int),List.replicate (32:Nat) (0:Int),(0:Int),(0:Int)),(gtO ls (pso b).fst.snd).fst,List.take (prvO s (gtO ls (IntKind.i64.wrap ((pso b).fst.snd-(1:Int)))).fst).length (prvO s (gtO ls (IntKind.i64.wrap ((pso b).fst.snd-(1:Int)))).fst),sha.dig [List.take 96 (gtO ls (pso b).fst.snd).fst.snd].flatten,balQc3),())/\(0:Nat)+(wr2 (0:Int) (gtO ls (pso b).fst.snd).fst (List.take (prvO s (gtO ls (IntKind.i64.wrap ((pso b).fst.snd-(1:Int)))).fst).length (prvO s (gtO ls (IntKind.i64.wrap ((pso b).fst.snd-(1:Int)))).fst)) (sha.dig [List.take 96 (gtO ls (pso b).fst.snd).fst.snd].flatten)).length<=(wr2 (0:Int) (gtO ls (pso b).fst.snd).fst (List.take (prvO s (gtO ls (IntKind.i64.wrap ((pso b).fst.snd-(1:Int)))).fst).length (prvO s (gtO ls (IntKind.i64.wrap ((pso b).fst.snd-(1:Int)))).fst)) (sha.dig [List.take 96 (gtO ls (pso b).fst.snd).fst.snd].flatten)).length/\(List.take (wr2 (0:Int) (gtO ls (pso b).fst.snd).fst (List.take (prvO s (gtO ls (IntKind.i64.wrap ((pso b).fst.snd-(1:Int)))).fst).length (prvO s (gtO ls (IntKind.i64.wrap ((pso b).fst.snd-(1:Int)))).fst)) (sha.dig [List.take 96 (gtO ls (pso b).fst.snd).fst.snd].flatten)).length (wr2 (0:Int) (gtO ls (pso b).fst.snd).fst (List.take (prvO s (gtO ls (IntKind.i64.wrap ((pso b).fst.snd-(1:Int)))).fst).length (prvO s (gtO ls (IntKind.i64.wrap ((pso b).fst.snd-(1:Int)))).fst)) (sha.dig [List.take 96 (gtO ls (pso b).fst.snd).fst.snd].flatten)),())=(anO s ls b,()))))))) (by kernel_rfl) ?_
 refine⟨trivial,fun h=>?_,fun h=>?_⟩
 ·have h:(pso b).2≠0:=by simpa using h
  have e:wr2 (pso b).2 (0,List.replicate 96 0) [] (List.replicate 32 0)=anO s ls b:=by rw[wr2,opq_eq,if_neg h,anO,opq_eq,if_neg h]
  exact⟨.inl ⟨by show 0<(pso b).2;omega,by show (pso b).2<100;omega⟩,by omega,by rw[List.take_length,e]⟩
 ·have h:(pso b).2=0:=by simpa using h
  refine⟨fun hq=>?_,fun _=>⟨fun hq=>⟨trivial,⟨hl,fun x h=>(hx x h).1⟩,?_⟩,fun hq=>⟨⟨hl,fun x h=>(hx x h).1⟩,?_⟩⟩⟩
  ·exact (hi.elim (fun q=>q (of_decide_eq_true hq)) (fun q=>q h)).elim
  ·exact ans_core (k:=k) (s:=s) (g:=g) (pe:=pe) (p:=p) (d:=d) hl hx hs hb h (by rw[anR,opq_eq,if_pos (show _=sLatest from of_decide_eq_true hq)])
  ·exact ans_core (k:=k) (s:=s) (g:=g) (pe:=pe) (p:=p) (d:=d) hl hx hs hb h (by rw[anR,opq_eq,if_neg (show ¬ _=sLatest from of_decide_eq_false hq)])
def spAns2:Nat × Eng.Spec:=(6,fnSpecG sha.shaG [infoK,.ptr chainK,u8K] [.own (.int .u8)] preAns2 (fun ((_,s,_),(_,ls,_),b,_)=>(anO s ls b,())))
end
end Go.Proofs.YteldhmehjkhanaaGreatDoor.qry
