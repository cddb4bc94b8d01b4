/- PartJoins, for every input: true; the input reads as it did. No condition. -/
import Derived.LaidLaws
import Derived.LaidHandle
import Derived.LaidMore
import Derived.MakeChecks
import Derived.OpenShut
import Derived.Test.YtbeeaekepmnfhaaGreatDoorRows
import Derived.Test.YtbeeaekepmnfhaaGreatDoorCards
import Derived.Test.YtbeeaekepmnfhaaGreatDoorTie
import Derived.ProofKit
import Derived.Stop.Joined
import Derived.SevenTiedAt
import Derived.Test.YtbeeaekepmnfhaaGreatDoorML15jPAB
set_option maxRecDepth 100000
namespace Go.Proofs.YtbeeaekepmnfhaaGreatDoor.xmd
noncomputable section
open Go Go.Eng Go.RowKit Cr sha
abbrev f2:Kd:=fp2.f2
def spExF:Nat × Eng.Spec:=(152,fnSpecG shaG [bsl,bsl,.int .i64] [.val (.sl bK),.val (.int .i64)] preEx (fun (m,t,n,_)=>((exA m t n).1,(exA m t n).2,())))
theorem fn_exF:FnOk Tryz.prog 152 [bsl,bsl,.int .i64] [.val (.sl bK),.val (.int .i64)] shaG preEx (fun (m,t,n,_)=>((exA m t n).1,(exA m t n).2,())):=fn_expand.frz2
def nuA (m t:List Int) (n:Int):List F2 × Int:=match decide (n<0)||decide (n>63) with
 | true=>([],1)
 | false=>(nums m t n.toNat,0)
theorem ent_numbers:enters Tryz.prog 107 Tryz.f107:=ek
theorem dig_Bs (L:List Int):Bs (dig L):=by
 rw[dig,opq_eq,digF,outB]
 intro x hx
 obtain⟨i,_,rfl⟩:=List.mem_map.1 hx
 generalize (Int.fdiv _ _)=y
 simp[IntKind.wrap,IntKind.signed,IntKind.bits]
 omega
theorem exK_Bs (f t:List Int):∀ i,Bs (exK f t i).1
 | 0=>fun x hx=>by cases hx
 | i+1=>by
  show Bs ((exK f t i).1++nxD f t i (exK f t i).2)
  intro x hx
  rcases List.mem_append.1 hx with h|h
  ·exact exK_Bs f t i x h
  ·exact dig_Bs _ x h
theorem expo_Bs (m t:List Int) (n:Int):Bs (expo m t n):=by
 rw[expo,opq_eq,expF]
 intro x hx
 exact exK_Bs _ _ _ x (List.mem_of_mem_take hx)
theorem cut_a (E:List Int) (k:Nat):List.take 64 (List.take 128 (List.drop (128*k) E))=List.take 64 (List.drop (128*k) E):=by
 rw[List.take_take];rfl
theorem cut_b (E:List Int) (k:Nat):List.take 64 (List.drop 64 (List.take 128 (List.drop (128*k) E)))=List.take 64 (List.drop (128*k+64) E):=by
 rw[List.drop_take,List.take_take,List.drop_drop];rfl
def nuL (E:List Int) (n k:Nat):List F2:=(List.range k).map (nmb E)++List.replicate (n-k) ((0:Fp),(0:Fp))
theorem nuL_step {E:List Int} {n k:Nat} (h:k<n):(nuL E n k).set k (nmb E k)=nuL E n (k+1):=by
 unfold nuL
 rw[List.set_append_right _ _ (by simp),List.range_succ]
 have e:n-k=(n-(k+1))+1:=by omega
 have e2:k-((List.range k).map (nmb E)).length=0:=by simp
 rw[e2,e,List.replicate_succ,List.set_cons_zero,List.map_append,List.append_assoc]
 simp
def nuI (E:List Int) (n:Int) (g:Int × List F2):St:=mkSt Tryz.f107.ntmps 208 [(8,.is (.one (.ro bK E))),(10,.is (.one (.sl 168 0 0 n.toNat 12))),(33,sI .i64 n.toNat),(34,sI .i64 g.1)] [(168,[.row f2 n.toNat g.2])]
theorem fn_numbers:FnOk Tryz.prog 107 [bsl,bsl,.int .i64] [.own f2,.val (.int .i64)] shaG preEx (fun (m,t,n,_)=>((nuA m t n).1,(nuA m t n).2,())):=by
 have hsp:SpecsOk Tryz.prog (sps [spExF,fp.spWide]):=spk (fgk fn_exF) (spk (fok fp.fn_wide) snl)
 refine fn_of_tr (sp:=sps [spExF,fp.spWide]) ent_numbers (by decide) (by decide) (by kernel_rfl) ?_
 rintro w M0 ⟨m,t,n,⟨⟩⟩
 revert m t n
 intro (m:List Int) (t:List Int) (n:Int) hw hp
 have hm:m.length<=1048576:=hp.1
 have ht:t.length<=1048576:=hp.2
 show Tr _ _ _ _ _ _ _
 refine tr_cutF hsp mixed 8 (fun σ=>rdO bK 8 σ) (fun E=>nuI E n (0,List.replicate n.toNat ((0:Fp),(0:Fp)))) (fun E=>E=expo m t (128*n)/\0<=n/\n<=63) ?_ ?_
 ·refine vcx (X:=((decide (n<(0:Int))=true->([],(1:Int),())=((nuA m t n).fst,(nuA m t n).snd,()))/\(decide (n<(0:Int))=false->(decide (n>(63:Int))=true->([],(1:Int),())=((nuA m t n).fst,(nuA m t n).snd,()))/\(decide (n>(63:Int))=false->(∀ (g:Nat) (s:Sigma Car),shaG g=some s->Decidable.rec (fun h=>(fun x=>if g=(1:Nat) then some ⟨Kd.arr (64:Nat) uK,rootsL⟩ else none) h) (fun h=>(fun x=>some ⟨Kd.arr (8:Nat) uK,firstL⟩) h) (instDecidableEqNat g (0:Nat))=some s)/\preEx (m,t,IntKind.i64.wrap ((128:Int)*n),())/\(((exA m t (IntKind.i64.wrap ((128:Int)*n))).snd != (0:Int))=true->([],(exA m t (IntKind.i64.wrap ((128:Int)*n))).snd,())=((nuA m t n).fst,(nuA m t n).snd,()))/\(((exA m t (IntKind.i64.wrap ((128:Int)*n))).snd != (0:Int))=false->((0:Int)<=n/\n<=n/\(↑(96:Nat):Int)*n<=(281474976710656:Int)/\n<=(9223372036854775807:Int))/\(nuI ((exA m t (IntKind.i64.wrap ((128:Int)*n))).fst,(exA m t (IntKind.i64.wrap ((128:Int)*n))).snd,()).fst n ((0:Int),List.replicate n.toNat ((0:Fp),(0:Fp)))).triv ((exA m t (IntKind.i64.wrap ((128:Int)*n))).fst=expo m t ((128:Int)*n)/\(0:Int)<=n/\n<=(63:Int))))))) (by kernel_rfl) ?_
  refine⟨fun h=>by rw[nuA,h];rfl,fun h=>⟨fun h2=>by rw[nuA,h,h2];rfl,fun h2=>?_⟩⟩
  have hn0:0<=n:=by have:=of_decide_eq_false h;omega
  have hn1:n<=63:=by have:=of_decide_eq_false h2;omega
  have e1:IntKind.i64.wrap (128*n)=128*n:=wrap_i64' (by omega) (by omega)
  have eA:exA m t (128*n)=(expo m t (128*n),0):=by
   rw[exA,decide_eq_false (by omega),decide_eq_false (by omega)];rfl
  rw[e1,eA]
  exact⟨fun _ _ h=>h,⟨hm,ht⟩,fun h=>by simp at h,fun _=>⟨⟨hn0,Int.le_refl _,by omega,by omega⟩,tvi ⟨rfl,hn0,hn1⟩⟩⟩
 rintro E ⟨hE,hn0,hn1⟩
 revert E
 intro (E:List Int) (hE:E=expo m t (128*n))
 have hl:E.length=128*n.toNat:=by rw[hE,expo_len];omega
 refine tr_while hsp mixed noSw (fun σ=>(rdS (.int .i64) 34 σ,rdR f2 168 σ)) (nuI E n) (fun g=>∃ k:Nat,k<=n.toNat/\g.1=(k:Int)/\g.2=nuL E n.toNat k) (fun g=>n.toNat-g.1.toNat)
  (fun σ=>(rdS (.int .i64) 34 σ,rdR f2 168 σ)) (nuI E n) (fun g=>g.2=nums m t n.toNat) (0,List.replicate n.toNat ((0:Fp),(0:Fp))) (c:=nthC (codeOf Tryz.f107) 8) (by kernel_rfl) (by kernel_rfl) (le_of_proj (by kernel_rfl) (by kernel_rfl) ?_) ?_ ?_
 ·exact⟨0,Nat.zero_le _,rfl,by simp[nuL]⟩
 ·rintro⟨i,l⟩ hj
  revert i l
  intro (i:Int) (l:List F2) ⟨k,hk,ei,el⟩
  have ei:i=(k:Int):=ei
  have kl:l=nuL E n.toNat k:=el
  subst ei
  have e1:IntKind.i64.wrap (128*(k:Int))=((128*k:Nat):Int):=by rw[wrap_i64' (by omega) (by omega)];omega
  have e2:IntKind.i64.wrap ((k:Int)+1)=((k+1:Nat):Int):=wrap_succ (by omega)
  have e3:IntKind.i64.wrap (128*((k+1:Nat):Int))=((128*k+128:Nat):Int):=by rw[wrap_i64' (by omega) (by omega)];omega
  have e4:(((128*k+128:Nat):Int)-((128*k:Nat):Int)).toNat=128:=by omega
  refine vcx (X:=((decide ((↑k:Int)<(↑n.toNat:Int))=true->((0:Int)<=IntKind.i64.wrap ((128:Int)*(↑k:Int))/\IntKind.i64.wrap ((128:Int)*(↑k:Int))<=IntKind.i64.wrap ((128:Int)*IntKind.i64.wrap ((↑k:Int)+(1:Int)))/\IntKind.i64.wrap ((128:Int)*IntKind.i64.wrap ((↑k:Int)+(1:Int)))<=(↑E.length:Int))/\((0:Int)<=(64:Int)/\(64:Int)<=(↑(List.take (IntKind.i64.wrap ((128:Int)*IntKind.i64.wrap ((↑k:Int)+(1:Int)))-IntKind.i64.wrap ((128:Int)*(↑k:Int))).toNat (List.drop (IntKind.i64.wrap ((128:Int)*(↑k:Int))).toNat E)).length:Int))/\fp.preWide (List.take 64 (List.take (IntKind.i64.wrap ((128:Int)*IntKind.i64.wrap ((↑k:Int)+(1:Int)))-IntKind.i64.wrap ((128:Int)*(↑k:Int))).toNat (List.drop (IntKind.i64.wrap ((128:Int)*(↑k:Int))).toNat E)),())/\((0:Int)<=(64:Int)/\(64:Int)<=(↑(List.take (IntKind.i64.wrap ((128:Int)*IntKind.i64.wrap ((↑k:Int)+(1:Int)))-IntKind.i64.wrap ((128:Int)*(↑k:Int))).toNat (List.drop (IntKind.i64.wrap ((128:Int)*(↑k:Int))).toNat E)).length:Int))/\fp.preWide (List.take ((↑(List.take (IntKind.i64.wrap ((128:Int)*IntKind.i64.wrap ((↑k:Int)+(1:Int)))-IntKind.i64.wrap ((128:Int)*(↑k:Int))).toNat (List.drop (IntKind.i64.wrap ((128:Int)*(↑k:Int))).toNat E)).length:Int)-(64:Int)).toNat (List.drop (64:Nat) (List.take (IntKind.i64.wrap ((128:Int)*IntKind.i64.wrap ((↑k:Int)+(1:Int)))-IntKind.i64.wrap ((128:Int)*(↑k:Int))).toNat (List.drop (IntKind.i64.wrap ((128:Int)*(↑k:Int))).toNat E))),())/\((0:Int)<=(↑k:Int)/\(↑k:Int)<(↑n.toNat:Int))/\(↑k:Int).toNat<n.toNat/\(nuI E n (IntKind.i64.wrap ((↑k:Int)+(1:Int)),l.set (↑k:Int).toNat (zmp (num (List.take 64 (List.take (IntKind.i64.wrap ((128:Int)*IntKind.i64.wrap ((↑k:Int)+(1:Int)))-IntKind.i64.wrap ((128:Int)*(↑k:Int))).toNat (List.drop (IntKind.i64.wrap ((128:Int)*(↑k:Int))).toNat E)))),zmp (num (List.take ((↑(List.take (IntKind.i64.wrap ((128:Int)*IntKind.i64.wrap ((↑k:Int)+(1:Int)))-IntKind.i64.wrap ((128:Int)*(↑k:Int))).toNat (List.drop (IntKind.i64.wrap ((128:Int)*(↑k:Int))).toNat E)).length:Int)-(64:Int)).toNat (List.drop (64:Nat) (List.take (IntKind.i64.wrap ((128:Int)*IntKind.i64.wrap ((↑k:Int)+(1:Int)))-IntKind.i64.wrap ((128:Int)*(↑k:Int))).toNat (List.drop (IntKind.i64.wrap ((128:Int)*(↑k:Int))).toNat E)))))))).triv ((∃ k_1,k_1<=n.toNat/\IntKind.i64.wrap ((↑k:Int)+(1:Int))=(↑k_1:Int)/\l.set (↑k:Int).toNat (zmp (num (List.take 64 (List.take (IntKind.i64.wrap ((128:Int)*IntKind.i64.wrap ((↑k:Int)+(1:Int)))-IntKind.i64.wrap ((128:Int)*(↑k:Int))).toNat (List.drop (IntKind.i64.wrap ((128:Int)*(↑k:Int))).toNat E)))),zmp (num (List.take ((↑(List.take (IntKind.i64.wrap ((128:Int)*IntKind.i64.wrap ((↑k:Int)+(1:Int)))-IntKind.i64.wrap ((128:Int)*(↑k:Int))).toNat (List.drop (IntKind.i64.wrap ((128:Int)*(↑k:Int))).toNat E)).length:Int)-(64:Int)).toNat (List.drop (64:Nat) (List.take (IntKind.i64.wrap ((128:Int)*IntKind.i64.wrap ((↑k:Int)+(1:Int)))-IntKind.i64.wrap ((128:Int)*(↑k:Int))).toNat (List.drop (IntKind.i64.wrap ((128:Int)*(↑k:Int))).toNat E))))))=nuL E n.toNat k_1)/\n.toNat-(IntKind.i64.wrap ((↑k:Int)+(1:Int))).toNat<n.toNat-(↑k:Int).toNat))/\(decide ((↑k:Int)<(↑n.toNat:Int))=false->(nuI E n ((↑k:Int),l)).triv (l=nums m t n.toNat)))) (by kernel_rfl) ?_
  rw[e1,e2,e3,e4]
  simp only[Int.toNat_natCast]
  refine⟨fun h=>?_,fun h=>tvi ?_⟩
  ·have hlt:k<n.toNat:=by have:=of_decide_eq_true h;omega
   have lp:(List.take 128 (List.drop (128*k) E)).length=128:=by rw[List.length_take,List.length_drop];omega
   rw[lp]
   have e5:(((128:Nat):Int)-64).toNat=64:=rfl
   rw[e5,cut_a,cut_b]
   have hb:=expo_Bs m t (128*n)
   rw[<- hE] at hb
   have pw:∀ a:Nat,fp.preWide (List.take 64 (List.drop a E),()):=fun a=>⟨fun x hx=>hb x (List.mem_of_mem_drop (List.mem_of_mem_take hx)),by
    show (List.take 64 (List.drop a E)).length<_
    rw[List.length_take];omega⟩
   refine⟨⟨by omega,by omega,by omega⟩,⟨by decide,by decide⟩,pw _,⟨by decide,by decide⟩,pw _,⟨by omega,by omega⟩,hlt,tvi ⟨⟨k+1,hlt,rfl,?_⟩,?_⟩⟩
   ·show l.set k (nmb E k)=_
    rw[kl,nuL_step hlt]
   ·show n.toNat-((k+1:Nat):Int).toNat<n.toNat-(k:Int).toNat
    rw[Int.toNat_natCast,Int.toNat_natCast];omega
  ·have hk':k=n.toNat:=by have:=of_decide_eq_false h;omega
   show l=_
   rw[kl,hk',nuL,Nat.sub_self,List.replicate_zero,List.append_nil,nums,opq_eq,hE]
   have e6:128*(n.toNat:Int)=128*n:=by omega
   rw[e6]
 rintro⟨i,l⟩ hj
 revert i l
 intro (i:Int) (l:List F2) (hj:l=nums m t n.toNat)
 refine tr_vc hsp mixed _ _ ?_
 refine vcx (X:=((0:Nat)+n.toNat<=n.toNat/\(List.take n.toNat l,(0:Int),())=((nuA m t n).fst,(nuA m t n).snd,()))) (by kernel_rfl) ?_
 have eN:nuA m t n=(nums m t n.toNat,0):=by
  rw[nuA,decide_eq_false (by omega),decide_eq_false (by omega)];rfl
 rw[eN,hj,List.take_of_length_le (by rw[nums_len];exact Nat.le_refl _)]
 exact⟨by omega,rfl⟩
end
end Go.Proofs.YtbeeaekepmnfhaaGreatDoor.xmd
namespace Go.Proofs.YtbeeaekepmnfhaaGreatDoor.tower
noncomputable section
open Go Go.Eng Go.RowKit Cr fp2
abbrev f6k:Kd:=.pair f2 (.pair f2 f2)
abbrev f12k:Kd:=.pair f6k f6k
theorem ent_turn:enters Tryz.prog 212 Tryz.f212:=ek
abbrev outTurn:HL [f2]->HO [.val f2]:=fun (x,_)=>(xi*(x:F2),())
theorem fn_turn:FnOk Tryz.prog 212 [f2] [.val f2] noG (fun _=>True) outTurn:=by
 refine fn_of_vc (sp:=sps [fp.spSub,fp.spAdd]) (spk (fok fp.fn_sub) (spk (fok fp.fn_add) snl)) mixed ent_turn (by decide) (by decide) ?_
 rintro w M0 ⟨x,⟨⟩⟩
 revert x
 intro (x:F2) _ _
 refine vcx (X:=(True/\True/\((x.fst-x.snd,x.fst+x.snd),())=outTurn (x,()))) (by kernel_rfl) ?_
 repeat refine⟨trivial,?_⟩
 show _=(xi*x,())
 rw[xi_mul]
def spTurn:Nat × Eng.Spec:=(212,fnSpec [f2] [.val f2] (fun _=>True) outTurn)
theorem ent_cadd:enters Tryz.prog 205 Tryz.f205:=ek
abbrev outCadd:HL [f6k,f6k]->HO [.val f6k]:=fun (x,y,_)=>((x:F6)+(y:F6),())
theorem fn_cadd:FnOk Tryz.prog 205 [f6k,f6k] [.val f6k] noG (fun _=>True) outCadd:=by
 refine fn_of_vc (sp:=sps [fp2.spAdd]) (spk (fok fp2.fn_add) snl) mixed ent_cadd (by decide) (by decide) ?_
 rintro w M0 ⟨x,y,⟨⟩⟩
 revert x y
 intro (x:F6) (y:F6) _ _
 refine vcx (X:=(True/\True/\True/\((x.fst+y.fst,x.snd.fst+y.snd.fst,x.snd.snd+y.snd.snd),())=outCadd (x,y,()))) (by kernel_rfl) ?_
 repeat refine⟨trivial,?_⟩
 show _=(x+y,())
 rw[F6.add_def]
def spCadd:Nat × Eng.Spec:=(205,fnSpec [f6k,f6k] [.val f6k] (fun _=>True) outCadd)
theorem ent_csub:enters Tryz.prog 203 Tryz.f203:=ek
abbrev outCsub:HL [f6k,f6k]->HO [.val f6k]:=fun (x,y,_)=>((x:F6)-(y:F6),())
theorem fn_csub:FnOk Tryz.prog 203 [f6k,f6k] [.val f6k] noG (fun _=>True) outCsub:=by
 refine fn_of_vc (sp:=sps [fp2.spSub]) (spk (fok fp2.fn_sub) snl) mixed ent_csub (by decide) (by decide) ?_
 rintro w M0 ⟨x,y,⟨⟩⟩
 revert x y
 intro (x:F6) (y:F6) _ _
 refine vcx (X:=(True/\True/\True/\((x.fst-y.fst,x.snd.fst-y.snd.fst,x.snd.snd-y.snd.snd),())=outCsub (x,y,()))) (by kernel_rfl) ?_
 repeat refine⟨trivial,?_⟩
 show _=(x-y,())
 rw[F6.sub_def]
def spCsub:Nat × Eng.Spec:=(203,fnSpec [f6k,f6k] [.val f6k] (fun _=>True) outCsub)
theorem ent_shift:enters Tryz.prog 206 Tryz.f206:=ek
abbrev outShift:HL [f6k]->HO [.val f6k]:=fun (x,_)=>(vv*(x:F6),())
theorem fn_shift:FnOk Tryz.prog 206 [f6k] [.val f6k] noG (fun _=>True) outShift:=by
 refine fn_of_vc (sp:=sps [spTurn]) (spk (fok fn_turn) snl) mixed ent_shift (by decide) (by decide) ?_
 rintro w M0 ⟨x,⟨⟩⟩
 revert x
 intro (x:F6) _ _
 refine vcx (X:=(True/\((xi*x.snd.snd,x.fst,x.snd.fst),())=outShift (x,()))) (by kernel_rfl) ?_
 repeat refine⟨trivial,?_⟩
 show _=(vv*x,())
 rw[vv_mul]
def spShift:Nat × Eng.Spec:=(206,fnSpec [f6k] [.val f6k] (fun _=>True) outShift)
theorem ent_cmul:enters Tryz.prog 204 Tryz.f204:=ek
abbrev outCmul:HL [f6k,f6k]->HO [.val f6k]:=fun (x,y,_)=>((x:F6)*(y:F6),())
theorem fn_cmul:FnOk Tryz.prog 204 [f6k,f6k] [.val f6k] noG (fun _=>True) outCmul:=by
 refine fn_of_vc (sp:=sps [fp2.spMul,fp2.spAdd,fp2.spSub,spTurn]) (spk (fok fp2.fn_mul) (spk (fok fp2.fn_add) (spk (fok fp2.fn_sub) (spk (fok fn_turn) snl)))) mixed ent_cmul (by decide) (by decide) ?_
 rintro w M0 ⟨x,y,⟨⟩⟩
 revert x y
 intro (x:F6) (y:F6) _ _
 refine vcx (X:=(True/\True/\True/\True/\True/\True/\True/\True/\True/\True/\True/\True/\True/\True/\True/\True/\True/\True/\True/\True/\True/\True/\True/\((x.fst*y.fst+xi*((x.snd.fst+x.snd.snd)*(y.snd.fst+y.snd.snd)-x.snd.fst*y.snd.fst-x.snd.snd*y.snd.snd),(x.fst+x.snd.fst)*(y.fst+y.snd.fst)-x.fst*y.fst-x.snd.fst*y.snd.fst+xi*(x.snd.snd*y.snd.snd),(x.fst+x.snd.snd)*(y.fst+y.snd.snd)-x.fst*y.fst-x.snd.snd*y.snd.snd+x.snd.fst*y.snd.fst),())=outCmul (x,y,()))) (by kernel_rfl) ?_
 repeat refine⟨trivial,?_⟩
 exact congrArg (fun t:F6=>(t,())) (tw_mul x y)
def spCmul:Nat × Eng.Spec:=(204,fnSpec [f6k,f6k] [.val f6k] (fun _=>True) outCmul)
theorem ent_pair:enters Tryz.prog 209 Tryz.f209:=ek
abbrev outPair:HL [f6k,f2,f2]->HO [.val f6k]:=fun (x,a,b,_)=>((x:F6)*((a,b,(0:F2)):F6),())
theorem fn_pair:FnOk Tryz.prog 209 [f6k,f2,f2] [.val f6k] noG (fun _=>True) outPair:=by
 refine fn_of_vc (sp:=sps [fp2.spMul,fp2.spAdd,fp2.spSub,spTurn]) (spk (fok fp2.fn_mul) (spk (fok fp2.fn_add) (spk (fok fp2.fn_sub) (spk (fok fn_turn) snl)))) mixed ent_pair (by decide) (by decide) ?_
 rintro w M0 ⟨x,a,b,⟨⟩⟩
 revert x a b
 intro (x:F6) (a:F2) (b:F2) _ _
 refine vcx (X:=(True/\True/\True/\True/\True/\True/\True/\True/\True/\True/\True/\True/\((x.fst*a+xi*(x.snd.snd*b),(x.fst+x.snd.fst)*(a+b)-x.fst*a-x.snd.fst*b,x.snd.fst*b+x.snd.snd*a),())=outPair (x,a,b,()))) (by kernel_rfl) ?_
 repeat refine⟨trivial,?_⟩
 exact congrArg (fun t:F6=>(t,())) (tw_pair x a b)
def spPair:Nat × Eng.Spec:=(209,fnSpec [f6k,f2,f2] [.val f6k] (fun _=>True) outPair)
theorem ent_scale:enters Tryz.prog 210 Tryz.f210:=ek
abbrev outScale:HL [f6k,f2]->HO [.val f6k]:=fun (x,k,_)=>((x:F6)*((k,(0:F2),(0:F2)):F6),())
theorem fn_scale:FnOk Tryz.prog 210 [f6k,f2] [.val f6k] noG (fun _=>True) outScale:=by
 refine fn_of_vc (sp:=sps [fp2.spMul]) (spk (fok fp2.fn_mul) snl) mixed ent_scale (by decide) (by decide) ?_
 rintro w M0 ⟨x,k,⟨⟩⟩
 revert x k
 intro (x:F6) (k:F2) _ _
 refine vcx (X:=(True/\True/\True/\((x.fst*k,x.snd.fst*k,x.snd.snd*k),())=outScale (x,k,()))) (by kernel_rfl) ?_
 repeat refine⟨trivial,?_⟩
 exact congrArg (fun t:F6=>(t,())) (tw_scale x k)
def spScale:Nat × Eng.Spec:=(210,fnSpec [f6k,f2] [.val f6k] (fun _=>True) outScale)
theorem ent_cinv:enters Tryz.prog 207 Tryz.f207:=ek
abbrev outCinv:HL [f6k]->HO [.val f6k]:=fun (x,_)=>(Fd.inv (x:F6),())
theorem fn_cinv:FnOk Tryz.prog 207 [f6k] [.val f6k] noG (fun _=>True) outCinv:=by
 refine fn_of_vc (sp:=sps [fp2.spSquare,fp2.spMul,fp2.spSub,fp2.spAdd,spTurn,fp2.spInv,spScale]) (spk (fok fp2.fn_square) (spk (fok fp2.fn_mul) (spk (fok fp2.fn_sub) (spk (fok fp2.fn_add) (spk (fok fn_turn) (spk (fok fp2.fn_inv) (spk (fok fn_scale) snl))))))) mixed ent_cinv (by decide) (by decide) ?_
 rintro w M0 ⟨x,⟨⟩⟩
 revert x
 intro (x:F6) _ _
 refine vcx (X:=(True/\True/\True/\True/\True/\True/\True/\True/\True/\True/\True/\True/\True/\True/\True/\True/\True/\True/\True/\((x.fst*x.fst-xi*(x.snd.fst*x.snd.snd),xi*(x.snd.snd*x.snd.snd)-x.fst*x.snd.fst,x.snd.fst*x.snd.fst-x.fst*x.snd.snd)*(inv2 (x.fst*(x.fst*x.fst-xi*(x.snd.fst*x.snd.snd))+xi*(x.snd.snd*(xi*(x.snd.snd*x.snd.snd)-x.fst*x.snd.fst)+x.snd.fst*(x.snd.fst*x.snd.fst-x.fst*x.snd.snd))),(0:F2),(0:F2)),())=outCinv (x,()))) (by kernel_rfl) ?_
 repeat refine⟨trivial,?_⟩
 exact congrArg (fun t:F6=>(t,())) (tw_inv x)
def spCinv:Nat × Eng.Spec:=(207,fnSpec [f6k] [.val f6k] (fun _=>True) outCinv)
theorem ent_one:enters Tryz.prog 145 Tryz.f145:=ek
abbrev outOne:HL []->HO [.val f12k]:=fun _=>((1:F12),())
theorem fn_one:FnOk Tryz.prog 145 [] [.val f12k] noG (fun _=>True) outOne:=by
 refine fn_of_vc (sp:=sps [fp2.spSmall]) (spk (fok fp2.fn_small) snl) mixed ent_one (by decide) (by decide) ?_
 rintro w M0 ⟨⟩ _ _
 refine vcx (X:=((U64 (1:Int)/\U64 (0:Int))/\((((zmp (1:Int),zmp (0:Int)),((0:Fp),(0:Fp)),(0:Fp),(0:Fp)),((0:Fp),(0:Fp)),((0:Fp),(0:Fp)),(0:Fp),(0:Fp)),())=outOne ())) (by kernel_rfl) ?_
 have h1:zmp 1=(1:Fp):=Zm.ext (by decide)
 have h0:zmp 0=(0:Fp):=Zm.ext (by decide)
 rw[h1,h0]
 exact⟨⟨⟨by decide,by decide⟩,⟨by decide,by decide⟩⟩,rfl⟩
def spOne:Nat × Eng.Spec:=(145,fnSpec [] [.val f12k] (fun _=>True) outOne)
theorem ent_mul:enters Tryz.prog 181 Tryz.f181:=ek
abbrev outMul:HL [f12k,f12k]->HO [.val f12k]:=fun (x,y,_)=>((x:F12)*(y:F12),())
theorem fn_mul:FnOk Tryz.prog 181 [f12k,f12k] [.val f12k] noG (fun _=>True) outMul:=by
 refine fn_of_vc (sp:=sps [spCmul,spCadd,spCsub,spShift]) (spk (fok fn_cmul) (spk (fok fn_cadd) (spk (fok fn_csub) (spk (fok fn_shift) snl)))) mixed ent_mul (by decide) (by decide) ?_
 rintro w M0 ⟨x,y,⟨⟩⟩
 revert x y
 intro (x:F12) (y:F12) _ _
 refine vcx (X:=(True/\True/\True/\True/\True/\True/\True/\True/\True/\((x.fst*y.fst+vv*(x.snd*y.snd),(x.fst+x.snd)*(y.fst+y.snd)-x.fst*y.fst-x.snd*y.snd),())=outMul (x,y,()))) (by kernel_rfl) ?_
 repeat refine⟨trivial,?_⟩
 exact congrArg (fun t:F12=>(t,())) (tw_emul x y)
def spMul:Nat × Eng.Spec:=(181,fnSpec [f12k,f12k] [.val f12k] (fun _=>True) outMul)
theorem ent_square:enters Tryz.prog 186 Tryz.f186:=ek
abbrev outSquare:HL [f12k]->HO [.val f12k]:=fun (x,_)=>((x:F12)*(x:F12),())
theorem fn_square:FnOk Tryz.prog 186 [f12k] [.val f12k] noG (fun _=>True) outSquare:=by
 refine fn_of_vc (sp:=sps [spCmul,spCadd,spCsub,spShift]) (spk (fok fn_cmul) (spk (fok fn_cadd) (spk (fok fn_csub) (spk (fok fn_shift) snl)))) mixed ent_square (by decide) (by decide) ?_
 rintro w M0 ⟨x,⟨⟩⟩
 revert x
 intro (x:F12) _ _
 refine vcx (X:=(True/\True/\True/\True/\True/\True/\True/\True/\True/\(((x.fst+x.snd)*(x.fst+vv*x.snd)-x.fst*x.snd-vv*(x.fst*x.snd),x.fst*x.snd+x.fst*x.snd),())=outSquare (x,()))) (by kernel_rfl) ?_
 repeat refine⟨trivial,?_⟩
 exact congrArg (fun t:F12=>(t,())) (tw_esq x)
def spSquare:Nat × Eng.Spec:=(186,fnSpec [f12k] [.val f12k] (fun _=>True) outSquare)
theorem ent_conj:enters Tryz.prog 180 Tryz.f180:=ek
abbrev outConj:HL [f12k]->HO [.val f12k]:=fun (x,_)=>(conj12 x,())
theorem fn_conj:FnOk Tryz.prog 180 [f12k] [.val f12k] noG (fun _=>True) outConj:=by
 refine fn_of_vc (sp:=sps [spCsub]) (spk (fok fn_csub) snl) mixed ent_conj (by decide) (by decide) ?_
 rintro w M0 ⟨x,⟨⟩⟩
 revert x
 intro (x:F12) _ _
 refine vcx (X:=(True/\((x.fst,(((0:Fp),(0:Fp)),((0:Fp),(0:Fp)),(0:Fp),(0:Fp))-x.snd),())=outConj (x,()))) (by kernel_rfl) ?_
 repeat refine⟨trivial,?_⟩
 exact congrArg (fun t:F12=>(t,())) (tw_conj x)
theorem ent_inv:enters Tryz.prog 182 Tryz.f182:=ek
abbrev outInv:HL [f12k]->HO [.val f12k]:=fun (x,_)=>(Fd.inv (x:F12),())
theorem fn_inv:FnOk Tryz.prog 182 [f12k] [.val f12k] noG (fun _=>True) outInv:=by
 refine fn_of_vc (sp:=sps [spCmul,spCsub,spShift,spCinv]) (spk (fok fn_cmul) (spk (fok fn_csub) (spk (fok fn_shift) (spk (fok fn_cinv) snl)))) mixed ent_inv (by decide) (by decide) ?_
 rintro w M0 ⟨x,⟨⟩⟩
 revert x
 intro (x:F12) _ _
 refine vcx (X:=(True/\True/\True/\True/\True/\True/\True/\True/\((x.fst*Fd.inv (x.fst*x.fst-vv*(x.snd*x.snd)),(((0:Fp),(0:Fp)),((0:Fp),(0:Fp)),(0:Fp),(0:Fp))-x.snd*Fd.inv (x.fst*x.fst-vv*(x.snd*x.snd))),())=outInv (x,()))) (by kernel_rfl) ?_
 repeat refine⟨trivial,?_⟩
 exact congrArg (fun t:F12=>(t,())) (tw_einv x)
theorem ent_line:enters Tryz.prog 188 Tryz.f188:=ek
abbrev outLine:HL [f12k,f2,f2,f2]->HO [.val f12k]:=fun (x,a,b,c,_)=>((x:F12)*line12 a b c,())
theorem fn_line:FnOk Tryz.prog 188 [f12k,f2,f2,f2] [.val f12k] noG (fun _=>True) outLine:=by
 refine fn_of_vc (sp:=sps [spPair,spScale,spShift,spCadd,spCsub,fp2.spAdd]) (spk (fok fn_pair) (spk (fok fn_scale) (spk (fok fn_shift) (spk (fok fn_cadd) (spk (fok fn_csub) (spk (fok fp2.fn_add) snl)))))) mixed ent_line (by decide) (by decide) ?_
 rintro w M0 ⟨x,a,b,c,⟨⟩⟩
 revert x a b c
 intro (x:F12) (a:F2) (b:F2) (c:F2) _ _
 refine vcx (X:=(True/\True/\True/\True/\True/\True/\True/\True/\True/\True/\((x.fst*(a,b,(0:F2))+vv*(vv*(x.snd*(c,(0:F2),(0:F2)))),(x.fst+x.snd)*(a,b+c,(0:F2))-x.fst*(a,b,(0:F2))-vv*(x.snd*(c,(0:F2),(0:F2)))),())=outLine (x,a,b,c,()))) (by kernel_rfl) ?_
 repeat refine⟨trivial,?_⟩
 exact congrArg (fun t:F12=>(t,())) (tw_line x a b c)
def spLine:Nat × Eng.Spec:=(188,fnSpec [f12k,f2,f2,f2] [.val f12k] (fun _=>True) outLine)
end
end Go.Proofs.YtbeeaekepmnfhaaGreatDoor.tower
namespace Go.Proofs.YtbeeaekepmnfhaaGreatDoor.tower
noncomputable section
open Go Go.Eng Go.RowKit Cr fp2
def tp (e:Nat):Fp:=zpow (1+1:Fp) e
theorem tp_sq (e:Nat):tp e*tp e=tp (2*e):=by rw[tp,tp,<- zpow_add',show e+e=2*e by omega]
theorem tp_succ (e:Nat):tp e+tp e=tp (e+1):=by
 show tp e+tp e=zpow (1+1:Fp) e*(1+1)
 rw[Rg.mul_add,Rg.mul_one];rfl
theorem or_byte (r b:Nat) (hr:r<4294967296) (hb:b<256):bitOp .or .i64 ((r*256:Nat):Int) (b:Int)=((r*256+b:Nat):Int):=by
 have e:((BitVec.ofInt 64 ((r*256:Nat):Int) ||| BitVec.ofInt 64 (b:Int):BitVec 64).toNat)=r*256+b:=by
  rw[BitVec.toNat_or,BitVec.toNat_ofInt,BitVec.toNat_ofInt]
  have h1:(((r*256:Nat):Int)%((2^64:Nat):Int)).toNat=r <<< 8:=by rw[Nat.shiftLeft_eq];omega
  have h2:((b:Int)%((2^64:Nat):Int)).toNat=b:=by omega
  rw[h1,h2,<- Nat.shiftLeft_add_eq_or_of_lt (by omega),Nat.shiftLeft_eq]
 show IntKind.i64.wrap (((BitVec.ofInt 64 ((r*256:Nat):Int) ||| BitVec.ofInt 64 (b:Int):BitVec 64).toNat:Nat):Int)=_
 rw[e]
 exact wrap_i64' (by omega) (by omega)
theorem and_one (n:Nat) (hn:n<4294967296):bitOp .and .i64 (n:Int) 1=((n%2:Nat):Int):=by
 have e:((BitVec.ofInt 64 (n:Int) &&& BitVec.ofInt 64 1:BitVec 64).toNat)=n%2:=by
  rw[BitVec.toNat_and,BitVec.toNat_ofInt,BitVec.toNat_ofInt]
  have h1:((n:Int)%((2^64:Nat):Int)).toNat=n:=by omega
  have h2:((1:Int)%((2^64:Nat):Int)).toNat=1:=by omega
  rw[h1,h2,Nat.and_one_is_mod]
 show IntKind.i64.wrap (((BitVec.ofInt 64 (n:Int) &&& BitVec.ofInt 64 1:BitVec 64).toNat:Nat):Int)=_
 rw[e]
 exact wrap_i64' (by omega) (by omega)
theorem ent_root:enters Tryz.prog 158 Tryz.f158:=ek
abbrev rBs:List Int:=bytesN 48 (Zm.v (-(zm 1:Fp)))
theorem rBs_len:List.length rBs=48:=bytesN_length 48 _
def rtA (bs:List Int) (g:Int × Fp × Int):St:=mkSt Tryz.f158.ntmps 72 [(0,.is (.one (.ptr 0 0))),(1,.is (.one (.ptr 16 0))),(2,sI .i64 g.2.2),(10,sA .u8 48 bs),(11,sI .i64 g.1)] [(16,[.row .fp 1 [g.2.1]]),(0,[.row .fp 1 [(0:Fp)],.row .fp 1 [(0:Fp)]])]
def rtB (bs:List Int) (i rest dg:Int) (g:Int × Fp):St:=mkSt Tryz.f158.ntmps 72 [(0,.is (.one (.ptr 0 0))),(1,.is (.one (.ptr 16 0))),(2,sI .i64 rest),(5,sI .i64 dg),(10,sA .u8 48 bs),(11,sI .i64 i),(23,sI .i64 g.1)] [(16,[.row .fp 1 [g.2]]),(0,[.row .fp 1 [(0:Fp)],.row .fp 1 [(0:Fp)]])]
def rtO (x:Fp):St:=mkSt Tryz.f158.ntmps 72 [(0,.is (.one (.ptr 0 0))),(1,.is (.one (.ptr 16 0)))] [(16,[.row .fp 1 [x]]),(0,[.row .fp 1 [(0:Fp)],.row .fp 1 [(0:Fp)]])]
def rtJ (bs:List Int) (g:Int × Fp × Int):Prop:=∃ k:Nat,k<=48/\g.1=(k:Int)/\g.2.1=tp (num (bs.take k)/12).toNat/\g.2.2=num (bs.take k)%12
def rootK:Fp:=tp (num rBs/12).toNat
theorem fn_root:FnOk Tryz.prog 158 [] [.val f2] noG (fun _=>True) (fun _=>((rootK,-rootK),())):=by
 have hsp:SpecsOk Tryz.prog (sps [fp.spOf,fp.spNeg,fp.spBytes,fp.spSquare,fp.spAdd]):=spk (fok fp.fn_of) (spk (fok fp.fn_neg) (spk (fok fp.fn_bytes) (spk (fok fp.fn_square) (spk (fok fp.fn_add) snl))))
 refine fn_of_tr (sp:=sps [fp.spOf,fp.spNeg,fp.spBytes,fp.spSquare,fp.spAdd]) ent_root (by decide) (by decide) (by kernel_rfl) ?_
 rintro w M0 ⟨⟩ _ _
 show Tr _ _ _ _ _ _ _
 refine tr_cut hsp mixed 3 (rtA rBs (0,zm 1,0)) True ?_ (fun _=>?_)
 ·refine vcx (X:=(U64 (1:Int)/\U64 (1:Int)/\True/\True/\(rtA rBs ((0:Int),zmp (1:Int),(0:Int))).triv True)) (by kernel_rfl) ?_
  exact⟨⟨by decide,by decide⟩,⟨by decide,by decide⟩,trivial,trivial,tvi trivial⟩
 refine tr_whileT noSw (fun σ=>(rdS (.int .i64) 11 σ,rdB .fp 16 σ,rdS (.int .i64) 2 σ)) (rtA rBs) (rtJ rBs) (fun g=>48-g.1.toNat)
  (fun σ=>rdB .fp 16 σ) rtO (fun x=>x=rootK) (0,zm 1,0) (c:=nthC (codeOf Tryz.f158) 3) (by kernel_rfl) (by kernel_rfl) (le_of_proj (by kernel_rfl) (by kernel_rfl) ?_) ?_ ?_
 ·refine⟨0,by decide,rfl,?_,rfl⟩
  exact Zm.ext (by decide)
 ·rintro⟨i,x,rest⟩ hj
  revert i x rest
  intro (i:Int) (x:Fp) (rest:Int) ⟨k,hk,ei,ex,er⟩
  have ei:i=(k:Int):=ei
  subst ei
  have hbd:=num_bd (l:=rBs.take k) (fun x hx=>(bytesN_Bs 48 _:Bs rBs) x (List.mem_of_mem_take hx))
  refine tr_cut hsp mixed 2 (rtA rBs ((k:Int),x,rest)) (k<48) ?_ (fun hlt=>?_)
  ·refine vcx (X:=((decide ((↑k:Int)<(48:Int))=true->(rtA rBs ((↑k:Int),x,rest)).triv (k<(48:Nat)))/\(decide ((↑k:Int)<(48:Int))=false->(rtO x).triv (x=rootK)))) (by kernel_rfl) ?_
   refine⟨fun h=>tvi (by have:=of_decide_eq_true h;omega),fun h=>tvi ?_⟩
   have e48:k=48:=by have:=of_decide_eq_false h;omega
   have ex:x=tp (num (rBs.take k)/12).toNat:=ex
   rw[ex,e48,List.take_of_length_le (by rw[rBs_len];decide)];rfl
  refine tr_block (c:=nthC (loopOf (nthC (codeOf Tryz.f158) 3)) 2) (by kernel_rfl) (by kernel_rfl) ?_
  have hkl:k<List.length rBs:=by rw[rBs_len];exact hlt
  obtain⟨b,hb⟩:∃ b,b=rBs.getD k 0:=⟨_,rfl⟩
  have hb0:0<=b/\b<256:=by
   rw[hb];simp only[List.getD_eq_getElem?_getD,List.getElem?_eq_getElem hkl,Option.getD_some]
   exact (bytesN_Bs 48 _:Bs rBs) _ (List.getElem_mem hkl)
  refine tr_cutF hsp mixed 5 (fun σ=>(rdS (.int .i64) 2 σ,rdS (.int .i64) 5 σ)) (fun g=>rtB rBs k g.1 g.2 (0,x)) (fun g=>g.1=(rest*256+b)%12/\g.2=(rest*256+b)/12) ?_ ?_
  ·refine vcx (X:=(((0:Int)<=(↑k:Int)/\(↑k:Int)<(↑(48:Nat):Int))/\(0:Int)<=(8:Int)/\((12:Int)=(0:Int)->False)/\((12:Int)=(0:Int)->False)/\(rtB rBs (↑k:Int) ((bitOp BinOp.or IntKind.i64 (IntKind.i64.wrap (rest*(2:Int)^min (8:Nat) IntKind.i64.bits)) (IntKind.i64.wrap (rBs.getD (↑k:Int).toNat (0:Int)))).tmod (12:Int),IntKind.i64.wrap ((bitOp BinOp.or IntKind.i64 (IntKind.i64.wrap (rest*(2:Int)^min (8:Nat) IntKind.i64.bits)) (IntKind.i64.wrap (rBs.getD (↑k:Int).toNat (0:Int)))).tdiv (12:Int))).fst ((bitOp BinOp.or IntKind.i64 (IntKind.i64.wrap (rest*(2:Int)^min (8:Nat) IntKind.i64.bits)) (IntKind.i64.wrap (rBs.getD (↑k:Int).toNat (0:Int)))).tmod (12:Int),IntKind.i64.wrap ((bitOp BinOp.or IntKind.i64 (IntKind.i64.wrap (rest*(2:Int)^min (8:Nat) IntKind.i64.bits)) (IntKind.i64.wrap (rBs.getD (↑k:Int).toNat (0:Int)))).tdiv (12:Int))).snd ((0:Int),x)).triv ((bitOp BinOp.or IntKind.i64 (IntKind.i64.wrap (rest*(2:Int)^min (8:Nat) IntKind.i64.bits)) (IntKind.i64.wrap (rBs.getD (↑k:Int).toNat (0:Int)))).tmod (12:Int)=(rest*(256:Car (Kd.int IntKind.i64))+b)%(12:Car (Kd.int IntKind.i64))/\IntKind.i64.wrap ((bitOp BinOp.or IntKind.i64 (IntKind.i64.wrap (rest*(2:Int)^min (8:Nat) IntKind.i64.bits)) (IntKind.i64.wrap (rBs.getD (↑k:Int).toNat (0:Int)))).tdiv (12:Int))=(rest*(256:Car (Kd.int IntKind.i64))+b)/(12:Car (Kd.int IntKind.i64))))) (by kernel_rfl) ?_
   have er:rest=num (rBs.take k)%12:=er
   have hr0:0<=rest/\rest<12:=by rw[er];omega
   obtain⟨rn,hrn⟩:=Int.eq_ofNat_of_zero_le hr0.1
   obtain⟨bn,hbn⟩:=Int.eq_ofNat_of_zero_le hb0.1
   have e1:IntKind.i64.wrap (rest*2^min (8:Nat) IntKind.i64.bits)=((rn*256:Nat):Int):=by
    show IntKind.i64.wrap (rest*256)=_
    rw[wrap_i64' (by omega) (by omega)];omega
   have e2:IntKind.i64.wrap (rBs.getD (k:Int).toNat 0)=(bn:Int):=by
    rw[Int.toNat_natCast,<- hb,wrap_i64' (by omega) (by omega),hbn]
   have e3:rest*256+b=((rn*256+bn:Nat):Int):=by rw[hrn,hbn];simp
   rw[e1,e2,or_byte rn bn (by omega) (by omega)]
   have e4:((rn*256+bn:Nat):Int).tmod 12=(rest*256+b)%12:=by rw[Int.tmod_eq_emod_of_nonneg (by omega),e3]
   have e5:IntKind.i64.wrap (((rn*256+bn:Nat):Int).tdiv 12)=(rest*256+b)/12:=by rw[Int.tdiv_eq_ediv_of_nonneg (by omega),wrap_i64' (by omega) (by omega),e3]
   rw[e4,e5]
   exact⟨⟨by omega,by omega⟩,by decide,by decide,by decide,tvi ⟨rfl,rfl⟩⟩
  rintro⟨r2,dg⟩ hrd
  revert r2 dg
  intro (r2:Int) (dg:Int) ⟨hr2,hdg⟩
  have hr2:r2=(rest*256+b)%12:=hr2
  have hdg:dg=(rest*256+b)/12:=hdg
  have hdg0:0<=dg/\dg<256:=by
   have er:rest=num (rBs.take k)%12:=er
   rw[hdg];omega
  refine tr_while hsp mixed noSw (fun σ=>(rdS (.int .i64) 23 σ,rdB .fp 16 σ)) (rtB rBs k r2 dg) (fun g=>∃ j:Nat,j<=8/\g.1=(j:Int)/\g.2=tp (((num (rBs.take k)/12).toNat)*2^j+dg.toNat/2^(8-j))) (fun g=>8-g.1.toNat)
   (fun σ=>rdB .fp 16 σ) (fun y=>rtA rBs ((k:Int),y,r2)) (fun y=>y=tp (((num (rBs.take k)/12).toNat)*256+dg.toNat)) (0,x) (c:=nthC (bodyOf (nthC (loopOf (nthC (codeOf Tryz.f158) 3)) 2)) 5) (by kernel_rfl) (by kernel_rfl) (le_of_proj (by kernel_rfl) (by kernel_rfl) ?_) ?_ ?_
  ·refine⟨0,by decide,rfl,?_⟩
   have ex:x=tp (num (rBs.take k)/12).toNat:=ex
   rw[Nat.pow_zero,Nat.mul_one,show 8-0=8 from rfl,show (2:Nat)^8=256 from rfl,Nat.div_eq_of_lt (by omega),Nat.add_zero]
   exact ex
  ·rintro⟨j,y⟩ hj
   revert j y
   intro (j:Int) (y:Fp) ⟨t,ht,ej,ey⟩
   have ej:j=(t:Int):=ej
   subst ej
   refine vcx (X:=((decide ((↑t:Int)<(8:Int))=true->True/\(0:Int)<=IntKind.i64.wrap ((7:Int)-(↑t:Int))/\((bitOp BinOp.and IntKind.i64 (dg.fdiv ((2:Int)^min (IntKind.i64.wrap ((7:Int)-(↑t:Int))).toNat IntKind.i64.bits)) (1:Int)==(1:Int))=true->True/\(rtB rBs (↑k:Int) r2 dg (IntKind.i64.wrap ((↑t:Int)+(1:Int)),y*y+y*y)).triv ((∃ j,j<=(8:Nat)/\IntKind.i64.wrap ((↑t:Int)+(1:Int))=(↑j:Int)/\y*y+y*y=tp ((num (List.take k rBs)/(12:Int)).toNat*(2:Nat)^j+dg.toNat/(2:Nat)^((8:Nat)-j)))/\(8:Nat)-(IntKind.i64.wrap ((↑t:Int)+(1:Int))).toNat<(8:Nat)-(↑t:Int).toNat))/\((bitOp BinOp.and IntKind.i64 (dg.fdiv ((2:Int)^min (IntKind.i64.wrap ((7:Int)-(↑t:Int))).toNat IntKind.i64.bits)) (1:Int)==(1:Int))=false->(rtB rBs (↑k:Int) r2 dg (IntKind.i64.wrap ((↑t:Int)+(1:Int)),y*y)).triv ((∃ j,j<=(8:Nat)/\IntKind.i64.wrap ((↑t:Int)+(1:Int))=(↑j:Int)/\y*y=tp ((num (List.take k rBs)/(12:Int)).toNat*(2:Nat)^j+dg.toNat/(2:Nat)^((8:Nat)-j)))/\(8:Nat)-(IntKind.i64.wrap ((↑t:Int)+(1:Int))).toNat<(8:Nat)-(↑t:Int).toNat)))/\(decide ((↑t:Int)<(8:Int))=false->(rtA rBs ((↑k:Int),y,r2)).triv (y=tp ((num (List.take k rBs)/(12:Int)).toNat*(256:Nat)+dg.toNat))))) (by kernel_rfl) ?_
   have ht:t<=8:=ht
   have ey:y=tp (((num (rBs.take k)/12).toNat)*2^t+dg.toNat/2^(8-t)):=ey
   obtain⟨d,hd⟩:=Int.eq_ofNat_of_zero_le hdg0.1
   generalize (num (rBs.take k)/12).toNat=q at *
   refine⟨fun h=>?_,fun h=>tvi ?_⟩
   ·have h8:t<8:=by have:=of_decide_eq_true h;omega
    have e1:(IntKind.i64.wrap (7-(t:Int))).toNat=7-t:=by rw[wrap_i64' (by omega) (by omega)];omega
    have e0:0<=IntKind.i64.wrap (7-(t:Int)):=by rw[wrap_i64' (by omega) (by omega)];omega
    have hm:min (7-t) IntKind.i64.bits=7-t:=Nat.min_eq_left (show 7-t<=64 by omega)
    have e2:dg.fdiv (2^(7-t))=((d/2^(7-t):Nat):Int):=by
     rw[Int.fdiv_eq_ediv_of_nonneg _ (Int.le_of_lt (Int.pow_pos (by decide))),hd]
     simp
    have e3:d/2^(8-t)=d/2^(7-t)/2:=by
     rw[Nat.div_div_eq_div_mul,<- Nat.pow_succ,show (7-t).succ=8-t by omega]
    have e4:dg.toNat=d:=by rw[hd];rfl
    have hdl:d/2^(7-t)<4294967296:=Nat.lt_of_le_of_lt (Nat.div_le_self _ _) (by omega)
    have e5:8-(t+1)=7-t:=by omega
    rw[e1,hm,e2,and_one _ hdl,wrap_succ (by omega)]
    have key:y*y=tp (q*2^(t+1)+2*(d/2^(7-t)/2)):=by
     rw[ey,tp_sq,e4,e3,Nat.pow_succ]
     congr 1
     rw[Nat.mul_add,<- Nat.mul_assoc,Nat.mul_comm 2 q,Nat.mul_assoc,Nat.mul_comm 2 (2^t)]
    refine⟨trivial,e0,fun h1=>⟨trivial,tvi ⟨⟨t+1,h8,rfl,?_⟩,by omega⟩⟩,fun h1=>tvi ⟨⟨t+1,h8,rfl,?_⟩,by omega⟩⟩
    ·have hbit:d/2^(7-t)%2=1:=by
      have h1:((d/2^(7-t)%2:Nat):Int)=1:=by simpa using h1
      omega
     rw[key,tp_succ,e4,e5]
     congr 1
     omega
    ·have hbit:d/2^(7-t)%2=0:=by
      have h1:¬ ((d/2^(7-t)%2:Nat):Int)=1:=by simpa using h1
      omega
     rw[key,e4,e5]
     congr 1
     omega
   ·have h8:t=8:=by have:=of_decide_eq_false h;omega
    rw[ey,h8]
    simp
  intro (y:Fp) (hy:y=tp (((num (rBs.take k)/12).toNat)*256+dg.toNat))
  refine tr_nil ?_
  refine tr_vc hsp mixed _ _ ?_
  refine vcx (X:=((rtA rBs (IntKind.i64.wrap ((↑k:Int)+(1:Int)),y,r2)).triv (rtJ rBs (IntKind.i64.wrap ((↑k:Int)+(1:Int)),y,r2)/\(48:Nat)-(IntKind.i64.wrap ((↑k:Int)+(1:Int))).toNat<(48:Nat)-(↑k:Int).toNat))) (by kernel_rfl) ?_
  have er:rest=num (rBs.take k)%12:=er
  have hns:=num_take_succ hkl
  rw[<- hb] at hns
  rw[wrap_succ (by omega)]
  refine tvi ⟨⟨k+1,hlt,rfl,?_,?_⟩,by omega⟩
  ·show y=tp _
   rw[hy,hns]
   congr 1
   omega
  ·show r2=_
   rw[hr2,hns,er]
   omega
 intro (x:Fp) (hx:x=rootK)
 refine tr_vc hsp mixed _ _ ?_
 refine vcx (X:=(True/\((x,-x),())=((rootK,-rootK),()))) (by kernel_rfl) ?_
 exact⟨trivial,by rw[hx]⟩
end
end Go.Proofs.YtbeeaekepmnfhaaGreatDoor.tower
namespace Go.Proofs.YtbeeaekepmnfhaaGreatDoor.tower
noncomputable section
open Go Go.Eng Go.RowKit Cr fp2
theorem ent_power:enters Tryz.prog 185 Tryz.f185:=ek
def pwo (x:F12) (n:Nat):F12:=opq (pwn x n)
theorem pwo_zero (x:F12):pwo x 0=1:=opq_eq _
theorem pwo_sq (x:F12) (n:Nat):pwo x n*pwo x n=pwo x (2*n):=by
 rw[pwo,pwo,opq_eq,opq_eq,<- pwn_add,show n+n=2*n by omega]
theorem pwo_succ (x:F12) (n:Nat):pwo x n*x=pwo x (n+1):=by
 rw[pwo,pwo,opq_eq,opq_eq];rfl
abbrev prePow:HL [f12k,.sl (.int .u8)]->Prop:=fun (_,e,_)=>Bs e/\List.length e<=1048576
abbrev outPower:HL [f12k,.sl (.int .u8)]->HO [.val f12k]:=fun (x,e,_)=>(pwo x (num e).toNat,())
abbrev c12 (x:F12):List Cell:=cellsOf f12k x
def pwA (x:F12) (e:List Int) (g:Int × F12 × Bool):St:=mkSt Tryz.f185.ntmps 72 [(2,.is (.one (.ptr 0 0))),(4,.is (.one (.ptr 8 0))),(5,.is (.one (.ptr 24 0))),(6,.is (.one (.v (.bool g.2.2)))),(11,.is (.one (.ro (.int .u8) e))),(12,sI .i64 e.length),(13,sI .i64 g.1)] [(24,c12 g.2.1),(8,c12 0),(0,c12 x)]
def pwB (x:F12) (e:List Int) (i b:Int) (g:Int × F12 × Bool):St:=mkSt Tryz.f185.ntmps 72 [(2,.is (.one (.ptr 0 0))),(4,.is (.one (.ptr 8 0))),(5,.is (.one (.ptr 24 0))),(6,.is (.one (.v (.bool g.2.2)))),(8,sI .u8 b),(11,.is (.one (.ro (.int .u8) e))),(12,sI .i64 e.length),(13,sI .i64 i),(17,sI .i64 g.1)] [(24,c12 g.2.1),(8,c12 0),(0,c12 x)]
def pwJ (x:F12) (n:Nat) (y:F12) (bg:Bool):Prop:=y=pwo x n/\(bg=false->n=0)
theorem and_u8 (n:Nat) (hn:n<256):bitOp .and .u8 (n:Int) 1=((n%2:Nat):Int):=by
 have e:((BitVec.ofInt 8 (n:Int) &&& BitVec.ofInt 8 1:BitVec 8).toNat)=n%2:=by
  rw[BitVec.toNat_and,BitVec.toNat_ofInt,BitVec.toNat_ofInt]
  have h1:((n:Int)%((2^8:Nat):Int)).toNat=n:=by omega
  have h2:((1:Int)%((2^8:Nat):Int)).toNat=1:=by omega
  rw[h1,h2,Nat.and_one_is_mod]
 show IntKind.u8.wrap (((BitVec.ofInt 8 (n:Int) &&& BitVec.ofInt 8 1:BitVec 8).toNat:Nat):Int)=_
 rw[e]
 simp only[IntKind.wrap,IntKind.signed,IntKind.bits]
 simp;omega
theorem fn_power:FnOk Tryz.prog 185 [f12k,.sl (.int .u8)] [.val f12k] noG prePow outPower:=by
 have hsp:SpecsOk Tryz.prog (sps [spOne,spSquare,spMul]):=spk (fok fn_one) (spk (fok fn_square) (spk (fok fn_mul) snl))
 refine fn_of_tr (sp:=sps [spOne,spSquare,spMul]) ent_power (by decide) (by decide) (by kernel_rfl) ?_
 rintro w M0 ⟨x,e,⟨⟩⟩
 revert x e
 intro (x:F12) (e:List Int) _ hp
 have hbs:Bs e:=hp.1
 have hel:e.length<=1048576:=hp.2
 show Tr _ _ _ _ _ _ _
 refine tr_cutB hsp mixed 3 6 (fun σ=>rdS .bool 6 σ) (fun bg=>pwA x e (0,1,bg)) (fun bg=>bg=false) ?_ ?_
 ·refine vcx (X:=(True/\(pwA x e ((0:Int),(1:F12),false)).triv (false=false))) (by kernel_rfl) ?_
  exact⟨trivial,tvi rfl⟩
 intro (bg0:Bool) (hbg0:bg0=false)
 subst hbg0
 refine tr_whileT noSw (fun σ=>(rdS (.int .i64) 13 σ,rdB f12k 24 σ,rdS .bool 6 σ)) (pwA x e) (fun g=>∃ k:Nat,k<=e.length/\g.1=(k:Int)/\pwJ x (num (e.take k)).toNat g.2.1 g.2.2) (fun g=>e.length-g.1.toNat)
  (fun σ=>(rdS (.int .i64) 13 σ,rdB f12k 24 σ,rdS .bool 6 σ)) (pwA x e) (fun g=>g.2.1=pwo x (num e).toNat) (0,1,false) (c:=nthC (codeOf Tryz.f185) 3) (by kernel_rfl) (by kernel_rfl) (le_of_proj (by kernel_rfl) (by kernel_rfl) ?_) ?_ ?_
 ·exact⟨0,Nat.zero_le _,rfl,(pwo_zero x).symm,fun _=>rfl⟩
 ·rintro⟨i,y,bg⟩ hj
  revert i y bg
  intro (i:Int) (y:F12) (bg:Bool) ⟨k,hk,ei,hy⟩
  have ei:i=(k:Int):=ei
  subst ei
  have hy:pwJ x (num (e.take k)).toNat y bg:=hy
  have hbd:=num_bd (l:=e.take k) (fun z hz=>hbs z (List.mem_of_mem_take hz))
  refine tr_cut hsp mixed 2 (pwA x e ((k:Int),y,bg)) (k<e.length) ?_ (fun hlt=>?_)
  ·refine vcx (X:=((decide ((↑k:Int)<(↑e.length:Int))=true->(pwA x e ((↑k:Int),y,bg)).triv (k<e.length))/\(decide ((↑k:Int)<(↑e.length:Int))=false->(pwA x e ((↑k:Int),y,bg)).triv (y=pwo x (num e).toNat)))) (by kernel_rfl) ?_
   refine⟨fun h=>tvi (by have:=of_decide_eq_true h;omega),fun h=>tvi ?_⟩
   have ek:k=e.length:=by have:=of_decide_eq_false h;omega
   rw[ek,List.take_length] at hy
   exact hy.1
  refine tr_block (c:=nthC (loopOf (nthC (codeOf Tryz.f185) 3)) 2) (by kernel_rfl) (by kernel_rfl) ?_
  refine tr_cutF hsp mixed 2 (fun σ=>rdS (.int .u8) 8 σ) (fun b=>pwB x e k b (0,y,bg)) (fun b=>b=e.getD k 0) ?_ ?_
  ·refine vcx (X:=(((0:Int)<=(↑k:Int)/\(↑k:Int)<(↑e.length:Int))/\(↑k:Int).toNat<e.length/\(pwB x e (↑k:Int) (e.getD (↑k:Int).toNat (0:Int)) ((0:Int),y,bg)).triv (e.getD (↑k:Int).toNat (0:Int)=e.getD k (0:Int)))) (by kernel_rfl) ?_
   simp only[Int.toNat_natCast]
   exact⟨⟨by omega,by omega⟩,hlt,tvi (by first|exact trivial|rfl)⟩
  intro (b:Int) (hb:b=e.getD k 0)
  have hb0:0<=b/\b<256:=by
   rw[hb];simp only[List.getD_eq_getElem?_getD,List.getElem?_eq_getElem hlt,Option.getD_some]
   exact hbs _ (List.getElem_mem hlt)
  obtain⟨d,hd⟩:=Int.eq_ofNat_of_zero_le hb0.1
  refine tr_whileT noSw (fun σ=>(rdS (.int .i64) 17 σ,rdB f12k 24 σ,rdS .bool 6 σ)) (pwB x e k b) (fun g=>∃ j:Nat,j<=8/\g.1=(j:Int)/\pwJ x ((num (e.take k)).toNat*2^j+d/2^(8-j)) g.2.1 g.2.2) (fun g=>8-g.1.toNat)
   (fun σ=>(rdB f12k 24 σ,rdS .bool 6 σ)) (fun g=>pwA x e ((k:Int),g.1,g.2)) (fun g=>pwJ x ((num (e.take k)).toNat*256+d) g.1 g.2) (0,y,bg) (c:=nthC (bodyOf (nthC (loopOf (nthC (codeOf Tryz.f185) 3)) 2)) 2) (by kernel_rfl) (by kernel_rfl) (le_of_proj (by kernel_rfl) (by kernel_rfl) ?_) ?_ ?_
  ·refine⟨0,by decide,rfl,?_⟩
   rw[Nat.pow_zero,Nat.mul_one,show 8-0=8 from rfl,show (2:Nat)^8=256 from rfl,Nat.div_eq_of_lt (by omega),Nat.add_zero]
   exact hy
  ·rintro⟨j,y1,b1⟩ hj
   revert j y1 b1
   intro (j:Int) (y1:F12) (b1:Bool) ⟨t,ht,ej,hy1⟩
   have ej:j=(t:Int):=ej
   subst ej
   have ht:t<=8:=ht
   have hy1:pwJ x ((num (e.take k)).toNat*2^t+d/2^(8-t)) y1 b1:=hy1
   generalize (num (e.take k)).toNat=q at *
   refine tr_cut hsp mixed 2 (pwB x e k b ((t:Int),y1,b1)) (t<8) ?_ (fun h8=>?_)
   ·refine vcx (X:=((decide ((↑t:Int)<(8:Int))=true->(pwB x e (↑k:Int) b ((↑t:Int),y1,b1)).triv (t<(8:Nat)))/\(decide ((↑t:Int)<(8:Int))=false->(pwA x e ((↑k:Int),(y1,b1).fst,(y1,b1).snd)).triv (pwJ x (q*(256:Nat)+d) y1 b1)))) (by kernel_rfl) ?_
    refine⟨fun h=>tvi (by have:=of_decide_eq_true h;omega),fun h=>tvi ?_⟩
    have et:t=8:=by have:=of_decide_eq_false h;omega
    rw[et] at hy1
    simpa using hy1
   refine tr_block (c:=nthC (loopOf (nthC (bodyOf (nthC (loopOf (nthC (codeOf Tryz.f185) 3)) 2)) 2)) 2) (by kernel_rfl) (by kernel_rfl) ?_
   have e3:d/2^(8-t)=d/2^(7-t)/2:=by
    rw[Nat.div_div_eq_div_mul,<- Nat.pow_succ,show (7-t).succ=8-t by omega]
   have e5:8-(t+1)=7-t:=by omega
   have eN:q*2^(t+1)+d/2^(8-(t+1))=2*(q*2^t+d/2^(8-t))+d/2^(7-t)%2:=by
    rw[e5,e3,Nat.pow_succ,<- Nat.mul_assoc];omega
   refine tr_cutB hsp mixed 5 6 (fun σ=>(rdB f12k 24 σ,rdS .bool 6 σ)) (fun g=>pwB x e k b ((t:Int),g.1,g.2)) (fun g=>pwJ x (q*2^(t+1)+d/2^(8-(t+1))) g.1 g.2) ?_ ?_
   ·refine vcx (X:=((b1=true->True/\(0:Int)<=IntKind.i64.wrap ((7:Int)-(↑t:Int))/\((bitOp BinOp.and IntKind.u8 (b.fdiv ((2:Int)^min (IntKind.i64.wrap ((7:Int)-(↑t:Int))).toNat IntKind.u8.bits)) (1:Int)==(1:Int))=true->True/\(pwB x e (↑k:Int) b ((↑t:Int),(y1*y1*x,true).fst,(y1*y1*x,true).snd)).triv (pwJ x (q*(2:Nat)^(t+(1:Nat))+d/(2:Nat)^((8:Nat)-(t+(1:Nat)))) (y1*y1*x) true))/\((bitOp BinOp.and IntKind.u8 (b.fdiv ((2:Int)^min (IntKind.i64.wrap ((7:Int)-(↑t:Int))).toNat IntKind.u8.bits)) (1:Int)==(1:Int))=false->(pwB x e (↑k:Int) b ((↑t:Int),(y1*y1,b1).fst,(y1*y1,b1).snd)).triv (pwJ x (q*(2:Nat)^(t+(1:Nat))+d/(2:Nat)^((8:Nat)-(t+(1:Nat)))) (y1*y1) b1)))/\(b1=false->(0:Int)<=IntKind.i64.wrap ((7:Int)-(↑t:Int))/\((bitOp BinOp.and IntKind.u8 (b.fdiv ((2:Int)^min (IntKind.i64.wrap ((7:Int)-(↑t:Int))).toNat IntKind.u8.bits)) (1:Int)==(1:Int))=true->True/\(pwB x e (↑k:Int) b ((↑t:Int),(y1*x,true).fst,(y1*x,true).snd)).triv (pwJ x (q*(2:Nat)^(t+(1:Nat))+d/(2:Nat)^((8:Nat)-(t+(1:Nat)))) (y1*x) true))/\((bitOp BinOp.and IntKind.u8 (b.fdiv ((2:Int)^min (IntKind.i64.wrap ((7:Int)-(↑t:Int))).toNat IntKind.u8.bits)) (1:Int)==(1:Int))=false->(pwB x e (↑k:Int) b ((↑t:Int),(y1,b1).fst,(y1,b1).snd)).triv (pwJ x (q*(2:Nat)^(t+(1:Nat))+d/(2:Nat)^((8:Nat)-(t+(1:Nat)))) y1 b1))))) (by kernel_rfl) ?_
    have e0:0<=IntKind.i64.wrap (7-(t:Int)):=by rw[wrap_i64' (by omega) (by omega)];omega
    have e1:(IntKind.i64.wrap (7-(t:Int))).toNat=7-t:=by rw[wrap_i64' (by omega) (by omega)];omega
    have hm:min (7-t) IntKind.u8.bits=7-t:=Nat.min_eq_left (show 7-t<=8 by omega)
    have e2:b.fdiv (2^(7-t))=((d/2^(7-t):Nat):Int):=by
     rw[Int.fdiv_eq_ediv_of_nonneg _ (Int.le_of_lt (Int.pow_pos (by decide))),hd]
     simp
    have hdl:d/2^(7-t)<256:=Nat.lt_of_le_of_lt (Nat.div_le_self _ _) (by omega)
    rw[e1,hm,e2,and_u8 _ hdl,eN]
    obtain⟨hy1,hb1⟩:=hy1
    generalize q*2^t+d/2^(8-t)=Q at *
    have hbit1:(((d/2^(7-t)%2:Nat):Int)==1)=true->d/2^(7-t)%2=1:=fun h=>by
     have h:((d/2^(7-t)%2:Nat):Int)=1:=by simpa using h
     omega
    have hbit0:(((d/2^(7-t)%2:Nat):Int)==1)=false->d/2^(7-t)%2=0:=fun h=>by
     have h:¬ ((d/2^(7-t)%2:Nat):Int)=1:=by simpa using h
     omega
    refine⟨fun hb=>⟨trivial,e0,fun h=>⟨trivial,tvi ⟨?_,fun h=>by cases h⟩⟩,fun h=>tvi ⟨?_,fun h2=>?_⟩⟩,fun hb=>⟨e0,fun h=>⟨trivial,tvi ⟨?_,fun h=>by cases h⟩⟩,fun h=>tvi ⟨?_,fun _=>?_⟩⟩⟩
    ·rw[hbit1 h,hy1,pwo_sq,pwo_succ]
    ·rw[hbit0 h,hy1,pwo_sq];rfl
    ·rw[hb] at h2;cases h2
    ·have hQ:=hb1 hb
     rw[hbit1 h,hy1,pwo_succ,hQ]
    ·have hQ:=hb1 hb
     rw[hbit0 h,hy1,hQ]
    ·have hQ:=hb1 hb
     rw[hbit0 h,hQ]
   rintro⟨y2,b2⟩ hy2
   revert y2 b2
   intro (y2:F12) (b2:Bool) (hy2:pwJ x (q*2^(t+1)+d/2^(8-(t+1))) y2 b2)
   refine tr_nil ?_
   refine tr_vc hsp mixed _ _ ?_
   refine vcx (X:=((pwB x e (↑k:Int) b (IntKind.i64.wrap ((↑t:Int)+(1:Int)),y2,b2)).triv ((∃ j,j<=(8:Nat)/\IntKind.i64.wrap ((↑t:Int)+(1:Int))=(↑j:Int)/\pwJ x (q*(2:Nat)^j+d/(2:Nat)^((8:Nat)-j)) y2 b2)/\(8:Nat)-(IntKind.i64.wrap ((↑t:Int)+(1:Int))).toNat<(8:Nat)-(↑t:Int).toNat))) (by kernel_rfl) ?_
   rw[wrap_succ (by omega)]
   exact tvi ⟨⟨t+1,h8,rfl,hy2⟩,by rw[Int.toNat_natCast,Int.toNat_natCast];omega⟩
  rintro⟨y2,b2⟩ hy2
  revert y2 b2
  intro (y2:F12) (b2:Bool) (hy2:pwJ x ((num (e.take k)).toNat*256+d) y2 b2)
  refine tr_nil ?_
  refine tr_vc hsp mixed _ _ ?_
  refine vcx (X:=((pwA x e (IntKind.i64.wrap ((↑k:Int)+(1:Int)),y2,b2)).triv ((∃ k_1,k_1<=e.length/\IntKind.i64.wrap ((↑k:Int)+(1:Int))=(↑k_1:Int)/\pwJ x (num (List.take k_1 e)).toNat y2 b2)/\e.length-(IntKind.i64.wrap ((↑k:Int)+(1:Int))).toNat<e.length-(↑k:Int).toNat))) (by kernel_rfl) ?_
  have hns:=num_take_succ hlt
  rw[<- hb] at hns
  have en:(num (e.take (k+1))).toNat=(num (e.take k)).toNat*256+d:=by rw[hns,hd];omega
  rw[wrap_succ (by omega)]
  exact tvi ⟨⟨k+1,hlt,rfl,by rw[en];exact hy2⟩,by rw[Int.toNat_natCast,Int.toNat_natCast];omega⟩
 rintro⟨i,y,bg⟩ hy
 revert i y bg
 intro (i:Int) (y:F12) (bg:Bool) (hy:y=pwo x (num e).toNat)
 refine tr_vc hsp mixed _ _ ?_
 refine vcx (X:=((y,())=outPower (x,e,()))) (by kernel_rfl) ?_
 rw[hy]
def spPower:Nat × Eng.Spec:=(185,fnSpec [f12k,.sl (.int .u8)] [.val f12k] prePow outPower)
end
end Go.Proofs.YtbeeaekepmnfhaaGreatDoor.tower
namespace Go.Proofs.YtbeeaekepmnfhaaGreatDoor.fp2
open Go Go.Eng Go.RowKit Cr Go.Proofs.YtbeeaekepmnfhaaGreatDoor
theorem ent_double:enters Tryz.prog 208 Tryz.f208:=ek
noncomputable abbrev outDouble:HL [f2]->HO [.val f2]:=fun (x,_)=>((x:F2)+x,())
theorem fn_double:FnOk Tryz.prog 208 [f2] [.val f2] noG (fun _=>True) outDouble:=by
 refine fn_of_vc (sp:=sps [spAdd]) (spk (fok fn_add) snl) mixed ent_double (by decide) (by decide) ?_
 rintro w M0 ⟨x,⟨⟩⟩
 revert x
 intro (x:F2) _ _
 refine vcx (X:=(True/\(x+x,())=outDouble (x,()))) (by kernel_rfl) ?_
 repeat refine⟨trivial,?_⟩
 rfl
noncomputable def spDouble:Nat × Eng.Spec:=(208,fnSpec [f2] [.val f2] (fun _=>True) outDouble)
end Go.Proofs.YtbeeaekepmnfhaaGreatDoor.fp2
namespace Go.Proofs.YtbeeaekepmnfhaaGreatDoor.tower
open Go Go.Eng Go.RowKit Cr Go.Proofs.YtbeeaekepmnfhaaGreatDoor Go.Proofs.YtbeeaekepmnfhaaGreatDoor.fp2
noncomputable def rt1:F2:=(rootK,-rootK)
noncomputable def cj (x:F2):F2:=(x.1,-x.2)
noncomputable def frobF (x:F12):F12:=((cj x.1.1,cj x.1.2.1*(rt1*rt1),cj x.1.2.2*(rt1*rt1*(rt1*rt1))),(cj x.2.1*rt1,cj x.2.2.1*(rt1*rt1*rt1),cj x.2.2.2*(rt1*rt1*(rt1*rt1)*rt1)))
theorem ent_frob:enters Tryz.prog 183 Tryz.f183:=ek
noncomputable def spRoot:Nat × Eng.Spec:=(158,fnSpec [] [.val f2] (fun _=>True) (fun _=>(rt1,())))
theorem fn_frob:FnOk Tryz.prog 183 [f12k] [.val f12k] noG (fun _=>True) (fun (x,_)=>(frobF x,())):=by
 refine fn_of_vc (sp:=sps [spRoot,fp2.spSquare,fp2.spMul,fp2.spConj]) (spk (fok fn_root) (spk (fok fp2.fn_square) (spk (fok fp2.fn_mul) (spk (fok fp2.fn_conj) snl)))) mixed ent_frob (by decide) (by decide) ?_
 rintro w M0 ⟨x,⟨⟩⟩
 revert x
 intro (x:F12) _ _
 refine vcx (X:=(True/\True/\True/\True/\True/\True/\True/\True/\True/\True/\True/\True/\True/\True/\True/\True/\((((x.fst.fst.fst,-x.fst.fst.snd),(x.fst.snd.fst.fst,-x.fst.snd.fst.snd)*((rootK,-rootK)*(rootK,-rootK)),(x.fst.snd.snd.fst,-x.fst.snd.snd.snd)*((rootK,-rootK)*(rootK,-rootK)*((rootK,-rootK)*(rootK,-rootK)))),(x.snd.fst.fst,-x.snd.fst.snd)*(rootK,-rootK),(x.snd.snd.fst.fst,-x.snd.snd.fst.snd)*((rootK,-rootK)*(rootK,-rootK)*(rootK,-rootK)),(x.snd.snd.snd.fst,-x.snd.snd.snd.snd)*((rootK,-rootK)*(rootK,-rootK)*((rootK,-rootK)*(rootK,-rootK))*(rootK,-rootK))),())=(frobF x,()))) (by kernel_rfl) ?_
 repeat refine⟨trivial,?_⟩
 rfl
end Go.Proofs.YtbeeaekepmnfhaaGreatDoor.tower
namespace Go.Proofs.YtbeeaekepmnfhaaGreatDoor.pairing
open Go Go.Eng Go.RowKit Cr Go.Proofs.YtbeeaekepmnfhaaGreatDoor Go.Proofs.YtbeeaekepmnfhaaGreatDoor.fp2 Go.Proofs.YtbeeaekepmnfhaaGreatDoor.tower
abbrev pt1:Kd:=.pair .fp .fp
abbrev pt2:Kd:=.pair f2 f2
abbrev plk:Kd:=.pair f2 (.pair f2 f2)
def sk (x:F2) (k:Fp):F2:=(x.1*k,x.2*k)
noncomputable def twF (t:F2 × F2 × F2) (p:Fp × Fp):(F2 × F2 × F2) × (F2 × F2 × F2) :=
 let xx:=t.1*t.1;let yy:=t.2.1*t.2.1;let zz:=t.2.2*t.2.2;let slope:=xx+xx+xx
 let d0:=yy*yy;let d1:=d0+d0;let d2:=d1+d1;let eight:=d2+d2
 let f0:=t.1*yy;let f1:=f0+f0;let four:=f1+f1
 let x:=slope*slope-(four+four);let y:=slope*(four-x)-eight;let z:=t.2.1*t.2.2+t.2.1*t.2.2
 ((x,y,z),(slope*t.1-(yy+yy),-(sk (slope*zz) p.1),sk (z*zz) p.2))
noncomputable def two (t:F2 × F2 × F2) (p:Fp × Fp):(F2 × F2 × F2) × (F2 × F2 × F2):=opq (twF t p)
noncomputable def plF (t:F2 × F2 × F2) (q:F2 × F2) (p:Fp × Fp):(F2 × F2 × F2) × (F2 × F2 × F2) :=
 let zz:=t.2.2*t.2.2;let wide:=q.1*zz-t.1;let high:=q.2*(zz*t.2.2)-t.2.1
 let square:=wide*wide;let cube:=square*wide;let part:=t.1*square
 let x:=high*high-cube-(part+part);let y:=high*(part-x)-t.2.1*cube;let z:=t.2.2*wide
 ((x,y,z),(high*q.1-z*q.2,-(sk high p.1),sk z p.2))
noncomputable def plo (t:F2 × F2 × F2) (q:F2 × F2) (p:Fp × Fp):(F2 × F2 × F2) × (F2 × F2 × F2):=opq (plF t q p)
theorem ent_twice:enters Tryz.prog 187 Tryz.f187:=ek
theorem fn_twice:FnOk Tryz.prog 187 [plk,pt1] [.val plk,.val plk] noG (fun _=>True) (fun (t,p,_)=>((two t p).1,(two t p).2,())):=by
 refine fn_of_vc (sp:=sps [fp2.spSquare,fp2.spMul,fp2.spAdd,fp2.spSub,fp2.spDouble,fp2.spScale,fp2.spNeg]) (spk (fok fp2.fn_square) (spk (fok fp2.fn_mul) (spk (fok fp2.fn_add) (spk (fok fp2.fn_sub) (spk (fok fp2.fn_double) (spk (fok fp2.fn_scale) (spk (fok fp2.fn_neg) snl))))))) mixed ent_twice (by decide) (by decide) ?_
 rintro w M0 ⟨t,p,⟨⟩⟩
 revert t p
 intro (t:F2 × F2 × F2) (p:Fp × Fp) _ _
 refine vcx (X:=(True/\True/\True/\True/\True/\True/\True/\True/\True/\True/\True/\True/\True/\True/\True/\True/\True/\True/\True/\True/\True/\True/\True/\True/\True/\True/\True/\True/\(((t.fst*t.fst+t.fst*t.fst+t.fst*t.fst)*(t.fst*t.fst+t.fst*t.fst+t.fst*t.fst)-(t.fst*(t.snd.fst*t.snd.fst)+t.fst*(t.snd.fst*t.snd.fst)+(t.fst*(t.snd.fst*t.snd.fst)+t.fst*(t.snd.fst*t.snd.fst))+(t.fst*(t.snd.fst*t.snd.fst)+t.fst*(t.snd.fst*t.snd.fst)+(t.fst*(t.snd.fst*t.snd.fst)+t.fst*(t.snd.fst*t.snd.fst)))),(t.fst*t.fst+t.fst*t.fst+t.fst*t.fst)*(t.fst*(t.snd.fst*t.snd.fst)+t.fst*(t.snd.fst*t.snd.fst)+(t.fst*(t.snd.fst*t.snd.fst)+t.fst*(t.snd.fst*t.snd.fst))-((t.fst*t.fst+t.fst*t.fst+t.fst*t.fst)*(t.fst*t.fst+t.fst*t.fst+t.fst*t.fst)-(t.fst*(t.snd.fst*t.snd.fst)+t.fst*(t.snd.fst*t.snd.fst)+(t.fst*(t.snd.fst*t.snd.fst)+t.fst*(t.snd.fst*t.snd.fst))+(t.fst*(t.snd.fst*t.snd.fst)+t.fst*(t.snd.fst*t.snd.fst)+(t.fst*(t.snd.fst*t.snd.fst)+t.fst*(t.snd.fst*t.snd.fst))))))-(t.snd.fst*t.snd.fst*(t.snd.fst*t.snd.fst)+t.snd.fst*t.snd.fst*(t.snd.fst*t.snd.fst)+(t.snd.fst*t.snd.fst*(t.snd.fst*t.snd.fst)+t.snd.fst*t.snd.fst*(t.snd.fst*t.snd.fst))+(t.snd.fst*t.snd.fst*(t.snd.fst*t.snd.fst)+t.snd.fst*t.snd.fst*(t.snd.fst*t.snd.fst)+(t.snd.fst*t.snd.fst*(t.snd.fst*t.snd.fst)+t.snd.fst*t.snd.fst*(t.snd.fst*t.snd.fst)))),t.snd.fst*t.snd.snd+t.snd.fst*t.snd.snd),((t.fst*t.fst+t.fst*t.fst+t.fst*t.fst)*t.fst-(t.snd.fst*t.snd.fst+t.snd.fst*t.snd.fst),-(((t.fst*t.fst+t.fst*t.fst+t.fst*t.fst)*(t.snd.snd*t.snd.snd)).fst*p.fst,((t.fst*t.fst+t.fst*t.fst+t.fst*t.fst)*(t.snd.snd*t.snd.snd)).snd*p.fst),((t.snd.fst*t.snd.snd+t.snd.fst*t.snd.snd)*(t.snd.snd*t.snd.snd)).fst*p.snd,((t.snd.fst*t.snd.snd+t.snd.fst*t.snd.snd)*(t.snd.snd*t.snd.snd)).snd*p.snd),())=((two t p).fst,(two t p).snd,()))) (by kernel_rfl) ?_
 repeat refine⟨trivial,?_⟩
 rw[two,opq_eq]
 rfl
noncomputable def spTwice:Nat × Eng.Spec:=(187,fnSpec [plk,pt1] [.val plk,.val plk] (fun _=>True) (fun (t,p,_)=>((two t p).1,(two t p).2,())))
theorem ent_plus:enters Tryz.prog 189 Tryz.f189:=ek
theorem fn_plus:FnOk Tryz.prog 189 [plk,pt2,pt1] [.val plk,.val plk] noG (fun _=>True) (fun (t,q,p,_)=>((plo t q p).1,(plo t q p).2,())):=by
 refine fn_of_vc (sp:=sps [fp2.spSquare,fp2.spMul,fp2.spAdd,fp2.spSub,fp2.spDouble,fp2.spScale,fp2.spNeg]) (spk (fok fp2.fn_square) (spk (fok fp2.fn_mul) (spk (fok fp2.fn_add) (spk (fok fp2.fn_sub) (spk (fok fp2.fn_double) (spk (fok fp2.fn_scale) (spk (fok fp2.fn_neg) snl))))))) mixed ent_plus (by decide) (by decide) ?_
 rintro w M0 ⟨t,q,p,⟨⟩⟩
 revert t q p
 intro (t:F2 × F2 × F2) (q:F2 × F2) (p:Fp × Fp) _ _
 refine vcx (X:=(True/\True/\True/\True/\True/\True/\True/\True/\True/\True/\True/\True/\True/\True/\True/\True/\True/\True/\True/\True/\True/\True/\True/\True/\(((q.snd*(t.snd.snd*t.snd.snd*t.snd.snd)-t.snd.fst)*(q.snd*(t.snd.snd*t.snd.snd*t.snd.snd)-t.snd.fst)-(q.fst*(t.snd.snd*t.snd.snd)-t.fst)*(q.fst*(t.snd.snd*t.snd.snd)-t.fst)*(q.fst*(t.snd.snd*t.snd.snd)-t.fst)-(t.fst*((q.fst*(t.snd.snd*t.snd.snd)-t.fst)*(q.fst*(t.snd.snd*t.snd.snd)-t.fst))+t.fst*((q.fst*(t.snd.snd*t.snd.snd)-t.fst)*(q.fst*(t.snd.snd*t.snd.snd)-t.fst))),(q.snd*(t.snd.snd*t.snd.snd*t.snd.snd)-t.snd.fst)*(t.fst*((q.fst*(t.snd.snd*t.snd.snd)-t.fst)*(q.fst*(t.snd.snd*t.snd.snd)-t.fst))-((q.snd*(t.snd.snd*t.snd.snd*t.snd.snd)-t.snd.fst)*(q.snd*(t.snd.snd*t.snd.snd*t.snd.snd)-t.snd.fst)-(q.fst*(t.snd.snd*t.snd.snd)-t.fst)*(q.fst*(t.snd.snd*t.snd.snd)-t.fst)*(q.fst*(t.snd.snd*t.snd.snd)-t.fst)-(t.fst*((q.fst*(t.snd.snd*t.snd.snd)-t.fst)*(q.fst*(t.snd.snd*t.snd.snd)-t.fst))+t.fst*((q.fst*(t.snd.snd*t.snd.snd)-t.fst)*(q.fst*(t.snd.snd*t.snd.snd)-t.fst)))))-t.snd.fst*((q.fst*(t.snd.snd*t.snd.snd)-t.fst)*(q.fst*(t.snd.snd*t.snd.snd)-t.fst)*(q.fst*(t.snd.snd*t.snd.snd)-t.fst)),t.snd.snd*(q.fst*(t.snd.snd*t.snd.snd)-t.fst)),((q.snd*(t.snd.snd*t.snd.snd*t.snd.snd)-t.snd.fst)*q.fst-t.snd.snd*(q.fst*(t.snd.snd*t.snd.snd)-t.fst)*q.snd,-((q.snd*(t.snd.snd*t.snd.snd*t.snd.snd)-t.snd.fst).fst*p.fst,(q.snd*(t.snd.snd*t.snd.snd*t.snd.snd)-t.snd.fst).snd*p.fst),(t.snd.snd*(q.fst*(t.snd.snd*t.snd.snd)-t.fst)).fst*p.snd,(t.snd.snd*(q.fst*(t.snd.snd*t.snd.snd)-t.fst)).snd*p.snd),())=((plo t q p).fst,(plo t q p).snd,()))) (by kernel_rfl) ?_
 repeat refine⟨trivial,?_⟩
 rw[plo,opq_eq]
 rfl
noncomputable def spPlus:Nat × Eng.Spec:=(189,fnSpec [plk,pt2,pt1] [.val plk,.val plk] (fun _=>True) (fun (t,q,p,_)=>((plo t q p).1,(plo t q p).2,())))
end Go.Proofs.YtbeeaekepmnfhaaGreatDoor.pairing
namespace Go.Proofs.YtbeeaekepmnfhaaGreatDoor.pairing
noncomputable section
open Go Go.Eng Go.RowKit Cr fp2 tower
theorem ent_bytes:enters Tryz.prog 184 Tryz.f184:=ek
def byE (n:Int) (i:Nat):Int:=IntKind.u8.wrap (n.fdiv (2^(56-8*i)))
def byK (n:Int) (k:Nat):List Int:=(List.range k).map (byE n)++List.replicate (8-k) 0
def byo (n:Int):List Int:=opq (byK n 8)
def byS (n:Int) (g:Int × List Int):St:=mkSt Tryz.f184.ntmps 48 [(0,sI .u64 n),(3,.is (.one (.sl 8 0 0 8 1))),(7,sI .i64 8),(8,sI .i64 g.1)] [(8,[.ints .u8 8 g.2])]
theorem byK_len (n:Int) (k:Nat) (h:k<=8):(byK n k).length=8:=by simp[byK];omega
theorem byo_len (n:Int):(byo n).length=8:=by rw[byo,opq_eq,byK_len n 8 (by decide)]
theorem byK_set (n:Int) (k:Nat) (h:k<8):(byK n k).set k (byE n k)=byK n (k+1):=by
 unfold byK
 rw[List.set_append_right _ _ (by simp),show 8-k=(8-(k+1))+1 by omega,List.replicate_succ]
 rw[show k-((List.range k).map (byE n)).length=0 by simp,List.set_cons_zero,List.range_succ,List.map_append,List.append_assoc]
 rfl
theorem fn_bytes:FnOk Tryz.prog 184 [.int .u64] [.own (.int .u8)] noG (fun _=>True) (fun (n,_)=>(byo n,())):=by
 have hsp:SpecsOk Tryz.prog (sps []):=snl
 refine fn_of_tr (sp:=sps []) ent_bytes (by decide) (by decide) (by kernel_rfl) ?_
 rintro w M0 ⟨n,⟨⟩⟩
 revert n
 intro (n:Int) _ _
 show Tr _ _ _ _ _ _ _
 refine tr_cut hsp mixed 3 (byS n (0,List.replicate 8 0)) True ?_ (fun _=>?_)
 ·refine vcx (X:=(((0:Int)<=(8:Int)/\(8:Int)<=(8:Int)/\(↑(1:Nat):Int)*(8:Int)<=(281474976710656:Int)/\(8:Int)<=(9223372036854775807:Int))/\(byS n ((0:Int),List.replicate (8:Nat) (0:Int))).triv True)) (by kernel_rfl) ?_
  exact⟨⟨by decide,by decide,by decide,by decide⟩,tvi trivial⟩
 refine tr_while hsp mixed noSw (fun σ=>(rdS (.int .i64) 8 σ,rdR (.int .u8) 8 σ)) (byS n) (fun g=>∃ k:Nat,k<=8/\g.1=(k:Int)/\g.2=byK n k) (fun g=>8-g.1.toNat)
  (fun σ=>(rdS (.int .i64) 8 σ,rdR (.int .u8) 8 σ)) (byS n) (fun g=>g.2=byK n 8) (0,List.replicate 8 0) (c:=nthC (codeOf Tryz.f184) 3) (by kernel_rfl) (by kernel_rfl) (le_of_proj (by kernel_rfl) (by kernel_rfl) ?_) ?_ ?_
 ·exact⟨0,by decide,rfl,rfl⟩
 ·rintro⟨i,l⟩ hj
  revert i l
  intro (i:Int) (l:List Int) ⟨k,hk,ei,el⟩
  have ei:i=(k:Int):=ei
  have kl:l=byK n k:=el
  subst ei
  refine vcx (X:=((decide ((↑k:Int)<(8:Int))=true->(0:Int)<=IntKind.i64.wrap ((56:Int)-IntKind.i64.wrap ((8:Int)*(↑k:Int)))/\((0:Int)<=(↑k:Int)/\(↑k:Int)<(↑(8:Nat):Int))/\(↑k:Int).toNat<(8:Nat)/\(byS n (IntKind.i64.wrap ((↑k:Int)+(1:Int)),l.set (↑k:Int).toNat (IntKind.u8.wrap (n.fdiv ((2:Int)^min (IntKind.i64.wrap ((56:Int)-IntKind.i64.wrap ((8:Int)*(↑k:Int)))).toNat IntKind.u64.bits))))).triv ((∃ k_1,k_1<=(8:Nat)/\IntKind.i64.wrap ((↑k:Int)+(1:Int))=(↑k_1:Int)/\l.set (↑k:Int).toNat (IntKind.u8.wrap (n.fdiv ((2:Int)^min (IntKind.i64.wrap ((56:Int)-IntKind.i64.wrap ((8:Int)*(↑k:Int)))).toNat IntKind.u64.bits)))=byK n k_1)/\(8:Nat)-(IntKind.i64.wrap ((↑k:Int)+(1:Int))).toNat<(8:Nat)-(↑k:Int).toNat))/\(decide ((↑k:Int)<(8:Int))=false->(byS n ((↑k:Int),l)).triv (l=byK n (8:Nat))))) (by kernel_rfl) ?_
  refine⟨fun h=>?_,fun h=>tvi ?_⟩
  ·have h8:k<8:=by have:=of_decide_eq_true h;omega
   have e0:IntKind.i64.wrap (56-IntKind.i64.wrap (8*(k:Int)))=((56-8*k:Nat):Int):=by
    rw[wrap_i64' (a:=8*(k:Int)) (by omega) (by omega),wrap_i64' (by omega) (by omega)];omega
   have hm:min (56-8*k) IntKind.u64.bits=56-8*k:=Nat.min_eq_left (show 56-8*k<=64 by omega)
   rw[e0,wrap_succ (by omega)]
   simp only[Int.toNat_natCast]
   rw[hm]
   exact⟨by omega,⟨by omega,by omega⟩,h8,tvi ⟨⟨k+1,h8,rfl,by rw[kl];exact byK_set n k h8⟩,by omega⟩⟩
  ·have h8:k=8:=by have:=of_decide_eq_false h;omega
   rw[kl,h8]
 rintro⟨i,l⟩ hl
 revert i l
 intro (i:Int) (l:List Int) (hl:l=byK n 8)
 refine tr_vc hsp mixed _ _ ?_
 refine vcx (X:=(0+8<=8/\(List.take 8 l,())=(byo n,()))) (by kernel_rfl) ?_
 refine⟨by decide,?_⟩
 rw[hl,byo,opq_eq,List.take_of_length_le (by rw[byK_len n 8 (by decide)];decide)]
def spBytes:Nat × Eng.Spec:=(184,fnSpec [.int .u64] [.own (.int .u8)] (fun _=>True) (fun (n,_)=>(byo n,())))
theorem wrap_u8' (x:Int):IntKind.u8.wrap x=x%256:=by
 simp only[IntKind.wrap,IntKind.signed,IntKind.bits]
 simp
theorem byo_Bs (n:Int):Bs (byo n):=by
 intro x hx
 rw[byo,opq_eq,byK] at hx
 simp only[Nat.sub_self,List.replicate_zero,List.append_nil,List.mem_map] at hx
 obtain⟨i,_,rfl⟩:=hx
 rw[byE,wrap_u8']
 omega
def frb (x:F12):F12:=opq (tower.frobF x)
def cjo (x:F12):F12:=opq (conj12 x)
def ivo (x:F12):F12:=opq (Fd.inv x)
theorem fo_frob:FnOk Tryz.prog 183 [f12k] [.val f12k] noG (fun _=>True) (fun (x,_)=>(frb x,())):=tower.fn_frob.out (by rintro⟨x,⟨⟩⟩;show (frb x,())=(tower.frobF x,());rw[frb,opq_eq])
theorem fo_conj:FnOk Tryz.prog 180 [f12k] [.val f12k] noG (fun _=>True) (fun (x,_)=>(cjo x,())):=tower.fn_conj.out (by rintro⟨x,⟨⟩⟩;show (cjo x,())=(conj12 x,());rw[cjo,opq_eq])
theorem fo_inv:FnOk Tryz.prog 182 [f12k] [.val f12k] noG (fun _=>True) (fun (x,_)=>(ivo x,())):=tower.fn_inv.out (by rintro⟨x,⟨⟩⟩;show (ivo x,())=(Fd.inv (x:F12),());rw[ivo,opq_eq])
def soFrob:Nat × Eng.Spec:=(183,fnSpec [f12k] [.val f12k] (fun _=>True) (fun (x,_)=>(frb x,())))
def soConj:Nat × Eng.Spec:=(180,fnSpec [f12k] [.val f12k] (fun _=>True) (fun (x,_)=>(cjo x,())))
def soInv:Nat × Eng.Spec:=(182,fnSpec [f12k] [.val f12k] (fun _=>True) (fun (x,_)=>(ivo x,())))
def finE (f:F12):F12:=frb (frb (cjo f*ivo f))*(cjo f*ivo f)
def pw8 (x:F12) (n:Int):F12:=pwo x (num (byo n)).toNat
def finA (f:F12):F12:=pw8 (pw8 f 15132376222941642753) 15132376222941642753
def finB (a:F12):F12:=cjo (pw8 a 15132376222941642752)*frb a
def finC (b:F12):F12:=pw8 (pw8 b 15132376222941642752) 15132376222941642752*frb (frb b)*cjo b
def finF (f:F12):F12:=finC (finB (finA (finE f)))*(finE f*finE f)*finE f
def fino (f:F12):F12:=opq (finF f)
theorem ent_finish:enters Tryz.prog 143 Tryz.f143:=ek
theorem fn_finish:FnOk Tryz.prog 143 [f12k] [.val f12k] noG (fun _=>True) (fun (f,_)=>(fino f,())):=by
 refine fn_of_vc (sp:=sps [soConj,soInv,tower.spMul,soFrob,spBytes,tower.spPower,tower.spSquare]) (spk (fok fo_conj) (spk (fok fo_inv) (spk (fok tower.fn_mul) (spk (fok fo_frob) (spk (fok fn_bytes) (spk (fok tower.fn_power) (spk (fok tower.fn_square) snl))))))) mixed ent_finish (by decide) (by decide) ?_
 rintro w M0 ⟨f,⟨⟩⟩
 revert f
 intro (f:F12) _ _
 refine vcx (X:=(True/\True/\True/\True/\True/\True/\True/\True/\(0:Nat)+(byo (15132376222941642753:Int)).length<=(byo (15132376222941642753:Int)).length/\prePow (frb (frb (cjo f*ivo f))*(cjo f*ivo f),List.take (byo (15132376222941642753:Int)).length (byo (15132376222941642753:Int)),())/\(0:Nat)+(byo (15132376222941642753:Int)).length<=(byo (15132376222941642753:Int)).length/\prePow (pwo (frb (frb (cjo f*ivo f))*(cjo f*ivo f)) (num (List.take (byo (15132376222941642753:Int)).length (byo (15132376222941642753:Int)))).toNat,List.take (byo (15132376222941642753:Int)).length (byo (15132376222941642753:Int)),())/\(0:Nat)+(byo (15132376222941642752:Int)).length<=(byo (15132376222941642752:Int)).length/\prePow (pwo (pwo (frb (frb (cjo f*ivo f))*(cjo f*ivo f)) (num (List.take (byo (15132376222941642753:Int)).length (byo (15132376222941642753:Int)))).toNat) (num (List.take (byo (15132376222941642753:Int)).length (byo (15132376222941642753:Int)))).toNat,List.take (byo (15132376222941642752:Int)).length (byo (15132376222941642752:Int)),())/\True/\True/\True/\(0:Nat)+(byo (15132376222941642752:Int)).length<=(byo (15132376222941642752:Int)).length/\prePow (cjo (pwo (pwo (pwo (frb (frb (cjo f*ivo f))*(cjo f*ivo f)) (num (List.take (byo (15132376222941642753:Int)).length (byo (15132376222941642753:Int)))).toNat) (num (List.take (byo (15132376222941642753:Int)).length (byo (15132376222941642753:Int)))).toNat) (num (List.take (byo (15132376222941642752:Int)).length (byo (15132376222941642752:Int)))).toNat)*frb (pwo (pwo (frb (frb (cjo f*ivo f))*(cjo f*ivo f)) (num (List.take (byo (15132376222941642753:Int)).length (byo (15132376222941642753:Int)))).toNat) (num (List.take (byo (15132376222941642753:Int)).length (byo (15132376222941642753:Int)))).toNat),List.take (byo (15132376222941642752:Int)).length (byo (15132376222941642752:Int)),())/\(0:Nat)+(byo (15132376222941642752:Int)).length<=(byo (15132376222941642752:Int)).length/\prePow (pwo (cjo (pwo (pwo (pwo (frb (frb (cjo f*ivo f))*(cjo f*ivo f)) (num (List.take (byo (15132376222941642753:Int)).length (byo (15132376222941642753:Int)))).toNat) (num (List.take (byo (15132376222941642753:Int)).length (byo (15132376222941642753:Int)))).toNat) (num (List.take (byo (15132376222941642752:Int)).length (byo (15132376222941642752:Int)))).toNat)*frb (pwo (pwo (frb (frb (cjo f*ivo f))*(cjo f*ivo f)) (num (List.take (byo (15132376222941642753:Int)).length (byo (15132376222941642753:Int)))).toNat) (num (List.take (byo (15132376222941642753:Int)).length (byo (15132376222941642753:Int)))).toNat)) (num (List.take (byo (15132376222941642752:Int)).length (byo (15132376222941642752:Int)))).toNat,List.take (byo (15132376222941642752:Int)).length (byo (15132376222941642752:Int)),())/\True/\True/\True/\True/\True/\True/\True/\True/\(pwo (pwo (cjo (pwo (pwo (pwo (frb (frb (cjo f*ivo f))*(cjo f*ivo f)) (num (List.take (byo (15132376222941642753:Int)).length (byo (15132376222941642753:Int)))).toNat) (num (List.take (byo (15132376222941642753:Int)).length (byo (15132376222941642753:Int)))).toNat) (num (List.take (byo (15132376222941642752:Int)).length (byo (15132376222941642752:Int)))).toNat)*frb (pwo (pwo (frb (frb (cjo f*ivo f))*(cjo f*ivo f)) (num (List.take (byo (15132376222941642753:Int)).length (byo (15132376222941642753:Int)))).toNat) (num (List.take (byo (15132376222941642753:Int)).length (byo (15132376222941642753:Int)))).toNat)) (num (List.take (byo (15132376222941642752:Int)).length (byo (15132376222941642752:Int)))).toNat) (num (List.take (byo (15132376222941642752:Int)).length (byo (15132376222941642752:Int)))).toNat*frb (frb (cjo (pwo (pwo (pwo (frb (frb (cjo f*ivo f))*(cjo f*ivo f)) (num (List.take (byo (15132376222941642753:Int)).length (byo (15132376222941642753:Int)))).toNat) (num (List.take (byo (15132376222941642753:Int)).length (byo (15132376222941642753:Int)))).toNat) (num (List.take (byo (15132376222941642752:Int)).length (byo (15132376222941642752:Int)))).toNat)*frb (pwo (pwo (frb (frb (cjo f*ivo f))*(cjo f*ivo f)) (num (List.take (byo (15132376222941642753:Int)).length (byo (15132376222941642753:Int)))).toNat) (num (List.take (byo (15132376222941642753:Int)).length (byo (15132376222941642753:Int)))).toNat)))*cjo (cjo (pwo (pwo (pwo (frb (frb (cjo f*ivo f))*(cjo f*ivo f)) (num (List.take (byo (15132376222941642753:Int)).length (byo (15132376222941642753:Int)))).toNat) (num (List.take (byo (15132376222941642753:Int)).length (byo (15132376222941642753:Int)))).toNat) (num (List.take (byo (15132376222941642752:Int)).length (byo (15132376222941642752:Int)))).toNat)*frb (pwo (pwo (frb (frb (cjo f*ivo f))*(cjo f*ivo f)) (num (List.take (byo (15132376222941642753:Int)).length (byo (15132376222941642753:Int)))).toNat) (num (List.take (byo (15132376222941642753:Int)).length (byo (15132376222941642753:Int)))).toNat))*(frb (frb (cjo f*ivo f))*(cjo f*ivo f)*(frb (frb (cjo f*ivo f))*(cjo f*ivo f)))*(frb (frb (cjo f*ivo f))*(cjo f*ivo f)),())=(fino f,()))) (by kernel_rfl) ?_
 have l1:=byo_len 15132376222941642753
 have l2:=byo_len 15132376222941642752
 have b1:=byo_Bs 15132376222941642753
 have b2:=byo_Bs 15132376222941642752
 have p1:∀ x:F12,prePow (x,byo 15132376222941642753,()):=fun _=>⟨b1,by show (byo 15132376222941642753).length<=_;omega⟩
 have p2:∀ x:F12,prePow (x,byo 15132376222941642752,()):=fun _=>⟨b2,by show (byo 15132376222941642752).length<=_;omega⟩
 rw[List.take_length,List.take_length]
 repeat first|refine⟨trivial,?_⟩|refine⟨p1 _,?_⟩|refine⟨p2 _,?_⟩|refine⟨by omega,?_⟩
 rw[fino,opq_eq]
 rfl
def spFinish:Nat × Eng.Spec:=(143,fnSpec [f12k] [.val f12k] (fun _=>True) (fun (f,_)=>(fino f,())))
end
end Go.Proofs.YtbeeaekepmnfhaaGreatDoor.pairing
namespace Go.Proofs.YtbeeaekepmnfhaaGreatDoor.pairing
open Go Go.Eng Go.RowKit Cr fp2 tower
def balPrn0:ByteArray:=(ByteArray.mk ((([(0:UInt8),(1:UInt8),(2:UInt8),(2:UInt8),(3:UInt8),(3:UInt8),(3:UInt8),(3:UInt8),(4:UInt8),(4:UInt8),(4:UInt8),(4:UInt8),(4:UInt8),(4:UInt8),(4:UInt8),(4:UInt8),(5:UInt8),(5:UInt8),(5:UInt8),(5:UInt8),(5:UInt8),(5:UInt8),(5:UInt8),(5:UInt8),(5:UInt8),(5:UInt8),(5:UInt8),(5:UInt8),(5:UInt8),(5:UInt8),(5:UInt8),(5:UInt8),(6:UInt8),(6:UInt8),(6:UInt8),(6:UInt8),(6:UInt8),(6:UInt8),(6:UInt8),(6:UInt8),(6:UInt8),(6:UInt8),(6:UInt8),(6:UInt8),(6:UInt8),(6:UInt8),(6:UInt8),(6:UInt8),(6:UInt8),(6:UInt8),(6:UInt8),(6:UInt8),(6:UInt8),(6:UInt8),(6:UInt8),(6:UInt8),(6:UInt8),(6:UInt8),(6:UInt8),(6:UInt8),(6:UInt8),(6:UInt8),(6:UInt8),(6:UInt8)].append [(7:UInt8),(7:UInt8),(7:UInt8),(7:UInt8),(7:UInt8),(7:UInt8),(7:UInt8),(7:UInt8),(7:UInt8),(7:UInt8),(7:UInt8),(7:UInt8),(7:UInt8),(7:UInt8),(7:UInt8),(7:UInt8),(7:UInt8),(7:UInt8),(7:UInt8),(7:UInt8),(7:UInt8),(7:UInt8),(7:UInt8),(7:UInt8),(7:UInt8),(7:UInt8),(7:UInt8),(7:UInt8),(7:UInt8),(7:UInt8),(7:UInt8),(7:UInt8),(7:UInt8),(7:UInt8),(7:UInt8),(7:UInt8),(7:UInt8),(7:UInt8),(7:UInt8),(7:UInt8),(7:UInt8),(7:UInt8),(7:UInt8),(7:UInt8),(7:UInt8),(7:UInt8),(7:UInt8),(7:UInt8),(7:UInt8),(7:UInt8),(7:UInt8),(7:UInt8),(7:UInt8),(7:UInt8),(7:UInt8),(7:UInt8),(7:UInt8),(7:UInt8),(7:UInt8),(7:UInt8),(7:UInt8),(7:UInt8),(7:UInt8),(7:UInt8)]).append ([(8:UInt8),(8:UInt8),(8:UInt8),(8:UInt8),(8:UInt8),(8:UInt8),(8:UInt8),(8:UInt8),(8:UInt8),(8:UInt8),(8:UInt8),(8:UInt8),(8:UInt8),(8:UInt8),(8:UInt8),(8:UInt8),(8:UInt8),(8:UInt8),(8:UInt8),(8:UInt8),(8:UInt8),(8:UInt8),(8:UInt8),(8:UInt8),(8:UInt8),(8:UInt8),(8:UInt8),(8:UInt8),(8:UInt8),(8:UInt8),(8:UInt8),(8:UInt8),(8:UInt8),(8:UInt8),(8:UInt8),(8:UInt8),(8:UInt8),(8:UInt8),(8:UInt8),(8:UInt8),(8:UInt8),(8:UInt8),(8:UInt8),(8:UInt8),(8:UInt8),(8:UInt8),(8:UInt8),(8:UInt8),(8:UInt8),(8:UInt8),(8:UInt8),(8:UInt8),(8:UInt8),(8:UInt8),(8:UInt8),(8:UInt8),(8:UInt8),(8:UInt8),(8:UInt8),(8:UInt8),(8:UInt8),(8:UInt8),(8:UInt8),(8:UInt8)].append [(8:UInt8),(8:UInt8),(8:UInt8),(8:UInt8),(8:UInt8),(8:UInt8),(8:UInt8),(8:UInt8),(8:UInt8),(8:UInt8),(8:UInt8),(8:UInt8),(8:UInt8),(8:UInt8),(8:UInt8),(8:UInt8),(8:UInt8),(8:UInt8),(8:UInt8),(8:UInt8),(8:UInt8),(8:UInt8),(8:UInt8),(8:UInt8),(8:UInt8),(8:UInt8),(8:UInt8),(8:UInt8),(8:UInt8),(8:UInt8),(8:UInt8),(8:UInt8),(8:UInt8),(8:UInt8),(8:UInt8),(8:UInt8),(8:UInt8),(8:UInt8),(8:UInt8),(8:UInt8),(8:UInt8),(8:UInt8),(8:UInt8),(8:UInt8),(8:UInt8),(8:UInt8),(8:UInt8),(8:UInt8),(8:UInt8),(8:UInt8),(8:UInt8),(8:UInt8),(8:UInt8),(8:UInt8),(8:UInt8),(8:UInt8),(8:UInt8),(8:UInt8),(8:UInt8),(8:UInt8),(8:UInt8),(8:UInt8),(8:UInt8),(8:UInt8)])).toArray ))
theorem ent_len64:enters Tryz.prog 138 Tryz.f138:=ek
theorem fn_len64:FnOk Tryz.prog 138 [.int .u64] [.val (.int .i64)] noG (fun (n,_)=>n=(15132376222941642752:Int)) (fun _=>((64:Int),())):=by
 refine fn_of_vc (sp:=sps []) snl mixed ent_len64 (by decide) (by decide) ?_
 rintro w M0 ⟨n,⟨⟩⟩
 revert n
 intro (n:Int) _ hn
 have hn:n=(15132376222941642752:Int):=hn
 subst hn
 refine vcx (X:=((decide ((15132376222941642752:Int)>=(4294967296:Int))=true->(0:Int)<=(32:Int)/\(decide (Int.fdiv (15132376222941642752:Int) ((2:Int)^min (32:Nat) IntKind.u64.bits)>=(65536:Int))=true->(0:Int)<=(16:Int)/\(decide ((Int.fdiv (15132376222941642752:Int) ((2:Int)^min (32:Nat) IntKind.u64.bits)).fdiv ((2:Int)^min (16:Nat) IntKind.u64.bits)>=(256:Int))=true->(0:Int)<=(8:Int)/\((0:Int)<=IntKind.u8.wrap (((Int.fdiv (15132376222941642752:Int) ((2:Int)^min (32:Nat) IntKind.u64.bits)).fdiv ((2:Int)^min (16:Nat) IntKind.u64.bits)).fdiv ((2:Int)^min (8:Nat) IntKind.u64.bits))/\IntKind.u8.wrap (((Int.fdiv (15132376222941642752:Int) ((2:Int)^min (32:Nat) IntKind.u64.bits)).fdiv ((2:Int)^min (16:Nat) IntKind.u64.bits)).fdiv ((2:Int)^min (8:Nat) IntKind.u64.bits))<(↑balPrn0.size:Int))/\(IntKind.i64.wrap (IntKind.i64.wrap (IntKind.i64.wrap ((32:Int)+(16:Int))+(8:Int))+IntKind.i64.wrap (↑(UInt8.toNat (8:UInt8)):Int)),())=((64:Int),()))/\(decide ((Int.fdiv (15132376222941642752:Int) ((2:Int)^min (32:Nat) IntKind.u64.bits)).fdiv ((2:Int)^min (16:Nat) IntKind.u64.bits)>=(256:Int))=false->((0:Int)<=IntKind.u8.wrap ((Int.fdiv (15132376222941642752:Int) ((2:Int)^min (32:Nat) IntKind.u64.bits)).fdiv ((2:Int)^min (16:Nat) IntKind.u64.bits))/\IntKind.u8.wrap ((Int.fdiv (15132376222941642752:Int) ((2:Int)^min (32:Nat) IntKind.u64.bits)).fdiv ((2:Int)^min (16:Nat) IntKind.u64.bits))<(↑balPrn0.size:Int))/\(IntKind.i64.wrap (IntKind.i64.wrap ((32:Int)+(16:Int))+IntKind.i64.wrap (↑(UInt8.toNat (1:UInt8)):Int)),())=((64:Int),())))/\(decide (Int.fdiv (15132376222941642752:Int) ((2:Int)^min (32:Nat) IntKind.u64.bits)>=(65536:Int))=false->(decide (Int.fdiv (15132376222941642752:Int) ((2:Int)^min (32:Nat) IntKind.u64.bits)>=(256:Int))=true->(0:Int)<=(8:Int)/\((0:Int)<=IntKind.u8.wrap ((Int.fdiv (15132376222941642752:Int) ((2:Int)^min (32:Nat) IntKind.u64.bits)).fdiv ((2:Int)^min (8:Nat) IntKind.u64.bits))/\IntKind.u8.wrap ((Int.fdiv (15132376222941642752:Int) ((2:Int)^min (32:Nat) IntKind.u64.bits)).fdiv ((2:Int)^min (8:Nat) IntKind.u64.bits))<(↑balPrn0.size:Int))/\(IntKind.i64.wrap (IntKind.i64.wrap ((32:Int)+(8:Int))+IntKind.i64.wrap (↑(UInt8.toNat (0:UInt8)):Int)),())=((64:Int),()))/\(decide (Int.fdiv (15132376222941642752:Int) ((2:Int)^min (32:Nat) IntKind.u64.bits)>=(256:Int))=false->((0:Int)<=IntKind.u8.wrap (Int.fdiv (15132376222941642752:Int) ((2:Int)^min (32:Nat) IntKind.u64.bits))/\IntKind.u8.wrap (Int.fdiv (15132376222941642752:Int) ((2:Int)^min (32:Nat) IntKind.u64.bits))<(↑balPrn0.size:Int))/\(IntKind.i64.wrap ((32:Int)+IntKind.i64.wrap (↑(UInt8.toNat (0:UInt8)):Int)),())=((64:Int),()))))/\(decide ((15132376222941642752:Int)>=(4294967296:Int))=false->(decide ((15132376222941642752:Int)>=(65536:Int))=true->(0:Int)<=(16:Int)/\(decide (Int.fdiv (15132376222941642752:Int) ((2:Int)^min (16:Nat) IntKind.u64.bits)>=(256:Int))=true->(0:Int)<=(8:Int)/\((0:Int)<=IntKind.u8.wrap ((Int.fdiv (15132376222941642752:Int) ((2:Int)^min (16:Nat) IntKind.u64.bits)).fdiv ((2:Int)^min (8:Nat) IntKind.u64.bits))/\IntKind.u8.wrap ((Int.fdiv (15132376222941642752:Int) ((2:Int)^min (16:Nat) IntKind.u64.bits)).fdiv ((2:Int)^min (8:Nat) IntKind.u64.bits))<(↑balPrn0.size:Int))/\(IntKind.i64.wrap (IntKind.i64.wrap (IntKind.i64.wrap ((0:Int)+(16:Int))+(8:Int))+IntKind.i64.wrap (↑(UInt8.toNat (0:UInt8)):Int)),())=((64:Int),()))/\(decide (Int.fdiv (15132376222941642752:Int) ((2:Int)^min (16:Nat) IntKind.u64.bits)>=(256:Int))=false->((0:Int)<=IntKind.u8.wrap (Int.fdiv (15132376222941642752:Int) ((2:Int)^min (16:Nat) IntKind.u64.bits))/\IntKind.u8.wrap (Int.fdiv (15132376222941642752:Int) ((2:Int)^min (16:Nat) IntKind.u64.bits))<(↑balPrn0.size:Int))/\(IntKind.i64.wrap (IntKind.i64.wrap ((0:Int)+(16:Int))+IntKind.i64.wrap (↑(UInt8.toNat (1:UInt8)):Int)),())=((64:Int),())))/\(decide ((15132376222941642752:Int)>=(65536:Int))=false->(decide ((15132376222941642752:Int)>=(256:Int))=true->(0:Int)<=(8:Int)/\((0:Int)<=IntKind.u8.wrap (Int.fdiv (15132376222941642752:Int) ((2:Int)^min (8:Nat) IntKind.u64.bits))/\IntKind.u8.wrap (Int.fdiv (15132376222941642752:Int) ((2:Int)^min (8:Nat) IntKind.u64.bits))<(↑balPrn0.size:Int))/\(IntKind.i64.wrap (IntKind.i64.wrap ((0:Int)+(8:Int))+IntKind.i64.wrap (↑(UInt8.toNat (0:UInt8)):Int)),())=((64:Int),()))/\(decide ((15132376222941642752:Int)>=(256:Int))=false->((0:Int)<=IntKind.u8.wrap (15132376222941642752:Int)/\IntKind.u8.wrap (15132376222941642752:Int)<(↑balPrn0.size:Int))/\(IntKind.i64.wrap ((0:Int)+IntKind.i64.wrap (↑(UInt8.toNat (0:UInt8)):Int)),())=((64:Int),())))))) (by kernel_rfl) ?_
 refine⟨fun _=>⟨by decide,fun _=>⟨by decide,fun _=>⟨by decide,⟨by decide,by decide⟩,?_⟩,fun h=>absurd h (by decide)⟩,fun h=>absurd h (by decide)⟩,fun h=>absurd h (by decide)⟩
 decide
noncomputable def spLen64:Nat × Eng.Spec:=(138,fnSpec [.int .u64] [.val (.int .i64)] (fun (n,_)=>n=(15132376222941642752:Int)) (fun _=>((64:Int),())))
end Go.Proofs.YtbeeaekepmnfhaaGreatDoor.pairing
namespace Go.Proofs.YtbeeaekepmnfhaaGreatDoor.pairing
noncomputable section
open Go Go.Eng Go.RowKit Cr fp2 tower
abbrev zzPrl:(Fp × Fp) × (F2 × F2) × (F2 × F2 × F2):=(((0:Fp),(0:Fp)),(((0:Fp),(0:Fp)),(0:Fp),(0:Fp)),((0:Fp),(0:Fp)),((0:Fp),(0:Fp)),(0:Fp),(0:Fp))
abbrev prk:Kd:=.pair pt1 (.pair pt2 plk)
abbrev Pr:=(Fp × Fp) × ((F2 × F2) × (F2 × F2 × F2))
def pr1 (p:Fp × Fp) (q:F2 × F2) (l:List Pr):List Pr:=match !eqC pt1 p ((0:Fp),(0:Fp)),!eqC pt2 q (((0:Fp),(0:Fp)),(0:Fp),(0:Fp)) with
 | true,true=>l++[(p,(q,(q.1,q.2,(1:F2))))]
 | _,_=>l
def prs (ps:List (Fp × Fp)) (qs:List (F2 × F2)) (k:Nat):List Pr:=it (fun i l=>pr1 (ps.getD i ((0:Fp),(0:Fp))) (qs.getD i (((0:Fp),(0:Fp)),(0:Fp),(0:Fp))) l) [] k
theorem pr1_len (p:Fp × Fp) (q:F2 × F2) (l:List Pr):(pr1 p q l).length<=l.length+1:=by
 unfold pr1
 split
 ·simp
 ·omega
theorem prs_len (ps:List (Fp × Fp)) (qs:List (F2 × F2)):∀ k,(prs ps qs k).length<=k
 | 0=>Nat.zero_le _
 | k+1=>Nat.le_trans (pr1_len _ _ _) (Nat.succ_le_succ (prs_len ps qs k))
theorem ent_lines:enters Tryz.prog 144 Tryz.f144:=ek
abbrev preLin:HL [.sl pt1,.sl pt2]->Prop:=fun (ps,qs,_)=>List.length ps<=List.length qs/\List.length ps<=1048576
def liA (o:F2) (ps:List (Fp × Fp)) (qs:List (F2 × F2)) (g:Int × Nat × Nat × List Pr):St:=mkSt Tryz.f144.ntmps 88 [(1,.is (.one (.ro pt2 qs))),(4,.is (.one (.ptr 0 0))),(5,.is (.one (.ptr 16 0))),(6,.is (.one (.sl 48 0 0 g.2.1 72))),(19,.is (.one (.ro pt1 ps))),(20,sI .i64 ps.length),(21,sI .i64 g.1)] [(48,[.row prk g.2.2.1 g.2.2.2]),(16,cellsOf f2 o),(0,cellsOf f12k (0:F12))]
def liO (g:Nat × Nat × List Pr):St:=mkSt Tryz.f144.ntmps 88 [(4,.is (.one (.ptr 0 0))),(6,.is (.one (.sl 48 0 0 g.1 72)))] [(48,[.row prk g.2.1 g.2.2]),(0,cellsOf f12k (0:F12))]
def pbit (b:Int):Bool:=bitOp .and .u64 (Int.fdiv 15132376222941642752 (2^min b.toNat IntKind.u64.bits)) 1==1
def stF (b:Bool) (f:F12) (k:Pr):F12 × Pr:=match b with
 | false=>(f*line12 (two k.2.2 k.1).2.1 (two k.2.2 k.1).2.2.1 (two k.2.2 k.1).2.2.2,(k.1,(k.2.1,(two k.2.2 k.1).1)))
 | true=>(f*line12 (two k.2.2 k.1).2.1 (two k.2.2 k.1).2.2.1 (two k.2.2 k.1).2.2.2*line12 (plo (two k.2.2 k.1).1 k.2.1 k.1).2.1 (plo (two k.2.2 k.1).1 k.2.1 k.1).2.2.1 (plo (two k.2.2 k.1).1 k.2.1 k.1).2.2.2,(k.1,(k.2.1,(plo (two k.2.2 k.1).1 k.2.1 k.1).1)))
def inK (b:Bool) (s:F12 × List Pr) (i:Nat):F12 × List Pr:=it (fun i s=>((stF b s.1 (s.2.getD i (zeroOf prk))).1,s.2.set i (stF b s.1 (s.2.getD i (zeroOf prk))).2)) s i
theorem inK_len (b:Bool) (s:F12 × List Pr):∀ i,(inK b s i).2.length=s.2.length
 | 0=>rfl
 | i+1=>by show (List.set _ _ _).length=_;rw[List.length_set];exact inK_len b s i
def ouK (l:List Pr) (j:Nat):F12 × List Pr:=it (fun j s=>inK (pbit (62-(j:Int))) (s.1*s.1,s.2) l.length) (1,l) j
theorem ouK_len (l:List Pr):∀ j,(ouK l j).2.length=l.length
 | 0=>rfl
 | j+1=>by show (inK _ _ _).2.length=_;rw[inK_len];exact ouK_len l j
def liM (L N:Nat) (g:Int × F12 × List Pr):St:=mkSt Tryz.f144.ntmps 160 [(4,.is (.one (.ptr 0 0))),(6,.is (.one (.sl 48 0 0 L 72))),(10,.is (.one (.ptr 96 0))),(11,sI .i64 g.1)] [(48,[.row prk N g.2.2]),(96,c12 g.2.1),(0,cellsOf f12k (0:F12))]
def liN (L N:Nat) (b:Int) (g:Int × F12 × List Pr):St:=mkSt Tryz.f144.ntmps 160 [(4,.is (.one (.ptr 0 0))),(6,.is (.one (.sl 48 0 0 L 72))),(10,.is (.one (.ptr 96 0))),(11,sI .i64 b),(65,sI .i64 L),(66,sI .i64 g.1)] [(48,[.row prk N g.2.2]),(96,c12 g.2.1),(0,cellsOf f12k (0:F12))]
def liF (ps:List (Fp × Fp)) (qs:List (F2 × F2)):F12:=match (prs ps qs ps.length).length with
 | 0=>1
 | _+1=>cjo (ouK (prs ps qs ps.length) 63).1
def lino (ps:List (Fp × Fp)) (qs:List (F2 × F2)):F12:=opq (liF ps qs)
theorem fn_lines:FnOk Tryz.prog 144 [.sl pt1,.sl pt2] [.val f12k] noG preLin (fun (ps,qs,_)=>(lino ps qs,())):=by
 have hsp:SpecsOk Tryz.prog (sps [fp2.spSmall,tower.spOne,spLen64,tower.spSquare,spTwice,spPlus,tower.spLine,soConj]):=spk (fok fp2.fn_small) (spk (fok tower.fn_one) (spk (fok fn_len64) (spk (fok tower.fn_square) (spk (fok fn_twice) (spk (fok fn_plus) (spk (fok tower.fn_line) (spk (fok fo_conj) snl)))))))
 refine fn_of_tr (sp:=sps [fp2.spSmall,tower.spOne,spLen64,tower.spSquare,spTwice,spPlus,tower.spLine,soConj]) ent_lines (by decide) (by decide) (by kernel_rfl) ?_
 rintro w M0 ⟨ps,qs,⟨⟩⟩
 revert ps qs
 intro (ps:List (Fp × Fp)) (qs:List (F2 × F2)) _ hp
 have hpq:ps.length<=qs.length:=hp.1
 have hpl:ps.length<=1048576:=hp.2
 show Tr _ _ _ _ _ _ _
 refine tr_cutF hsp mixed 4 (fun σ=>(rdB f2 16 σ,rdN 48 σ,rdR prk 48 σ)) (fun g=>liA g.1 ps qs (0,0,g.2.1,g.2.2)) (fun g=>g.1=(1:F2)) ?_ ?_
 ·refine vcx (X:=((U64 (1:Int)/\U64 (0:Int))/\((0:Int)<=(0:Int)/\(0:Int)<=(↑ps.length:Int)/\(↑(576:Nat):Int)*(↑ps.length:Int)<=(281474976710656:Int)/\(↑ps.length:Int)<=(9223372036854775807:Int))/\(liA ((zmp (1:Int),zmp (0:Int)),(↑ps.length:Int).toNat,List.replicate (↑ps.length:Int).toNat zzPrl).fst ps qs ((0:Int),(0:Nat),((zmp (1:Int),zmp (0:Int)),(↑ps.length:Int).toNat,List.replicate (↑ps.length:Int).toNat zzPrl).snd.fst,((zmp (1:Int),zmp (0:Int)),(↑ps.length:Int).toNat,List.replicate (↑ps.length:Int).toNat zzPrl).snd.snd)).triv ((zmp (1:Int),zmp (0:Int))=(1:F2)))) (by kernel_rfl) ?_
  refine⟨⟨⟨by decide,by decide⟩,⟨by decide,by decide⟩⟩,⟨by decide,by omega,by omega,by omega⟩,tvi ?_⟩
  have h1:zmp 1=(1:Fp):=Zm.ext (by decide)
  have h0:zmp 0=(0:Fp):=Zm.ext (by decide)
  rw[h1,h0];rfl
 rintro⟨o,N0,x0⟩ ho
 revert o x0
 intro (o:F2) (x0:List Pr) (ho:o=(1:F2))
 refine tr_while hsp mixed (fun σ=>[(48,rdI 6 σ)]) (fun σ=>(rdS (.int .i64) 21 σ,rdL 6 σ,rdN 48 σ,rdR prk 48 σ)) (liA o ps qs) (fun g=>∃ k:Nat,k<=ps.length/\g.1=(k:Int)/\g.2.1<=g.2.2.1/\g.2.2.2.take g.2.1=prs ps qs k/\g.2.1=(prs ps qs k).length) (fun g=>ps.length-g.1.toNat)
  (fun σ=>(rdL 6 σ,rdN 48 σ,rdR prk 48 σ)) liO (fun g=>g.1<=g.2.1/\g.2.2.take g.1=prs ps qs ps.length/\g.1=(prs ps qs ps.length).length) (0,0,N0,x0) (c:=nthC (codeOf Tryz.f144) 4) (by kernel_rfl) (by kernel_rfl) (le_of_proj (by kernel_rfl) (by kernel_rfl) ?_) ?_ ?_
 ·exact⟨0,Nat.zero_le _,rfl,Nat.zero_le _,rfl,rfl⟩
 ·rintro⟨i,L,N,xs⟩ hj
  revert i xs
  intro (i:Int) (xs:List Pr) ⟨k,hk,ei,hLN,hx,hL⟩
  have ei:i=(k:Int):=ei
  subst ei
  have hLN:L<=N:=hLN
  have hx:xs.take L=prs ps qs k:=hx
  have hL:L=(prs ps qs k).length:=hL
  refine vcx (X:=((decide ((↑k:Int)<(↑ps.length:Int))=true->((0:Int)<=(↑k:Int)/\(↑k:Int)<(↑ps.length:Int))/\(↑k:Int).toNat<ps.length/\((0:Int)<=(↑k:Int)/\(↑k:Int)<(↑qs.length:Int))/\(↑k:Int).toNat<qs.length/\((!eqC (Kd.fp.pair Kd.fp) (ps.getD (↑k:Int).toNat ((0:Fp),(0:Fp))) ((0:Fp),(0:Fp)))=true->((!eqC ((Kd.fp.pair Kd.fp).pair (Kd.fp.pair Kd.fp)) (qs.getD (↑k:Int).toNat (((0:Fp),(0:Fp)),(0:Fp),(0:Fp))) (((0:Fp),(0:Fp)),(0:Fp),(0:Fp)))=true->0+1<=1/\L<=N/\(L+(1:Nat))*(576:Nat)<=(140737488355328:Nat)/\L+(1:Nat)<=(4611686018427387904:Nat)/\(liA o ps qs (IntKind.i64.wrap ((↑k:Int)+(1:Int)),L+(1:Nat),L+(1:Nat),List.take L xs++List.take 1 [(ps.getD (↑k:Int).toNat ((0:Fp),(0:Fp)),qs.getD (↑k:Int).toNat (((0:Fp),(0:Fp)),(0:Fp),(0:Fp)),(qs.getD (↑k:Int).toNat (((0:Fp),(0:Fp)),(0:Fp),(0:Fp))).fst,(qs.getD (↑k:Int).toNat (((0:Fp),(0:Fp)),(0:Fp),(0:Fp))).snd,o)])).triv ((∃ k_1,k_1<=ps.length/\IntKind.i64.wrap ((↑k:Int)+(1:Int))=(↑k_1:Int)/\L+(1:Nat)<=L+(1:Nat)/\List.take (L+(1:Nat)) (List.take L xs++List.take 1 [(ps.getD (↑k:Int).toNat ((0:Fp),(0:Fp)),qs.getD (↑k:Int).toNat (((0:Fp),(0:Fp)),(0:Fp),(0:Fp)),(qs.getD (↑k:Int).toNat (((0:Fp),(0:Fp)),(0:Fp),(0:Fp))).fst,(qs.getD (↑k:Int).toNat (((0:Fp),(0:Fp)),(0:Fp),(0:Fp))).snd,o)])=prs ps qs k_1/\L+(1:Nat)=(prs ps qs k_1).length)/\ps.length-(IntKind.i64.wrap ((↑k:Int)+(1:Int))).toNat<ps.length-(↑k:Int).toNat))/\((!eqC ((Kd.fp.pair Kd.fp).pair (Kd.fp.pair Kd.fp)) (qs.getD (↑k:Int).toNat (((0:Fp),(0:Fp)),(0:Fp),(0:Fp))) (((0:Fp),(0:Fp)),(0:Fp),(0:Fp)))=false->(liA o ps qs (IntKind.i64.wrap ((↑k:Int)+(1:Int)),L,N,xs)).triv ((∃ k_1,k_1<=ps.length/\IntKind.i64.wrap ((↑k:Int)+(1:Int))=(↑k_1:Int)/\L<=N/\List.take L xs=prs ps qs k_1/\L=(prs ps qs k_1).length)/\ps.length-(IntKind.i64.wrap ((↑k:Int)+(1:Int))).toNat<ps.length-(↑k:Int).toNat)))/\((!eqC (Kd.fp.pair Kd.fp) (ps.getD (↑k:Int).toNat ((0:Fp),(0:Fp))) ((0:Fp),(0:Fp)))=false->(liA o ps qs (IntKind.i64.wrap ((↑k:Int)+(1:Int)),L,N,xs)).triv ((∃ k_1,k_1<=ps.length/\IntKind.i64.wrap ((↑k:Int)+(1:Int))=(↑k_1:Int)/\L<=N/\List.take L xs=prs ps qs k_1/\L=(prs ps qs k_1).length)/\ps.length-(IntKind.i64.wrap ((↑k:Int)+(1:Int))).toNat<ps.length-(↑k:Int).toNat)))/\(decide ((↑k:Int)<(↑ps.length:Int))=false->(liO (L,N,xs)).triv (L<=N/\List.take L xs=prs ps qs ps.length/\L=(prs ps qs ps.length).length)))) (by kernel_rfl) ?_
  have hstep:prs ps qs (k+1)=pr1 (ps.getD k ((0:Fp),(0:Fp))) (qs.getD k (((0:Fp),(0:Fp)),(0:Fp),(0:Fp))) (prs ps qs k):=rfl
  have hle:=prs_len ps qs k
  refine⟨fun h=>?_,fun h=>tvi ?_⟩
  ·have hlt:k<ps.length:=by have:=of_decide_eq_true h;omega
   rw[wrap_succ (by omega)]
   simp only[Int.toNat_natCast]
   refine⟨⟨by omega,by omega⟩,hlt,⟨by omega,by omega⟩,by omega,fun h1=>⟨fun h2=>⟨by decide,hLN,by omega,by omega,tvi ⟨⟨k+1,hlt,rfl,Nat.le_refl _,?_,?_⟩,by omega⟩⟩,fun h2=>tvi ⟨⟨k+1,hlt,rfl,hLN,?_,?_⟩,by omega⟩⟩,fun h1=>tvi ⟨⟨k+1,hlt,rfl,hLN,?_,?_⟩,by omega⟩⟩
   ·rw[hstep,pr1,h1,h2,hx,List.take_of_length_le (by rw[List.length_append,<- hL];exact Nat.le_refl _),ho];rfl
   ·rw[hstep,pr1,h1,h2]
    show L+1=(prs ps qs k++[_]).length
    rw[List.length_append,<- hL];rfl
   ·rw[hstep,pr1,h1,h2,hx]
   ·rw[hstep,pr1,h1,h2,hL]
   ·rw[hstep,pr1,h1,hx]
   ·rw[hstep,pr1,h1,hL]
  ·have hk2:k=ps.length:=by have:=of_decide_eq_false h;omega
   rw[hk2] at hx hL
   exact⟨hLN,hx,hL⟩
 rintro⟨L,N,xs⟩ hj
 revert xs
 intro (xs:List Pr) ⟨hLN,hx,hL⟩
 have hLN:L<=N:=hLN
 have hx:xs.take L=prs ps qs ps.length:=hx
 have hL:L=(prs ps qs ps.length).length:=hL
 refine tr_cutF hsp mixed 4 (fun σ=>rdB f12k 96 σ) (fun f=>liM L N (62,f,xs)) (fun f=>f=(1:F12)/\0<L) ?_ ?_
 ·refine vcx (X:=(True/\(((↑L:Int)==(0:Int))=true->(((((1:Fp),(0:Fp)),((0:Fp),(0:Fp)),(0:Fp),(0:Fp)),((0:Fp),(0:Fp)),((0:Fp),(0:Fp)),(0:Fp),(0:Fp)),())=(lino ps qs,()))/\(((↑L:Int)==(0:Int))=false->(15132376222941642752:Int)=(15132376222941642752:Int)/\(liM L N ((62:Int),((((1:Fp),(0:Fp)),((0:Fp),(0:Fp)),(0:Fp),(0:Fp)),((0:Fp),(0:Fp)),((0:Fp),(0:Fp)),(0:Fp),(0:Fp)),xs)).triv (((((1:Fp),(0:Fp)),((0:Fp),(0:Fp)),(0:Fp),(0:Fp)),((0:Fp),(0:Fp)),((0:Fp),(0:Fp)),(0:Fp),(0:Fp))=(1:F12)/\(0:Nat)<L)))) (by kernel_rfl) ?_
  refine⟨trivial,fun h=>?_,fun h=>⟨rfl,tvi ⟨rfl,?_⟩⟩⟩
  ·have h0:L=0:=by have:(L:Int)=0:=by simpa using h
                   omega
   rw[lino,opq_eq,liF,<- hL,h0];rfl
  ·have h0:¬ (L:Int)=0:=by simpa using h
   omega
 rintro f0 ⟨hf0,hL0⟩
 revert f0
 intro (f0:F12) (hf0:f0=1)
 refine tr_whileT noSw (fun σ=>(rdS (.int .i64) 11 σ,rdB f12k 96 σ,rdR prk 48 σ)) (liM L N) (fun g=>∃ j:Nat,j<=63/\g.1=62-(j:Int)/\(g.2.1,g.2.2.take L)=ouK (prs ps qs ps.length) j) (fun g=>(g.1+1).toNat)
  (fun σ=>(rdS (.int .i64) 11 σ,rdB f12k 96 σ,rdR prk 48 σ)) (liM L N) (fun g=>g.2.1=(ouK (prs ps qs ps.length) 63).1) (62,f0,xs) (c:=nthC (codeOf Tryz.f144) 9) (by kernel_rfl) (by kernel_rfl) (le_of_proj (by kernel_rfl) (by kernel_rfl) ?_) ?_ ?_
 ·refine⟨0,by decide,rfl,?_⟩
  show (f0,xs.take L)=(1,prs ps qs ps.length)
  rw[hf0,hx]
 ·rintro⟨b,f,ys⟩ hj
  revert b f ys
  intro (b:Int) (f:F12) (ys:List Pr) ⟨j,hj,eb,es⟩
  have hj:j<=63:=hj
  have eb:b=62-(j:Int):=eb
  have es:(f,ys.take L)=ouK (prs ps qs ps.length) j:=es
  refine tr_cut hsp mixed 2 (liM L N (b,f,ys)) (j<63) ?_ (fun hj63=>?_)
  ·refine vcx (X:=((decide (b>=(0:Int))=true->(liM L N (b,f,ys)).triv (j<(63:Nat)))/\(decide (b>=(0:Int))=false->(liM L N (b,f,ys)).triv (f=(ouK (prs ps qs ps.length) (63:Nat)).fst)))) (by kernel_rfl) ?_
   refine⟨fun h=>tvi (by have h:b>=0:=of_decide_eq_true h
                         omega),fun h=>tvi ?_⟩
   have h:¬ b>=0:=of_decide_eq_false h
   have ej:j=63:=by omega
   rw[<- ej,<- es]
  refine tr_block (c:=nthC (loopOf (nthC (codeOf Tryz.f144) 9)) 2) (by kernel_rfl) (by kernel_rfl) ?_
  refine tr_cutF hsp mixed 2 (fun σ=>rdB f12k 96 σ) (fun f2=>liN L N b (0,f2,ys)) (fun f2=>f2=f*f) ?_ ?_
  ·refine vcx (X:=(True/\(liN L N b ((0:Int),f*f,ys)).triv (f*f=f*f))) (by kernel_rfl) ?_
   exact⟨trivial,tvi (by first|exact trivial|rfl)⟩
  intro (f2:F12) (hf2:f2=f*f)
  refine tr_while hsp mixed noSw (fun σ=>(rdS (.int .i64) 66 σ,rdB f12k 96 σ,rdR prk 48 σ)) (liN L N b) (fun g=>∃ i:Nat,i<=L/\g.1=(i:Int)/\(g.2.1,g.2.2.take L)=inK (pbit b) (f*f,ys.take L) i) (fun g=>L-g.1.toNat)
   (fun σ=>(rdB f12k 96 σ,rdR prk 48 σ)) (fun g=>liM L N (b,g.1,g.2)) (fun g=>(g.1,g.2.take L)=inK (pbit b) (f*f,ys.take L) L) (0,f2,ys) (c:=nthC (bodyOf (nthC (loopOf (nthC (codeOf Tryz.f144) 9)) 2)) 2) (by kernel_rfl) (by kernel_rfl) (le_of_proj (by kernel_rfl) (by kernel_rfl) ?_) ?_ ?_
  ·exact⟨0,Nat.zero_le _,rfl,by rw[hf2];rfl⟩
  ·rintro⟨i,f3,zs⟩ hi
   revert i f3 zs
   intro (i:Int) (f3:F12) (zs:List Pr) ⟨t,ht,ei,es3⟩
   have ei:i=(t:Int):=ei
   subst ei
   have ht:t<=L:=ht
   have es3:(f3,zs.take L)=inK (pbit b) (f*f,ys.take L) t:=es3
   refine vcx (X:=((decide ((↑t:Int)<(↑L:Int))=true->((0:Int)<=(↑t:Int)/\(↑t:Int)<(↑L:Int))/\(↑t:Int).toNat<N/\(↑t:Int).toNat<N/\True/\(↑t:Int).toNat<N/\True/\(0:Int)<=b/\((bitOp BinOp.and IntKind.u64 (Int.fdiv (15132376222941642752:Int) ((2:Int)^min b.toNat IntKind.u64.bits)) (1:Int)==(1:Int))=true->(↑t:Int).toNat<N/\(↑t:Int).toNat<N/\(↑t:Int).toNat<N/\True/\(↑t:Int).toNat<N/\True/\(liN L N b (IntKind.i64.wrap ((↑t:Int)+(1:Int)),f3*line12 (two (zs.getD (↑t:Int).toNat zzPrl).snd.snd (zs.getD (↑t:Int).toNat zzPrl).fst).snd.fst (two (zs.getD (↑t:Int).toNat zzPrl).snd.snd (zs.getD (↑t:Int).toNat zzPrl).fst).snd.snd.fst (two (zs.getD (↑t:Int).toNat zzPrl).snd.snd (zs.getD (↑t:Int).toNat zzPrl).fst).snd.snd.snd*line12 (plo ((zs.set (↑t:Int).toNat ((zs.getD (↑t:Int).toNat zzPrl).fst,(zs.getD (↑t:Int).toNat zzPrl).snd.fst,(two (zs.getD (↑t:Int).toNat zzPrl).snd.snd (zs.getD (↑t:Int).toNat zzPrl).fst).fst)).getD (↑t:Int).toNat zzPrl).snd.snd ((zs.set (↑t:Int).toNat ((zs.getD (↑t:Int).toNat zzPrl).fst,(zs.getD (↑t:Int).toNat zzPrl).snd.fst,(two (zs.getD (↑t:Int).toNat zzPrl).snd.snd (zs.getD (↑t:Int).toNat zzPrl).fst).fst)).getD (↑t:Int).toNat zzPrl).snd.fst ((zs.set (↑t:Int).toNat ((zs.getD (↑t:Int).toNat zzPrl).fst,(zs.getD (↑t:Int).toNat zzPrl).snd.fst,(two (zs.getD (↑t:Int).toNat zzPrl).snd.snd (zs.getD (↑t:Int).toNat zzPrl).fst).fst)).getD (↑t:Int).toNat zzPrl).fst).snd.fst (plo ((zs.set (↑t:Int).toNat ((zs.getD (↑t:Int).toNat zzPrl).fst,(zs.getD (↑t:Int).toNat zzPrl).snd.fst,(two (zs.getD (↑t:Int).toNat zzPrl).snd.snd (zs.getD (↑t:Int).toNat zzPrl).fst).fst)).getD (↑t:Int).toNat zzPrl).snd.snd ((zs.set (↑t:Int).toNat ((zs.getD (↑t:Int).toNat zzPrl).fst,(zs.getD (↑t:Int).toNat zzPrl).snd.fst,(two (zs.getD (↑t:Int).toNat zzPrl).snd.snd (zs.getD (↑t:Int).toNat zzPrl).fst).fst)).getD (↑t:Int).toNat zzPrl).snd.fst ((zs.set (↑t:Int).toNat ((zs.getD (↑t:Int).toNat zzPrl).fst,(zs.getD (↑t:Int).toNat zzPrl).snd.fst,(two (zs.getD (↑t:Int).toNat zzPrl).snd.snd (zs.getD (↑t:Int).toNat zzPrl).fst).fst)).getD (↑t:Int).toNat zzPrl).fst).snd.snd.fst (plo ((zs.set (↑t:Int).toNat ((zs.getD (↑t:Int).toNat zzPrl).fst,(zs.getD (↑t:Int).toNat zzPrl).snd.fst,(two (zs.getD (↑t:Int).toNat zzPrl).snd.snd (zs.getD (↑t:Int).toNat zzPrl).fst).fst)).getD (↑t:Int).toNat zzPrl).snd.snd ((zs.set (↑t:Int).toNat ((zs.getD (↑t:Int).toNat zzPrl).fst,(zs.getD (↑t:Int).toNat zzPrl).snd.fst,(two (zs.getD (↑t:Int).toNat zzPrl).snd.snd (zs.getD (↑t:Int).toNat zzPrl).fst).fst)).getD (↑t:Int).toNat zzPrl).snd.fst ((zs.set (↑t:Int).toNat ((zs.getD (↑t:Int).toNat zzPrl).fst,(zs.getD (↑t:Int).toNat zzPrl).snd.fst,(two (zs.getD (↑t:Int).toNat zzPrl).snd.snd (zs.getD (↑t:Int).toNat zzPrl).fst).fst)).getD (↑t:Int).toNat zzPrl).fst).snd.snd.snd,(zs.set (↑t:Int).toNat ((zs.getD (↑t:Int).toNat zzPrl).fst,(zs.getD (↑t:Int).toNat zzPrl).snd.fst,(two (zs.getD (↑t:Int).toNat zzPrl).snd.snd (zs.getD (↑t:Int).toNat zzPrl).fst).fst)).set (↑t:Int).toNat (((zs.set (↑t:Int).toNat ((zs.getD (↑t:Int).toNat zzPrl).fst,(zs.getD (↑t:Int).toNat zzPrl).snd.fst,(two (zs.getD (↑t:Int).toNat zzPrl).snd.snd (zs.getD (↑t:Int).toNat zzPrl).fst).fst)).getD (↑t:Int).toNat zzPrl).fst,((zs.set (↑t:Int).toNat ((zs.getD (↑t:Int).toNat zzPrl).fst,(zs.getD (↑t:Int).toNat zzPrl).snd.fst,(two (zs.getD (↑t:Int).toNat zzPrl).snd.snd (zs.getD (↑t:Int).toNat zzPrl).fst).fst)).getD (↑t:Int).toNat zzPrl).snd.fst,(plo ((zs.set (↑t:Int).toNat ((zs.getD (↑t:Int).toNat zzPrl).fst,(zs.getD (↑t:Int).toNat zzPrl).snd.fst,(two (zs.getD (↑t:Int).toNat zzPrl).snd.snd (zs.getD (↑t:Int).toNat zzPrl).fst).fst)).getD (↑t:Int).toNat zzPrl).snd.snd ((zs.set (↑t:Int).toNat ((zs.getD (↑t:Int).toNat zzPrl).fst,(zs.getD (↑t:Int).toNat zzPrl).snd.fst,(two (zs.getD (↑t:Int).toNat zzPrl).snd.snd (zs.getD (↑t:Int).toNat zzPrl).fst).fst)).getD (↑t:Int).toNat zzPrl).snd.fst ((zs.set (↑t:Int).toNat ((zs.getD (↑t:Int).toNat zzPrl).fst,(zs.getD (↑t:Int).toNat zzPrl).snd.fst,(two (zs.getD (↑t:Int).toNat zzPrl).snd.snd (zs.getD (↑t:Int).toNat zzPrl).fst).fst)).getD (↑t:Int).toNat zzPrl).fst).fst))).triv ((∃ i,i<=L/\IntKind.i64.wrap ((↑t:Int)+(1:Int))=(↑i:Int)/\(f3*line12 (two (zs.getD (↑t:Int).toNat zzPrl).snd.snd (zs.getD (↑t:Int).toNat zzPrl).fst).snd.fst (two (zs.getD (↑t:Int).toNat zzPrl).snd.snd (zs.getD (↑t:Int).toNat zzPrl).fst).snd.snd.fst (two (zs.getD (↑t:Int).toNat zzPrl).snd.snd (zs.getD (↑t:Int).toNat zzPrl).fst).snd.snd.snd*line12 (plo ((zs.set (↑t:Int).toNat ((zs.getD (↑t:Int).toNat zzPrl).fst,(zs.getD (↑t:Int).toNat zzPrl).snd.fst,(two (zs.getD (↑t:Int).toNat zzPrl).snd.snd (zs.getD (↑t:Int).toNat zzPrl).fst).fst)).getD (↑t:Int).toNat zzPrl).snd.snd ((zs.set (↑t:Int).toNat ((zs.getD (↑t:Int).toNat zzPrl).fst,(zs.getD (↑t:Int).toNat zzPrl).snd.fst,(two (zs.getD (↑t:Int).toNat zzPrl).snd.snd (zs.getD (↑t:Int).toNat zzPrl).fst).fst)).getD (↑t:Int).toNat zzPrl).snd.fst ((zs.set (↑t:Int).toNat ((zs.getD (↑t:Int).toNat zzPrl).fst,(zs.getD (↑t:Int).toNat zzPrl).snd.fst,(two (zs.getD (↑t:Int).toNat zzPrl).snd.snd (zs.getD (↑t:Int).toNat zzPrl).fst).fst)).getD (↑t:Int).toNat zzPrl).fst).snd.fst (plo ((zs.set (↑t:Int).toNat ((zs.getD (↑t:Int).toNat zzPrl).fst,(zs.getD (↑t:Int).toNat zzPrl).snd.fst,(two (zs.getD (↑t:Int).toNat zzPrl).snd.snd (zs.getD (↑t:Int).toNat zzPrl).fst).fst)).getD (↑t:Int).toNat zzPrl).snd.snd ((zs.set (↑t:Int).toNat ((zs.getD (↑t:Int).toNat zzPrl).fst,(zs.getD (↑t:Int).toNat zzPrl).snd.fst,(two (zs.getD (↑t:Int).toNat zzPrl).snd.snd (zs.getD (↑t:Int).toNat zzPrl).fst).fst)).getD (↑t:Int).toNat zzPrl).snd.fst ((zs.set (↑t:Int).toNat ((zs.getD (↑t:Int).toNat zzPrl).fst,(zs.getD (↑t:Int).toNat zzPrl).snd.fst,(two (zs.getD (↑t:Int).toNat zzPrl).snd.snd (zs.getD (↑t:Int).toNat zzPrl).fst).fst)).getD (↑t:Int).toNat zzPrl).fst).snd.snd.fst (plo ((zs.set (↑t:Int).toNat ((zs.getD (↑t:Int).toNat zzPrl).fst,(zs.getD (↑t:Int).toNat zzPrl).snd.fst,(two (zs.getD (↑t:Int).toNat zzPrl).snd.snd (zs.getD (↑t:Int).toNat zzPrl).fst).fst)).getD (↑t:Int).toNat zzPrl).snd.snd ((zs.set (↑t:Int).toNat ((zs.getD (↑t:Int).toNat zzPrl).fst,(zs.getD (↑t:Int).toNat zzPrl).snd.fst,(two (zs.getD (↑t:Int).toNat zzPrl).snd.snd (zs.getD (↑t:Int).toNat zzPrl).fst).fst)).getD (↑t:Int).toNat zzPrl).snd.fst ((zs.set (↑t:Int).toNat ((zs.getD (↑t:Int).toNat zzPrl).fst,(zs.getD (↑t:Int).toNat zzPrl).snd.fst,(two (zs.getD (↑t:Int).toNat zzPrl).snd.snd (zs.getD (↑t:Int).toNat zzPrl).fst).fst)).getD (↑t:Int).toNat zzPrl).fst).snd.snd.snd,List.take L ((zs.set (↑t:Int).toNat ((zs.getD (↑t:Int).toNat zzPrl).fst,(zs.getD (↑t:Int).toNat zzPrl).snd.fst,(two (zs.getD (↑t:Int).toNat zzPrl).snd.snd (zs.getD (↑t:Int).toNat zzPrl).fst).fst)).set (↑t:Int).toNat (((zs.set (↑t:Int).toNat ((zs.getD (↑t:Int).toNat zzPrl).fst,(zs.getD (↑t:Int).toNat zzPrl).snd.fst,(two (zs.getD (↑t:Int).toNat zzPrl).snd.snd (zs.getD (↑t:Int).toNat zzPrl).fst).fst)).getD (↑t:Int).toNat zzPrl).fst,((zs.set (↑t:Int).toNat ((zs.getD (↑t:Int).toNat zzPrl).fst,(zs.getD (↑t:Int).toNat zzPrl).snd.fst,(two (zs.getD (↑t:Int).toNat zzPrl).snd.snd (zs.getD (↑t:Int).toNat zzPrl).fst).fst)).getD (↑t:Int).toNat zzPrl).snd.fst,(plo ((zs.set (↑t:Int).toNat ((zs.getD (↑t:Int).toNat zzPrl).fst,(zs.getD (↑t:Int).toNat zzPrl).snd.fst,(two (zs.getD (↑t:Int).toNat zzPrl).snd.snd (zs.getD (↑t:Int).toNat zzPrl).fst).fst)).getD (↑t:Int).toNat zzPrl).snd.snd ((zs.set (↑t:Int).toNat ((zs.getD (↑t:Int).toNat zzPrl).fst,(zs.getD (↑t:Int).toNat zzPrl).snd.fst,(two (zs.getD (↑t:Int).toNat zzPrl).snd.snd (zs.getD (↑t:Int).toNat zzPrl).fst).fst)).getD (↑t:Int).toNat zzPrl).snd.fst ((zs.set (↑t:Int).toNat ((zs.getD (↑t:Int).toNat zzPrl).fst,(zs.getD (↑t:Int).toNat zzPrl).snd.fst,(two (zs.getD (↑t:Int).toNat zzPrl).snd.snd (zs.getD (↑t:Int).toNat zzPrl).fst).fst)).getD (↑t:Int).toNat zzPrl).fst).fst)))=inK (pbit b) (f*f,List.take L ys) i)/\L-(IntKind.i64.wrap ((↑t:Int)+(1:Int))).toNat<L-(↑t:Int).toNat))/\((bitOp BinOp.and IntKind.u64 (Int.fdiv (15132376222941642752:Int) ((2:Int)^min b.toNat IntKind.u64.bits)) (1:Int)==(1:Int))=false->(liN L N b (IntKind.i64.wrap ((↑t:Int)+(1:Int)),f3*line12 (two (zs.getD (↑t:Int).toNat zzPrl).snd.snd (zs.getD (↑t:Int).toNat zzPrl).fst).snd.fst (two (zs.getD (↑t:Int).toNat zzPrl).snd.snd (zs.getD (↑t:Int).toNat zzPrl).fst).snd.snd.fst (two (zs.getD (↑t:Int).toNat zzPrl).snd.snd (zs.getD (↑t:Int).toNat zzPrl).fst).snd.snd.snd,zs.set (↑t:Int).toNat ((zs.getD (↑t:Int).toNat zzPrl).fst,(zs.getD (↑t:Int).toNat zzPrl).snd.fst,(two (zs.getD (↑t:Int).toNat zzPrl).snd.snd (zs.getD (↑t:Int).toNat zzPrl).fst).fst))).triv ((∃ i,i<=L/\IntKind.i64.wrap ((↑t:Int)+(1:Int))=(↑i:Int)/\(f3*line12 (two (zs.getD (↑t:Int).toNat zzPrl).snd.snd (zs.getD (↑t:Int).toNat zzPrl).fst).snd.fst (two (zs.getD (↑t:Int).toNat zzPrl).snd.snd (zs.getD (↑t:Int).toNat zzPrl).fst).snd.snd.fst (two (zs.getD (↑t:Int).toNat zzPrl).snd.snd (zs.getD (↑t:Int).toNat zzPrl).fst).snd.snd.snd,List.take L (zs.set (↑t:Int).toNat ((zs.getD (↑t:Int).toNat zzPrl).fst,(zs.getD (↑t:Int).toNat zzPrl).snd.fst,(two (zs.getD (↑t:Int).toNat zzPrl).snd.snd (zs.getD (↑t:Int).toNat zzPrl).fst).fst)))=inK (pbit b) (f*f,List.take L ys) i)/\L-(IntKind.i64.wrap ((↑t:Int)+(1:Int))).toNat<L-(↑t:Int).toNat)))/\(decide ((↑t:Int)<(↑L:Int))=false->(liM L N (b,(f3,zs).fst,(f3,zs).snd)).triv ((f3,List.take L zs)=inK (pbit b) (f*f,List.take L ys) L)))) (by kernel_rfl) ?_
   have hkl:(zs.take L).length=L:=by
    have h1:=congrArg (fun s:F12 × List Pr=>s.2.length) es3
    have h2:=congrArg (fun s:F12 × List Pr=>s.2.length) es
    simp only[inK_len,ouK_len] at h1 h2
    rw[h1,h2,<- hL]
   have hzL:L<=zs.length:=by rw[List.length_take] at hkl;omega
   refine⟨fun h=>?_,fun h=>tvi ?_⟩
   ·have htL:t<L:=by have:=of_decide_eq_true h;omega
    have hd:zs.getD t (zeroOf prk)=(zs.take L).getD t (zeroOf prk):=by
     simp only[List.getD_eq_getElem?_getD,List.getElem?_take,htL,if_true]
    obtain⟨Z,hZ⟩:∃ Z,Z=zs.getD t (zeroOf prk):=⟨_,rfl⟩
    have hZ1:zs.getD t zzPrl=Z:=hZ.symm
    have hs:∀ v:Pr,(zs.set t v).getD t zzPrl=v:=fun v=>by
     simp[show t<zs.length by omega]
    have hT:∀ v:Pr,(zs.set t v).take L=(zs.take L).set t v:=fun v=>by rw[List.take_set]
    have hb0:0<=b:=by omega
    have hLp:=prs_len ps qs ps.length
    have hLb:L<=1048576:=by omega
    have hin:inK (pbit b) (f*f,ys.take L) (t+1)=((stF (pbit b) f3 Z).1,(zs.take L).set t (stF (pbit b) f3 Z).2):=by
     show ((stF (pbit b) (inK (pbit b) (f*f,ys.take L) t).1 ((inK (pbit b) (f*f,ys.take L) t).2.getD t (zeroOf prk))).1,(inK (pbit b) (f*f,ys.take L) t).2.set t (stF (pbit b) (inK (pbit b) (f*f,ys.take L) t).1 ((inK (pbit b) (f*f,ys.take L) t).2.getD t (zeroOf prk))).2)=_
     rw[<- es3,hZ,hd]
    rw[wrap_succ (by omega)]
    simp only[Int.toNat_natCast]
    rw[hZ1]
    simp only[hs,List.set_set]
    have htN:t<N:=by omega
    refine⟨⟨by omega,by omega⟩,htN,htN,trivial,htN,trivial,hb0,fun h1=>?_,fun h1=>?_⟩
    ·have hp1:pbit b=true:=h1
     refine⟨htN,htN,htN,trivial,htN,trivial,tvi ⟨⟨t+1,htL,rfl,?_⟩,by omega⟩⟩
     rw[hin,hp1,<- hT];rfl
    ·have hp1:pbit b=false:=h1
     refine tvi ⟨⟨t+1,htL,rfl,?_⟩,by omega⟩
     rw[hin,hp1,<- hT];rfl
   ·have htL:t=L:=by have:=of_decide_eq_false h;omega
    rw[htL] at es3
    exact es3
  rintro⟨f4,zs⟩ h4
  revert f4 zs
  intro (f4:F12) (zs:List Pr) (h4:(f4,zs.take L)=inK (pbit b) (f*f,ys.take L) L)
  refine tr_nil ?_
  refine tr_vc hsp mixed _ _ ?_
  refine vcx (X:=((liM L N (IntKind.i64.wrap (b-(1:Int)),f4,zs)).triv ((∃ j,j<=(63:Nat)/\IntKind.i64.wrap (b-(1:Int))=(62:Car (Kd.int IntKind.i64))-(↑j:Int)/\(f4,List.take L zs)=ouK (prs ps qs ps.length) j)/\Int.toNat (IntKind.i64.wrap (b-(1:Int))+(1:Car (Kd.int IntKind.i64)))<Int.toNat (b+(1:Car (Kd.int IntKind.i64)))))) (by kernel_rfl) ?_
  have hw:IntKind.i64.wrap (b-1)=b-1:=wrap_i64' (by omega) (by omega)
  refine tvi ⟨⟨j+1,hj63,?_,?_⟩,?_⟩
  ·show IntKind.i64.wrap (b-1)=62-((j+1:Nat):Int)
   rw[hw];omega
  ·show (f4,zs.take L)=inK (pbit (62-(j:Int))) ((ouK (prs ps qs ps.length) j).1*(ouK (prs ps qs ps.length) j).1,(ouK (prs ps qs ps.length) j).2) (prs ps qs ps.length).length
   rw[<- es,<- hL,<- eb];exact h4
  ·show (IntKind.i64.wrap (b-1)+1).toNat<(b+1).toNat
   rw[hw];omega
 rintro⟨b,f,ys⟩ hf
 revert b f ys
 intro (b:Int) (f:F12) (ys:List Pr) (hf:f=(ouK (prs ps qs ps.length) 63).1)
 refine tr_vc hsp mixed _ _ ?_
 refine vcx (X:=(True/\(cjo f,())=(lino ps qs,()))) (by kernel_rfl) ?_
 refine⟨trivial,?_⟩
 obtain⟨m,hm⟩:∃ m,L=m+1:=⟨L-1,by omega⟩
 rw[lino,opq_eq,liF,<- hL,hm,hf]
def spLines:Nat × Eng.Spec:=(144,fnSpec [.sl pt1,.sl pt2] [.val f12k] preLin (fun (ps,qs,_)=>(lino ps qs,())))
end
end Go.Proofs.YtbeeaekepmnfhaaGreatDoor.pairing
namespace Go.Proofs.YtbeeaekepmnfhaaGreatDoor.pairing
open Go Go.Eng Go.RowKit Cr fp2 tower
theorem ent_check:enters Tryz.prog 97 Tryz.f97:=ek
noncomputable def chkF (ps:List (Fp × Fp)) (qs:List (F2 × F2)):Bool:=match decide (ps.length=qs.length) with
 | true=>eqC f12k (fino (lino ps qs)) (1:F12)
 | false=>false
noncomputable def cnt (ps:List (Fp × Fp)):Nat:=opq ps.length
abbrev preChk:HL [.sl pt1,.sl pt2]->Prop:=fun (ps,_)=>cnt ps<=1048576
theorem fn_check:FnOk Tryz.prog 97 [.sl pt1,.sl pt2] [.val .bool] noG preChk (fun (ps,qs,_)=>(chkF ps qs,())):=by
 refine fn_of_vc (sp:=sps [spLines,spFinish,tower.spOne]) (spk (fok fn_lines) (spk (fok fn_finish) (spk (fok tower.fn_one) snl))) mixed ent_check (by decide) (by decide) ?_
 rintro w M0 ⟨ps,qs,⟨⟩⟩
 revert ps qs
 intro (ps:List (Fp × Fp)) (qs:List (F2 × F2)) _ hp
 have hp:cnt ps<=1048576:=hp
 rw[cnt,opq_eq] at hp
 refine vcx (X:=((((↑ps.length:Int) != (↑qs.length:Int))=true->(false,())=(chkF ps qs,()))/\(((↑ps.length:Int) != (↑qs.length:Int))=false->preLin (ps,qs,())/\True/\True/\(eqC (((Kd.fp.pair Kd.fp).pair ((Kd.fp.pair Kd.fp).pair (Kd.fp.pair Kd.fp))).pair ((Kd.fp.pair Kd.fp).pair ((Kd.fp.pair Kd.fp).pair (Kd.fp.pair Kd.fp)))) (fino (lino ps qs)) ((((1:Fp),(0:Fp)),((0:Fp),(0:Fp)),(0:Fp),(0:Fp)),((0:Fp),(0:Fp)),((0:Fp),(0:Fp)),(0:Fp),(0:Fp)),())=(chkF ps qs,())))) (by kernel_rfl) ?_
 refine⟨fun h=>?_,fun h=>?_⟩
 ·have h1:¬ ps.length=qs.length:=by simp at h;omega
  rw[chkF,decide_eq_false h1]
 ·have h1:ps.length=qs.length:=by simp at h;omega
  refine⟨⟨by show ps.length<=qs.length;omega,hp⟩,trivial,trivial,?_⟩
  rw[chkF,decide_eq_true h1];rfl
noncomputable def spCheck:Nat × Eng.Spec:=(97,fnSpec [.sl pt1,.sl pt2] [.val .bool] preChk (fun (ps,qs,_)=>(chkF ps qs,())))
end Go.Proofs.YtbeeaekepmnfhaaGreatDoor.pairing
namespace Go.Proofs.YtbeeaekepmnfhaaGreatDoor.tower
open Go Go.Eng Go.RowKit Cr Go.Proofs.YtbeeaekepmnfhaaGreatDoor Go.Proofs.YtbeeaekepmnfhaaGreatDoor.fp2
theorem rt1_eq {q:Nat} (hq:q=fpP/6):rt1=pwn xi q:=by
 obtain⟨m,hm⟩:∃ m,m=(num rBs/12).toNat:=⟨_,rfl⟩
 have hm2:m=fpP/12:=hm.trans (of_decide_eq_true (by kernel_rfl))
 have h1:q=2*m+1:=by rw[hq,hm2];exact of_decide_eq_true (by kernel_rfl)
 have h2:m=2*(2*(fpP/48))+2+1:=hm2.trans (of_decide_eq_true (by kernel_rfl))
 rw[xi_pw h1 h2,<- zpow_pwn]
 show (zpow _ _,-zpow _ _)=_
 rw[<- hm]
end Go.Proofs.YtbeeaekepmnfhaaGreatDoor.tower
namespace Go.Proofs.YtbeeaekepmnfhaaGreatDoor.pairing
open Go Go.Eng Go.RowKit Cr Go.Proofs.YtbeeaekepmnfhaaGreatDoor Go.Proofs.YtbeeaekepmnfhaaGreatDoor.fp2 Go.Proofs.YtbeeaekepmnfhaaGreatDoor.tower
end Go.Proofs.YtbeeaekepmnfhaaGreatDoor.pairing
namespace Cr
open Rg Fd Go.Eng
def bst (n:Nat):Bool->Nat
 | false=>n+n
 | true=>n+n+1
def bval (l:List Bool) (m:Nat):Nat:=l.foldl bst m
section
variable {F:Type} [Fd F] {b:F}
variable (hb:b≠0)
include hb
end
section
variable {N p u r:Nat} (L:LastP N p u r) {b1:Fp} {b2:F2} (hb1:b1≠0) (hb2:b2≠0) (hns:∀ y:F2,y*y=b2->False) (he:b2=e0 b1*xi)
structure GQ (p u r:Nat) (b2:F2) (Q:F2 × F2):Prop where
 on:OnP b2 Q
 fro:hmp (fro p) (tws e2 wi Q)=pneg (tws e2 wi (nmul Q u))
 ord:nmul Q r=O2
 small:Q=O2\/∀ k,0<k->k<=u->nmul Q k≠O2
noncomputable def ev0 (L:LastP N p u r) (bl:List Bool) (P:Fp × Fp) (Q:F2 × F2):F12:=(kil L).χ (ml (tws e2 wi Q) (hmp e1 P) bl).1
include hb1 hb2 hns he
variable {bl:List Bool} (hbl:bval bl 1=u)
include hbl
omit hb1 hb2 hns he hbl in
noncomputable def ev (L:LastP N p u r) (bl:List Bool) (P:Fp × Fp) (Q:F2 × F2):F12:=if P=O2 then 1 else ev0 L bl P Q
include L in
end
end Cr
namespace Cr
open Rg
end Cr
namespace Go.Proofs.YtbeeaekepmnfhaaGreatDoor.pairing
open Go Go.Eng Go.RowKit Cr Go.Proofs.YtbeeaekepmnfhaaGreatDoor Go.Proofs.YtbeeaekepmnfhaaGreatDoor.fp2 Go.Proofs.YtbeeaekepmnfhaaGreatDoor.tower
section
variable {b:F2} (hb:b≠0)
include hb
end
section
variable {N p u r:Nat} (L:LastP N p u r) {b1:Fp} {b2:F2} (hb1:b1≠0) (hb2:b2≠0) (hns:∀ y:F2,y*y=b2->False) (he:b2=e0 b1*xi)
include hb1 hb2 he
end
end Go.Proofs.YtbeeaekepmnfhaaGreatDoor.pairing
namespace Go.Proofs.YtbeeaekepmnfhaaGreatDoor.pairing
open Go Go.Eng Go.RowKit Cr fp2 tower
def bls (j:Nat):List Bool:=(List.range j).map fun (j:Nat)=>pbit (62-(j:Int))
section
variable {N p u r:Nat} (L:LastP N p u r) {b1:Fp} {b2:F2} (hb1:b1≠0) (hb2:b2≠0) (hns:∀ y:F2,y*y=b2->False) (he:b2=e0 b1*xi)
variable (hu:0<u) (hbl:bval (bls 63) 1=u)
include hb1 hb2 hns he hu hbl
end
end Go.Proofs.YtbeeaekepmnfhaaGreatDoor.pairing
namespace Go.Proofs.YtbeeaekepmnfhaaGreatDoor.pairing
open Go Go.Eng Go.RowKit Cr fp2 tower
def rtN:Nat:=3850754370037169011952147076051364057158807420970682438676050522613628423219637725072182697113062777891589506424760
end Go.Proofs.YtbeeaekepmnfhaaGreatDoor.pairing
namespace Go.Proofs.YtbeeaekepmnfhaaGreatDoor.pairing
open Go Go.Eng Go.RowKit Cr fp2 tower
abbrev b1:Fp:=g1.b4
abbrev b2:F2:=g2.b4
def rtv:V2:=vcj (rtN,rtN)
theorem rtv_eq:q2 rtv=rt1:=by
 obtain⟨m,hm⟩:∃ m,m=fpP/12:=⟨_,rfl⟩
 have h1:fpP/6=2*m+1:=by rw[hm];exact of_decide_eq_true (by kernel_rfl)
 have h2:m=2*(2*(fpP/48))+2+1:=by rw[hm];exact of_decide_eq_true (by kernel_rfl)
 have h3:(zm (rtN:Int):Fp)=pwn (1+1:Fp) m:=by
  rw[<- zpow_pwn]
  refine Zm.ext ?_
  rw[zpow_two_v,<- npm_eq fpP 2 (of_decide_eq_true (by kernel_rfl)) 384 m (by rw[hm];exact of_decide_eq_true (by kernel_rfl)),hm]
  exact of_decide_eq_true (by kernel_rfl)
 rw[rt1_eq rfl,xi_pw h1 h2,<- h3,rtv,q2_cj];rfl
end Go.Proofs.YtbeeaekepmnfhaaGreatDoor.pairing
namespace Go.Proofs.YtbeeaekepmnfhaaGreatDoor.h2c
noncomputable section
open Go Go.Eng Go.RowKit Cr fp2 Rg Fd
abbrev csH2e0:=(List.take 8 [(210:Int),(1:Int),(0:Int),(0:Int),(0:Int),(1:Int),(0:Int),(0:Int)])
theorem inv_rt:inv2 tower.rt1=ir:=by
 refine inv2_u ?_
 have h:eqv (vmul irv pairing.rtv) (1,0)=true:=by kernel_rfl
 have h1:=eqv_ok h
 rw[q2_mul,q2_one,pairing.rtv_eq] at h1
 exact h1
theorem fo_root:FnOk Tryz.prog 158 [] [.val f2] noG (fun _=>True) (fun _=>(tower.rt1,())):=tower.fn_root
def soRoot:Nat × Eng.Spec:=(158,fnSpec [] [.val f2] (fun _=>True) (fun _=>(tower.rt1,())))
theorem ent_clr1:enters Tryz.prog 159 Tryz.f159:=ek
theorem fn_clr1:FnOk Tryz.prog 159 [pt2,.ptr f2,.ptr f2] [.val pt2] noG (fun _=>True) (fun (q,s,c,_)=>(((cjg q.1*s,cjg q.2*c):F2 × F2),())):=by
 refine fn_of_vc (sp:=sps [fp2.spConj,fp2.spMul]) (spk (fok fp2.fn_conj) (spk (fok fp2.fn_mul) snl)) mixed ent_clr1 (by decide) (by decide) ?_
 rintro w M0 ⟨q,s,c,⟨⟩⟩
 revert q s c
 intro (q:F2 × F2) (s:F2) (c:F2) _ _
 refine vcx (X:=(True/\(0:Nat)<[s].length/\True/\True/\(0:Nat)<[c].length/\True/\(((q.fst.fst,-q.fst.snd)*s,(q.snd.fst,-q.snd.snd)*c),())=((cjg q.fst*s,cjg q.snd*c),()))) (by kernel_rfl) ?_
 exact⟨trivial,Nat.zero_lt_one,trivial,trivial,Nat.zero_lt_one,trivial,rfl⟩
def spClr1:Nat × Eng.Spec:=(159,fnSpec [pt2,.ptr f2,.ptr f2] [.val pt2] (fun _=>True) (fun (q,s,c,_)=>(((cjg q.1*s,cjg q.2*c):F2 × F2),())))
def clo (p:F2 × F2):F2 × F2:=opq (clr p)
theorem size_ok:Bs csH2e0:=by
 intro x hx;simp at hx;omega
theorem clear_val {p:F2 × F2} (h:g2.Onb p):g2.gsum (List.take 5 [g2.gtms (g2.gtms p (List.take 8 [210,1,0,0,0,1,0,0])) (List.take 8 [210,1,0,0,0,1,0,0]),g2.gtms p (List.take 8 [210,1,0,0,0,1,0,0]),g2.gneg p,g2.gneg (tau (g2.gadd (g2.gtms p (List.take 8 [210,1,0,0,0,1,0,0])) p)),tau (tau (g2.gadd p p))])=clo p:=by
 have hk:Bs [210,1,0,0,0,1,0,0]:=by intro x hx;simp at hx;omega
 have e:List.take 8 [210,1,0,0,0,1,0,0]=([210,1,0,0,0,1,0,0]:List Int):=rfl
 have en:(num [210,1,0,0,0,1,0,0]).toNat=uN:=of_decide_eq_true (by kernel_rfl)
 have oA:OnP tb (nmul p uN):=nmul_on tb_ne h _
 have oB:OnP tb (nmul (nmul p uN) uN):=nmul_on tb_ne oA _
 have oC:=pneg_onP (b:=tb) h
 have oD:OnP tb (pneg (tau (padd (nmul p uN) p))):=pneg_onP (ad_tau.on _ (padd_on tb_ne oA h))
 have oE:OnP tb (tau (tau (padd p p))):=ad_tau.on _ (ad_tau.on _ (padd_on tb_ne h h))
 rw[e,g2.gtms_eq h hk,en,g2.gtms_eq oA hk,en,g2.gneg_eq,g2.gneg_eq,g2.gadd_eq oA h,g2.gadd_eq h h]
 show g2.gsum [_,_,_,_,_]=_
 rw[g2.gsum_eq,clo,opq_eq];· rfl
 intro q hq
 simp only[List.mem_cons,List.not_mem_nil,or_false] at hq
 rcases hq with h|h|h|h|h
 ·rw[h];exact oB
 ·rw[h];exact oA
 ·rw[h];exact oC
 ·rw[h];exact oD
 ·rw[h];exact oE
theorem ent_clear:enters Tryz.prog 109 Tryz.f109:=ek
theorem fn_clear:FnOk Tryz.prog 109 [pt2] [.val pt2] noG (fun (p,_)=>g2.Onb p) (fun (p,_)=>(clo p,())):=by
 refine fn_of_vc (sp:=sps [soRoot,fp2.spInv,fp2.spSquare,fp2.spMul,g2.soTimes,g2.soNeg,g2.soAdd,spClr1,g2.soSum]) (spk (fok fo_root) (spk (fok fp2.fn_inv) (spk (fok fp2.fn_square) (spk (fok fp2.fn_mul) (spk (fok g2.fo_times) (spk (fok g2.fo_neg) (spk (fok g2.fo_add) (spk (fok fn_clr1) (spk (fok g2.fo_sum) snl))))))))) mixed ent_clear (by decide) (by decide) ?_
 rintro w M0 ⟨p,⟨⟩⟩
 revert p
 intro (p:F2 × F2) _ hp
 have hp:g2.Onb p:=hp
 refine vcx (X:=(True/\True/\True/\True/\0+8<=8/\g2.preTimes (p,List.take 8 [(210:Int),(1:Int),(0:Int),(0:Int),(0:Int),(1:Int),(0:Int),(0:Int)],())/\0+8<=8/\g2.preTimes (g2.gtms p csH2e0,List.take 8 [(210:Int),(1:Int),(0:Int),(0:Int),(0:Int),(1:Int),(0:Int),(0:Int)],())/\True/\True/\True/\True/\True/\True/\True/\0+5<=5/\g2.preSum (List.take 5 [g2.gtms (g2.gtms p csH2e0) csH2e0,g2.gtms p csH2e0,g2.gneg p,g2.gneg (cjg (g2.gadd (g2.gtms p csH2e0) p).fst*(inv2 (tower.rootK,-tower.rootK)*inv2 (tower.rootK,-tower.rootK)),cjg (g2.gadd (g2.gtms p csH2e0) p).snd*(inv2 (tower.rootK,-tower.rootK)*inv2 (tower.rootK,-tower.rootK)*inv2 (tower.rootK,-tower.rootK))),(cjg (cjg (g2.gadd p p).fst*(inv2 (tower.rootK,-tower.rootK)*inv2 (tower.rootK,-tower.rootK)))*(inv2 (tower.rootK,-tower.rootK)*inv2 (tower.rootK,-tower.rootK)),cjg (cjg (g2.gadd p p).snd*(inv2 (tower.rootK,-tower.rootK)*inv2 (tower.rootK,-tower.rootK)*inv2 (tower.rootK,-tower.rootK)))*(inv2 (tower.rootK,-tower.rootK)*inv2 (tower.rootK,-tower.rootK)*inv2 (tower.rootK,-tower.rootK)))],())/\(g2.gsum (List.take 5 [g2.gtms (g2.gtms p csH2e0) csH2e0,g2.gtms p csH2e0,g2.gneg p,g2.gneg (cjg (g2.gadd (g2.gtms p csH2e0) p).fst*(inv2 (tower.rootK,-tower.rootK)*inv2 (tower.rootK,-tower.rootK)),cjg (g2.gadd (g2.gtms p csH2e0) p).snd*(inv2 (tower.rootK,-tower.rootK)*inv2 (tower.rootK,-tower.rootK)*inv2 (tower.rootK,-tower.rootK))),(cjg (cjg (g2.gadd p p).fst*(inv2 (tower.rootK,-tower.rootK)*inv2 (tower.rootK,-tower.rootK)))*(inv2 (tower.rootK,-tower.rootK)*inv2 (tower.rootK,-tower.rootK)),cjg (cjg (g2.gadd p p).snd*(inv2 (tower.rootK,-tower.rootK)*inv2 (tower.rootK,-tower.rootK)*inv2 (tower.rootK,-tower.rootK)))*(inv2 (tower.rootK,-tower.rootK)*inv2 (tower.rootK,-tower.rootK)*inv2 (tower.rootK,-tower.rootK)))]),())=(clo p,()))) (by kernel_rfl) ?_
 have e:inv2 (tower.rootK,-tower.rootK)=ir:=inv_rt
 rw[e]
 refine⟨trivial,trivial,trivial,trivial,Nat.le_refl _,⟨size_ok,by decide⟩,Nat.le_refl _,⟨size_ok,by decide⟩,trivial,trivial,trivial,trivial,trivial,trivial,trivial,Nat.le_refl _,by show 5<_;decide,?_⟩
 exact congrArg (fun x=>(x,())) (clear_val hp)
def spClear:Nat × Eng.Spec:=(109,fnSpec [pt2] [.val pt2] (fun (p,_)=>g2.Onb p) (fun (p,_)=>(clo p,())))
theorem clo_eq {p:F2 × F2} (h:OnP tb p):clo p=nmul p hN:=by rw[clo,opq_eq,clr_h h]
theorem clo_sub {p:F2 × F2} (h:OnP tb p):g2.Sub (clo p):=by
 rw[clo_eq h];exact⟨nmul_on tb_ne h _,h_r h⟩
end
end Go.Proofs.YtbeeaekepmnfhaaGreatDoor.h2c
namespace Go.Proofs.YtbeeaekepmnfhaaGreatDoor.h2c
noncomputable section
open Go Go.Eng Go.RowKit Cr fp2 sha xmd
theorem fn_nuF:FnOk Tryz.prog 107 [bsl,bsl,.int .i64] [.val (.sl fp2.f2),.val (.int .i64)] shaG preEx (fun (m,t,n,_)=>((nuA m t n).1,(nuA m t n).2,())):=fn_numbers.frz2
def spNuF:Nat × Eng.Spec:=(107,fnSpecG shaG [bsl,bsl,.int .i64] [.val (.sl fp2.f2),.val (.int .i64)] preEx (fun (m,t,n,_)=>((nuA m t n).1,(nuA m t n).2,())))
def u0 (m t:List Int):F2:=opq (nmb (expo m t 256) 0)
def u1 (m t:List Int):F2:=opq (nmb (expo m t 256) 1)
theorem nuA_2 (m t:List Int):nuA m t 2=([u0 m t,u1 m t],0):=by
 rw[nuA,u0,u1,opq_eq,opq_eq,<- nums_two];rfl
def hpt (m t:List Int):F2 × F2:=opq (clo (padd (mapo (u0 m t)) (mapo (u1 m t))))
theorem hpt_sub (m t:List Int):g2.Sub (hpt m t):=by
 rw[hpt,opq_eq];exact clo_sub (padd_on tb_ne (mapo_on _) (mapo_on _))
def hsK (us:List F2) (k:Nat):F2 × F2:=it (fun i s=>g2.gadd s (mapo (us.getD i ((0:Fp),(0:Fp))))) (((0:Fp),(0:Fp)),(0:Fp),(0:Fp)) k
def hsI (us:List F2) (g:Int × (F2 × F2)):St:=mkSt Tryz.f64.ntmps 104 [(4,.is (.one (.ptr 0 0))),(7,.is (.one (.ptr 72 0))),(16,.is (.one (.ro fp2.f2 us))),(17,sI .i64 us.length),(18,sI .i64 g.1)] [(72,cellsOf pt2 g.2),(0,cellsOf pt2 ((((0:Fp),(0:Fp)),(0:Fp),(0:Fp)):F2 × F2))]
theorem hsK_2 (a b:F2):hsK [a,b] 2=padd (mapo a) (mapo b):=by
 show g2.gadd (g2.gadd O2 (mapo a)) (mapo b)=_
 have oO:OnP tb (O2:F2 × F2):=.inl rfl
 rw[g2.gadd_eq oO (mapo_on a),O_add,g2.gadd_eq (mapo_on a) (mapo_on b)]
theorem ent_hash:enters Tryz.prog 64 Tryz.f64:=ek
abbrev preHs:HL [bsl,bsl]->Prop:=fun (m,t,_)=>List.length m<=1048576/\List.length t<=1048576
theorem fn_hash:FnOk Tryz.prog 64 [bsl,bsl] [.val pt2] shaG preHs (fun (m,t,_)=>(hpt m t,())):=by
 have hsp:SpecsOk Tryz.prog (sps [spNuF,spMap,g2.soAdd,spClear]):=spk (fgk fn_nuF) (spk (fok fn_map) (spk (fok g2.fo_add) (spk (fok fn_clear) snl)))
 refine fn_of_tr (sp:=sps [spNuF,spMap,g2.soAdd,spClear]) ent_hash (by decide) (by decide) (by kernel_rfl) ?_
 rintro w M0 ⟨m,t,⟨⟩⟩
 revert m t
 intro (m:List Int) (t:List Int) hw hp
 have hm:m.length<=1048576:=hp.1
 have ht:t.length<=1048576:=hp.2
 show Tr _ _ _ _ _ _ _
 refine tr_cutF hsp mixed 4 (fun σ=>rdO fp2.f2 5 σ) (fun us=>hsI us (0,(((0:Fp),(0:Fp)),(0:Fp),(0:Fp)))) (fun us=>us=[u0 m t,u1 m t]) ?_ ?_
 ·refine vcx (X:=((∀ (g:Nat) (s:Sigma Car),shaG g=some s->Decidable.rec (fun h=>(fun x=>if g=(1:Nat) then some ⟨Kd.arr (64:Nat) uK,rootsL⟩ else none) h) (fun h=>(fun x=>some ⟨Kd.arr (8:Nat) uK,firstL⟩) h) (instDecidableEqNat g (0:Nat))=some s)/\preEx (m,t,(2:Int),())/\(hsI ((nuA m t (2:Int)).fst,(nuA m t (2:Int)).snd,()).fst ((0:Int),((0:Fp),(0:Fp)),(0:Fp),(0:Fp))).triv ((nuA m t (2:Int)).fst=[u0 m t,u1 m t]))) (by kernel_rfl) ?_
  rw[nuA_2]
  exact⟨fun _ _ h=>h,⟨hm,ht⟩,tvi rfl⟩
 rintro us hus
 revert us
 intro (us:List F2) (hus:us=[u0 m t,u1 m t])
 have hl:us.length=2:=by rw[hus];rfl
 refine tr_while hsp mixed noSw (fun σ=>(rdS (.int .i64) 18 σ,rdB pt2 72 σ)) (hsI us) (fun g=>∃ k:Nat,k<=2/\g.1=(k:Int)/\g.2=hsK us k) (fun g=>2-g.1.toNat)
  (fun σ=>(rdS (.int .i64) 18 σ,rdB pt2 72 σ)) (hsI us) (fun g=>g.2=padd (mapo (u0 m t)) (mapo (u1 m t))) (0,(((0:Fp),(0:Fp)),(0:Fp),(0:Fp))) (c:=nthC (codeOf Tryz.f64) 4) (by kernel_rfl) (by kernel_rfl) (le_of_proj (by kernel_rfl) (by kernel_rfl) ?_) ?_ ?_
 ·exact⟨0,Nat.zero_le _,rfl,rfl⟩
 ·rintro⟨i,s⟩ hj
  revert i s
  intro (i:Int) (s:F2 × F2) ⟨k,hk,ei,es⟩
  have ei:i=(k:Int):=ei
  have ks:s=hsK us k:=es
  subst ei
  refine vcx (X:=((decide ((↑k:Int)<(↑us.length:Int))=true->((0:Int)<=(↑k:Int)/\(↑k:Int)<(↑us.length:Int))/\(↑k:Int).toNat<us.length/\True/\True/\(hsI us (IntKind.i64.wrap ((↑k:Int)+(1:Int)),g2.gadd s (mapo (us.getD (↑k:Int).toNat ((0:Fp),(0:Fp)))))).triv ((∃ k_1,k_1<=(2:Nat)/\IntKind.i64.wrap ((↑k:Int)+(1:Int))=(↑k_1:Int)/\g2.gadd s (mapo (us.getD (↑k:Int).toNat ((0:Fp),(0:Fp))))=hsK us k_1)/\(2:Nat)-(IntKind.i64.wrap ((↑k:Int)+(1:Int))).toNat<(2:Nat)-(↑k:Int).toNat))/\(decide ((↑k:Int)<(↑us.length:Int))=false->(hsI us ((↑k:Int),s)).triv (s=padd (mapo (u0 m t)) (mapo (u1 m t)))))) (by kernel_rfl) ?_
  rw[hl]
  refine⟨fun h=>?_,fun h=>tvi ?_⟩
  ·have hlt:k<2:=by have:=of_decide_eq_true h;omega
   rw[wrap_succ (by omega)]
   refine⟨⟨by omega,by omega⟩,hlt,trivial,trivial,tvi ⟨⟨k+1,hlt,rfl,?_⟩,?_⟩⟩
   ·rw[ks,Int.toNat_natCast];rfl
   ·rw[Int.toNat_natCast,Int.toNat_natCast];omega
  ·have h2:k=2:=by have:=of_decide_eq_false h;omega
   rw[ks,h2,hus,hsK_2]
 rintro⟨i,s⟩ hj
 revert i s
 intro (i:Int) (s:F2 × F2) (hj:s=padd (mapo (u0 m t)) (mapo (u1 m t)))
 refine tr_vc hsp mixed _ _ ?_
 refine vcx (X:=(g2.Onb s/\(clo s,())=(hpt m t,()))) (by kernel_rfl) ?_
 rw[hj]
 refine⟨padd_on tb_ne (mapo_on _) (mapo_on _),?_⟩
 rw[hpt,opq_eq]
def spHash:Nat × Eng.Spec:=(64,fnSpecG shaG [bsl,bsl] [.val pt2] preHs (fun (m,t,_)=>(hpt m t,())))
end
end Go.Proofs.YtbeeaekepmnfhaaGreatDoor.h2c
namespace Go.Proofs.YtbeeaekepmnfhaaGreatDoor.pairing
open Go Go.Eng Go.RowKit Cr fp2 tower
end Go.Proofs.YtbeeaekepmnfhaaGreatDoor.pairing
namespace Go.Proofs.YtbeeaekepmnfhaaGreatDoor.pairing
open Go Go.Eng Go.RowKit Cr fp2 tower
end Go.Proofs.YtbeeaekepmnfhaaGreatDoor.pairing
namespace Go.Proofs.YtbeeaekepmnfhaaGreatDoor.g1
open Go Go.Eng Go.RowKit Cr
end Go.Proofs.YtbeeaekepmnfhaaGreatDoor.g1
namespace Go.Proofs.YtbeeaekepmnfhaaGreatDoor.g2
noncomputable section
open Go Go.Eng Go.RowKit Cr fp2
theorem ent_in:enters Tryz.prog 31 Tryz.f31:=ek
def isIn (p:F2 × F2):Bool:=isOn p&&decide (pml p (-1)=pneg (F:=F2) p)
abbrev outIn:HL [pt2]->HO [.val .bool]:=fun (p,_)=>(isIn p,())
theorem fn_in:FnOk Tryz.prog 31 [pt2] [.val .bool] noG (fun _=>True) outIn:=by
 refine fn_of_vc (sp:=sps [spOn,fr.spOf,fr.spNeg,spPMul,spPNeg]) (spk (fok fn_on) (spk (fok fr.fn_of) (spk (fok fr.fn_neg) (spk (fok fn_pmul) (spk (fok fn_pneg) snl))))) mixed ent_in (by decide) (by decide) ?_
 rintro w M0 ⟨p,⟨⟩⟩
 revert p
 intro (p:F2 × F2) _ _
 refine vcx (X:=(True/\(isOn p=true->U64 (1:Int)/\True/\True/\True/\(eqC ((Kd.fp.pair Kd.fp).pair (Kd.fp.pair Kd.fp)) (pml p (-zmr (1:Int))) (p.fst,-p.snd),())=outIn (p,()))/\(isOn p=false->(false,())=outIn (p,())))) (by kernel_rfl) ?_
 rw[eqP2]
 refine⟨trivial,fun h=>⟨by constructor<;>decide,trivial,trivial,trivial,?_⟩,fun h=>?_⟩
 ·show _=(isIn p,())
  rw[isIn,h,Bool.true_and]
  rfl
 ·show _=(isIn p,())
  rw[isIn,h,Bool.false_and]
def gin (p:F2 × F2):Bool:=opq (isIn p)
theorem fo_in:FnOk Tryz.prog 31 [pt2] [.val .bool] noG (fun _=>True) (fun (p,_)=>(gin p,())):=fn_in.out fun (p,_)=>by show (gin p,())=(_,());rw[gin,opq_eq]
def soIn:Nat × Eng.Spec:=(31,fnSpec [pt2] [.val .bool] (fun _=>True) (fun (p,_)=>(gin p,())))
end
end Go.Proofs.YtbeeaekepmnfhaaGreatDoor.g2
namespace Go.Proofs.YtbeeaekepmnfhaaGreatDoor.bls
noncomputable section
open Go Go.Eng Go.RowKit Cr fp2 sha
abbrev pt1:Kd:=.pair .fp .fp
abbrev pt2:Kd:=.pair fp2.f2 fp2.f2
abbrev bsl:Kd:=.sl (.int .u8)
def btag:List Int:=[66,76,83,95,83,73,71,95,66,76,83,49,50,51,56,49,71,50,95,88,77,68,58,83,72,65,45,50,53,54,95,83,83,87,85,95,82,79,95,78,85,76,95]
def bpt (msg:List Int):F2 × F2:=opq (h2c.hpt msg btag)
theorem bpt_sub (msg:List Int):g2.Sub (bpt msg):=by rw[bpt,opq_eq];exact h2c.hpt_sub _ _
theorem ent_point:enters Tryz.prog 29 Tryz.f29:=ek
abbrev prePt:HL [bsl]->Prop:=fun (m,_)=>List.length m<=1048576
theorem fn_point:FnOk Tryz.prog 29 [bsl] [.val pt2] shaG prePt (fun (m,_)=>(bpt m,())):=by
 refine fn_of_vc (sp:=sps [h2c.spHash]) (spk (fgk h2c.fn_hash) snl) mixed ent_point (by decide) (by decide) ?_
 rintro w M0 ⟨m,⟨⟩⟩
 revert m
 intro (m:List Int) _ hm
 refine vcx (X:=((∀ (g:Nat) (s:Sigma Car),shaG g=some s->Decidable.rec (fun h=>(fun x=>if g=(1:Nat) then some ⟨Kd.arr (64:Nat) uK,rootsL⟩ else none) h) (fun h=>(fun x=>some ⟨Kd.arr (8:Nat) uK,firstL⟩) h) (instDecidableEqNat g (0:Nat))=some s)/\(0:Nat)+(nat_lit 42+(1:Nat))<=(43:Nat)/\h2c.preHs (m,List.take (nat_lit 42+(1:Nat)) [(66:Int),(76:Int),(83:Int),(95:Int),(83:Int),(73:Int),(71:Int),(95:Int),(66:Int),(76:Int),(83:Int),(49:Int),(50:Int),(51:Int),(56:Int),(49:Int),(71:Int),(50:Int),(95:Int),(88:Int),(77:Int),(68:Int),(58:Int),(83:Int),(72:Int),(65:Int),(45:Int),(50:Int),(53:Int),(54:Int),(95:Int),(83:Int),(83:Int),(87:Int),(85:Int),(95:Int),(82:Int),(79:Int),(95:Int),(78:Int),(85:Int),(76:Int),(95:Int)],())/\(h2c.hpt m (List.take (nat_lit 42+(1:Nat)) [(66:Int),(76:Int),(83:Int),(95:Int),(83:Int),(73:Int),(71:Int),(95:Int),(66:Int),(76:Int),(83:Int),(49:Int),(50:Int),(51:Int),(56:Int),(49:Int),(71:Int),(50:Int),(95:Int),(88:Int),(77:Int),(68:Int),(58:Int),(83:Int),(72:Int),(65:Int),(45:Int),(50:Int),(53:Int),(54:Int),(95:Int),(83:Int),(83:Int),(87:Int),(85:Int),(95:Int),(82:Int),(79:Int),(95:Int),(78:Int),(85:Int),(76:Int),(95:Int)]),())=(bpt m,()))) (by kernel_rfl) ?_
 refine⟨fun _ _ h=>h,by decide,⟨hm,by decide⟩,?_⟩
 rw[bpt,opq_eq];rfl
def spPoint:Nat × Eng.Spec:=(29,fnSpecG shaG [bsl] [.val pt2] prePt (fun (m,_)=>(bpt m,())))
theorem ent_sign:enters Tryz.prog 19 Tryz.f19:=ek
theorem fn_sign:FnOk Tryz.prog 19 [.fr,bsl] [.val pt2] shaG (fun (_,m,_)=>prePt (m,())) (fun (k,m,_)=>(g2.gmul (bpt m) k,())):=by
 refine fn_of_vc (sp:=sps [spPoint,g2.soMul]) (spk (fgk fn_point) (spk (fok g2.fo_mul) snl)) mixed ent_sign (by decide) (by decide) ?_
 rintro w M0 ⟨k,m,⟨⟩⟩
 revert k m
 intro (k:Fr) (m:List Int) _ hm
 refine vcx (X:=((∀ (g:Nat) (s:Sigma Car),shaG g=some s->Decidable.rec (fun h=>(fun x=>if g=(1:Nat) then some ⟨Kd.arr (64:Nat) uK,rootsL⟩ else none) h) (fun h=>(fun x=>some ⟨Kd.arr (8:Nat) uK,firstL⟩) h) (instDecidableEqNat g (0:Nat))=some s)/\prePt (m,())/\True/\(g2.gmul (bpt m) k,())=(g2.gmul (bpt m) k,()))) (by kernel_rfl) ?_
 exact⟨fun _ _ h=>h,hm,trivial,rfl⟩
def spSign:Nat × Eng.Spec:=(19,fnSpecG shaG [.fr,bsl] [.val pt2] (fun (_,m,_)=>prePt (m,())) (fun (k,m,_)=>(g2.gmul (bpt m) k,())))
def fto (k:Fp × Fp) (p s:F2 × F2):Bool:=opq (pairing.chkF [k,g1.gneg g1.gG] [p,s])
theorem ent_fits:enters Tryz.prog 56 Tryz.f56:=ek
theorem fn_fits:FnOk Tryz.prog 56 [pt1,pt2,pt2] [.val .bool] noG (fun _=>True) (fun (k,p,s,_)=>(fto k p s,())):=by
 refine fn_of_vc (sp:=sps [g1.soGen,g1.soNeg,pairing.spCheck]) (spk (fok g1.fo_gen) (spk (fok g1.fo_neg) (spk (fok pairing.fn_check) snl))) mixed ent_fits (by decide) (by decide) ?_
 rintro w M0 ⟨k,p,s,⟨⟩⟩
 revert k p s
 intro (k:Fp × Fp) (p:F2 × F2) (s:F2 × F2) _ _
 refine vcx (X:=(True/\True/\0+2<=2/\0+2<=2/\pairing.preChk (List.take 2 [k,g1.gneg g1.gG],List.take 2 [p,s],())/\(pairing.chkF (List.take 2 [k,g1.gneg g1.gG]) (List.take 2 [p,s]),())=(fto k p s,()))) (by kernel_rfl) ?_
 refine⟨trivial,trivial,Nat.le_refl _,Nat.le_refl _,?_,?_⟩
 ·show pairing.cnt _<=_
  rw[pairing.cnt,opq_eq];exact (by decide:2<=1048576)
 ·rw[fto,opq_eq];rfl
def spFits:Nat × Eng.Spec:=(56,fnSpec [pt1,pt2,pt2] [.val .bool] (fun _=>True) (fun (k,p,s,_)=>(fto k p s,())))
end
end Go.Proofs.YtbeeaekepmnfhaaGreatDoor.bls
namespace Go.Proofs.YtbeeaekepmnfhaaGreatDoor.fr
open Go Go.Eng Go.RowKit Cr
end Go.Proofs.YtbeeaekepmnfhaaGreatDoor.fr
namespace Go.Proofs.YtbeeaekepmnfhaaGreatDoor.law15
noncomputable section
open Go Go.Eng Go.RowKit Cr poly part sha bls
theorem ent_sign:enters Tryz.prog 15 Tryz.f15:=ek
theorem fn_sign:FnOk Tryz.prog 15 [iK,.fr,.sl (.int .u8)] [.val partK] shaG (fun (_,_,m,_)=>prePt (m,())) (fun (x,k,m,_)=>((x,g2.gmul (bpt m) k),())):=by
 refine fn_of_vc (sp:=sps [bls.spSign]) (spk (fgk bls.fn_sign) snl) mixed ent_sign (by decide) (by decide) ?_
 rintro w M0 ⟨x,k,m,⟨⟩⟩
 revert x k m
 intro (x:Int) (k:Fr) (m:List Int) _ hm
 refine vcx (X:=((∀ (g:Nat) (s:Sigma Car),shaG g=some s->Decidable.rec (fun h=>(fun x=>if g=(1:Nat) then some ⟨Kd.arr (64:Nat) uK,rootsL⟩ else none) h) (fun h=>(fun x=>some ⟨Kd.arr (8:Nat) uK,firstL⟩) h) (instDecidableEqNat g (0:Nat))=some s)/\prePt (m,())/\((x,g2.gmul (bpt m) k),())=((x,g2.gmul (bpt m) k),()))) (by kernel_rfl) ?_
 exact⟨fun _ _ h=>h,hm,rfl⟩
def spSign:Nat × Eng.Spec:=(15,fnSpecG shaG [iK,.fr,.sl (.int .u8)] [.val partK] (fun (_,_,m,_)=>prePt (m,())) (fun (x,k,m,_)=>((x,g2.gmul (bpt m) k),())))
def chkV (c:List (Fp × Fp)) (h:F2 × F2) (a:PT):Int:=if memI a.1=false then 34 else if g2.gon a.2=false then 14 else if g2.gin a.2=false then 14 else if fto (catF a.1 c) h a.2=false then 30 else 0
theorem ent_check:enters Tryz.prog 28 Tryz.f28:=ek
abbrev preCheck:HL [.sl part.pt1,part.pt2,partK]->Prop:=fun (c,_,a,_)=>List.length c<1048576
theorem fn_check:FnOk Tryz.prog 28 [.sl part.pt1,part.pt2,partK] [.val iK] noG preCheck (fun (c,h,a,_)=>(chkV c h a,())):=by
 refine fn_of_vc (sp:=sps [spMember,g2.soOn,g2.soIn,spCat,spFits]) (spk (fok fn_member) (spk (fok g2.fo_on) (spk (fok g2.fo_in) (spk (fok fn_cat) (spk (fok bls.fn_fits) snl))))) mixed ent_check (by decide) (by decide) ?_
 rintro w M0 ⟨c,h,a,⟨⟩⟩
 revert c h a
 intro (c:List (Fp × Fp)) (h:F2 × F2) (a:PT) _ hc
 have hc:c.length<1048576:=hc
 refine vcx (X:=(True/\((!memI a.fst)=true->((34:Int),())=(chkV c h a,()))/\((!memI a.fst)=false->True/\((!g2.gon a.snd)=true->((14:Int),())=(chkV c h a,()))/\((!g2.gon a.snd)=false->True/\((!g2.gin a.snd)=true->((14:Int),())=(chkV c h a,()))/\((!g2.gin a.snd)=false->preCat (c,a.fst,())/\True/\((!fto (catF a.fst c) h a.snd)=true->((30:Int),())=(chkV c h a,()))/\((!fto (catF a.fst c) h a.snd)=false->((0:Int),())=(chkV c h a,()))))))) (by kernel_rfl) ?_
 have bf:∀ {b:Bool},(!b)=true->b=false:=fun h=>by simpa using h
 have nb:∀ {b:Bool},(!b)=false->¬ b=false:=fun h=>by simpa using h
 refine⟨trivial,fun h1=>?_,fun h1=>⟨trivial,fun h2=>?_,fun h2=>⟨trivial,fun h3=>?_,fun h3=>⟨⟨by show c.length<_;omega,?_⟩,trivial,fun h4=>?_,fun h4=>?_⟩⟩⟩⟩
 ·rw[chkV,if_pos (bf h1)]
 ·rw[chkV,if_neg (nb h1),if_pos (bf h2)]
 ·rw[chkV,if_neg (nb h1),if_neg (nb h2),if_pos (bf h3)]
 ·have:=nb h1
  simp[memI] at this
  exact⟨by omega,by omega⟩
 ·rw[chkV,if_neg (nb h1),if_neg (nb h2),if_neg (nb h3),if_pos (bf h4)]
 ·rw[chkV,if_neg (nb h1),if_neg (nb h2),if_neg (nb h3),if_neg (nb h4)]
def chko (c:List (Fp × Fp)) (h:F2 × F2) (a:PT):Int:=opq (chkV c h a)
theorem fo_check:FnOk Tryz.prog 28 [.sl part.pt1,part.pt2,partK] [.val iK] noG preCheck (fun (c,h,a,_)=>(chko c h a,())):=fn_check.out fun (c,h,a,_)=>by show (chko _ _ _,())=_;rw[chko,opq_eq]
def soCheck:Nat × Eng.Spec:=(28,fnSpec [.sl part.pt1,part.pt2,partK] [.val iK] preCheck (fun (c,h,a,_)=>(chko c h a,())))
end
end Go.Proofs.YtbeeaekepmnfhaaGreatDoor.law15
namespace Go.Proofs.YtbeeaekepmnfhaaGreatDoor.law15
noncomputable section
open Go Go.Eng Go.RowKit Cr poly
theorem ent_made:enters Tryz.prog 14 Tryz.f14:=ek
def scw (b:List Int):Fr:=opq (zm (num b))
def fitB (bs:List (List Int)):Bool:=decide (1<=bs.length/\bs.length<=5)&&bs.all fun b=>decide (b.length<=100)
def madF (bs:List (List Int)):List Fr:=if fitB bs=true then bs.map scw else []
abbrev preMade:HL [.sl bsl]->Prop:=fun (bs,_)=>preBB bs
abbrev outMade:HL [.sl bsl]->HO [.own .fr,.val .bool]:=fun (bs,_)=>(madF bs,fitB bs,())
def mdI (bs:List (List Int)) (g:Int × Nat × List Fr):St:=mkSt Tryz.f14.ntmps 120 [(4,.is (.one (.sl 80 0 0 g.2.1 4))),(16,.is (.one (.ro bsl bs))),(17,sI .i64 bs.length),(18,sI .i64 g.1)] [(80,[.row .fr g.2.1 g.2.2])]
def mdJ (bs:List (List Int)) (g:Int × Nat × List Fr):Prop:=g.2.1<=bs.length/\g.1=(g.2.1:Int)/\g.2.2=(bs.take g.2.1).map scw/\∀ b∈bs.take g.2.1,List.length b<=100
def mdO (bs:List (List Int)) (g:Int × Nat × List Fr):Prop:=g.2.2=bs.map scw/\g.2.1=bs.length/\∀ b∈bs,List.length b<=100
theorem fn_made:FnOk Tryz.prog 14 [.sl bsl] [.own .fr,.val .bool] noG preMade outMade:=by
 have hsp:SpecsOk Tryz.prog (sps [ref01.spCopy,fr.spWide]):=(spk (fok ref01.fn_copy) (spk (fok fr.fn_wide) snl))
 refine fn_of_tr (sp:=sps [ref01.spCopy,fr.spWide]) ent_made (by decide) (by decide) (by kernel_rfl) ?_
 rintro w M0 ⟨bs,⟨⟩⟩
 revert bs
 intro (bs:List (List Int)) _ hb
 have hb:preBB bs:=hb
 show Tr _ _ _ _ _ _ _
 refine tr_cut hsp mixed 5 (mdI bs (0,0,[])) ((1<=bs.length/\bs.length<=5)) ?_ (fun h9=>?_)
 ·refine vcx (X:=((decide ((↑bs.length:Int)<(1:Int))=true->([],false,())=outMade (bs,()))/\(decide ((↑bs.length:Int)<(1:Int))=false->(decide ((↑bs.length:Int)>(5:Int))=true->([],false,())=outMade (bs,()))/\(decide ((↑bs.length:Int)>(5:Int))=false->(mdI bs ((0:Int),(0:Nat),[])).triv ((1:Nat)<=bs.length/\bs.length<=(5:Nat)))))) (by kernel_rfl) ?_
  have bad:¬ (1<=bs.length/\bs.length<=5)->(([]:List Fr),false,PUnit.unit)=(madF bs,fitB bs,()):=fun h=>by
   have hf:fitB bs=false:=by simp[fitB,h]
   rw[madF,hf];rfl
  refine⟨fun h=>bad (by have:=of_decide_eq_true h;omega),fun h1=>⟨fun h=>bad (by have:=of_decide_eq_true h;omega),fun h=>tvi ⟨?_,?_⟩⟩⟩
  ·have:=of_decide_eq_false h1;omega
  ·have:=of_decide_eq_false h;omega
 refine tr_while hsp mixed (fun σ=>[(80,rdI 4 σ)]) (fun σ=>(rdS (.int .i64) 18 σ,rdL 4 σ,rdR .fr 80 σ)) (mdI bs) (mdJ bs) (fun g=>bs.length-g.2.1)
  (fun σ=>(rdS (.int .i64) 18 σ,rdL 4 σ,rdR .fr 80 σ)) (mdI bs) (mdO bs) (0,0,[]) (c:=nthC (codeOf Tryz.f14) 5) (by kernel_rfl) (by kernel_rfl) (le_of_proj (by kernel_rfl) (by kernel_rfl) ?_) ?_ ?_
 ·exact⟨Nat.zero_le _,rfl,rfl,fun b hb=>nomatch hb⟩
 ·rintro⟨i,k,l⟩ hj
  revert i l
  intro (i:Int) (l:List Fr) ⟨hk,ei,el,ha⟩
  have hk:k<=bs.length:=hk
  have ei:i=(k:Int):=ei
  have kl:l=(bs.take k).map scw:=el
  have ha:∀ b∈bs.take k,List.length b<=100:=ha
  subst ei
  refine vcx (X:=((decide ((↑k:Int)<(↑bs.length:Int))=true->((0:Int)<=(↑k:Int)/\(↑k:Int)<(↑bs.length:Int))/\(↑k:Int).toNat<bs.length/\(decide ((↑(bs.getD (↑k:Int).toNat []).length:Int)>(100:Int))=true->([],false,())=outMade (bs,()))/\(decide ((↑(bs.getD (↑k:Int).toNat []).length:Int)>(100:Int))=false->ref01.preCopy (bs.getD (↑k:Int).toNat [],())/\(0:Nat)+(bs.getD (↑k:Int).toNat []).length<=(bs.getD (↑k:Int).toNat []).length/\fr.preWide (List.take (bs.getD (↑k:Int).toNat []).length (bs.getD (↑k:Int).toNat []),())/\0+1<=1/\k<=k/\(k+(1:Nat))*(32:Nat)<=(140737488355328:Nat)/\k+(1:Nat)<=(4611686018427387904:Nat)/\(mdI bs (IntKind.i64.wrap ((↑k:Int)+(1:Int)),k+(1:Nat),List.take k l++List.take 1 [zmr (num (List.take (bs.getD (↑k:Int).toNat []).length (bs.getD (↑k:Int).toNat [])))])).triv (mdJ bs (IntKind.i64.wrap ((↑k:Int)+(1:Int)),k+(1:Nat),List.take k l++List.take 1 [zmr (num (List.take (bs.getD (↑k:Int).toNat []).length (bs.getD (↑k:Int).toNat [])))])/\bs.length-(k+(1:Nat))<bs.length-k)))/\(decide ((↑k:Int)<(↑bs.length:Int))=false->(mdI bs ((↑k:Int),k,l)).triv (mdO bs ((↑k:Int),k,l))))) (by kernel_rfl) ?_
  rw[Int.toNat_natCast]
  refine⟨fun h=>?_,fun h=>tvi ?_⟩
  ·have hlt:k<bs.length:=by have:=dec_lt h;omega
   have hg:bs.getD k []=bs[k]:=by rw[List.getD_eq_getElem?_getD,List.getElem?_eq_getElem hlt,Option.getD_some]
   have hm:bs[k]∈bs:=List.getElem_mem hlt
   have htk:bs.take (k+1)=bs.take k++[bs[k]]:=List.take_succ_eq_append_getElem hlt
   rw[hg,wrap_succ (by omega)]
   generalize bs[k]=b at *
   have hbb:preB b:=hb.1 b hm
   rw[List.take_length,show List.take k l=l by rw[kl];exact List.take_of_length_le (by simp;omega)]
   refine⟨⟨by omega,by omega⟩,hlt,fun h2=>?_,fun h2=>⟨hbb.2,by omega,⟨hbb.1,by have:=hbb.2;show b.length<_;omega⟩,by decide,Nat.le_refl _,by omega,by omega,tvi ⟨⟨hlt,rfl,?_,?_⟩,by omega⟩⟩⟩
   ·have h2:¬ b.length<=100:=by have:=of_decide_eq_true h2;omega
    have hf:fitB bs=false:=by
     rw[Bool.eq_false_iff]
     intro hf
     simp only[fitB,Bool.and_eq_true,decide_eq_true_eq,List.all_eq_true] at hf
     exact h2 (hf.2 b hm)
    show _=(madF bs,fitB bs,())
    rw[madF,hf];rfl
   ·show l++[zmr (num b)]=(bs.take (k+1)).map scw
    rw[htk,List.map_append,<- kl,List.map_cons,List.map_nil,scw,opq_eq]
   ·show ∀ b∈bs.take (k+1),_
    rw[htk]
    intro c hc
    rcases List.mem_append.1 hc with hc|hc
    ·exact ha c hc
    ·simp at hc;subst hc;have:=of_decide_eq_false h2;omega
  ·have:k=bs.length:=by have:=dec_ge h;omega
   rw[this,List.take_length] at kl ha
   exact⟨kl,this,ha⟩
 rintro⟨i,k,l⟩ hj
 revert i l
 intro (i:Int) (l:List Fr) ⟨h1,h2,h3⟩
 have h1:l=bs.map scw:=h1
 have h2:k=bs.length:=h2
 have h3:∀ b∈bs,List.length b<=100:=h3
 have hf:fitB bs=true:=by
  simp only[fitB,Bool.and_eq_true,decide_eq_true_eq,List.all_eq_true]
  exact⟨h9,h3⟩
 refine tr_vc hsp mixed _ _ ?_
 refine vcx (X:=((0:Nat)+k<=k/\(List.take k l,true,())=outMade (bs,()))) (by kernel_rfl) ?_
 refine⟨by omega,?_⟩
 show _=(madF bs,fitB bs,())
 rw[madF,hf,if_pos rfl,h1,List.take_of_length_le (by simp[h2])]
def spMade:Nat × Eng.Spec:=(14,fnSpec [.sl bsl] [.own .fr,.val .bool] preMade outMade)
end
end Go.Proofs.YtbeeaekepmnfhaaGreatDoor.law15
namespace Go.Proofs.YtbeeaekepmnfhaaGreatDoor.law15
open Go Go.Eng Go.RowKit Cr poly part sha bls
theorem ent_head:enters Tryz.prog 13 Tryz.f13:=ek
theorem fn_head:FnOk Tryz.prog 13 [] [.val .bool] shaG (fun _=>True) (fun _=>(true,())):=by
 refine fn_of_vc (sp:=sps [fr.spOf,spAt,spSign,spCommit,soJoin,bls.spSign,spPoint,soCheck]) (spk (fok fr.fn_of) (spk (fok fn_at) (spk (fgk fn_sign) (spk (fok fn_commit) (spk (fok fo_join) (spk (fgk bls.fn_sign) (spk (fgk fn_point) (spk (fok fo_check) snl)))))))) mixed ent_head (by decide) (by decide) ?_
 rintro w M0 ⟨⟩ _ _
 refine vcx (X:=(U64 (7:Int)/\U64 (2:Int)/\0+2<=2/\preAt (List.take 2 [zmr (7:Int),zmr (2:Int)],(1:Int),())/\(∀ (g:Nat) (s:Sigma Car),shaG g=some s->Decidable.rec (fun h=>(fun x=>if g=(1:Nat) then some ⟨Kd.arr (64:Nat) uK,rootsL⟩ else none) h) (fun h=>(fun x=>some ⟨Kd.arr (8:Nat) uK,firstL⟩) h) (instDecidableEqNat g (0:Nat))=some s)/\(0:Nat)+(nat_lit 0+(1:Nat))<=(1:Nat)/\prePt (List.take (nat_lit 0+(1:Nat)) [(109:Int)],())/\0+2<=2/\preAt (List.take 2 [zmr (7:Int),zmr (2:Int)],(3:Int),())/\(∀ (g:Nat) (s:Sigma Car),shaG g=some s->Decidable.rec (fun h=>(fun x=>if g=(1:Nat) then some ⟨Kd.arr (64:Nat) uK,rootsL⟩ else none) h) (fun h=>(fun x=>some ⟨Kd.arr (8:Nat) uK,firstL⟩) h) (instDecidableEqNat g (0:Nat))=some s)/\(0:Nat)+(nat_lit 0+(1:Nat))<=(1:Nat)/\prePt (List.take (nat_lit 0+(1:Nat)) [(109:Int)],())/\0+2<=2/\preCommit (List.take 2 [zmr (7:Int),zmr (2:Int)],())/\(0:Nat)+(cmt (List.take 2 [zmr (7:Int),zmr (2:Int)])).length<=(cmt (List.take 2 [zmr (7:Int),zmr (2:Int)])).length/\0+2<=2/\preJoin (List.take (cmt (List.take 2 [zmr (7:Int),zmr (2:Int)])).length (cmt (List.take 2 [zmr (7:Int),zmr (2:Int)])),List.take 2 [((3:Int),g2.gmul (bpt (List.take (nat_lit 0+(1:Nat)) [(109:Int)])) (pat (List.take 2 [zmr (7:Int),zmr (2:Int)]) (3:Int))),((1:Int),g2.gmul (bpt (List.take (nat_lit 0+(1:Nat)) [(109:Int)])) (pat (List.take 2 [zmr (7:Int),zmr (2:Int)]) (1:Int)))],())/\(((jno (List.take (cmt (List.take 2 [zmr (7:Int),zmr (2:Int)])).length (cmt (List.take 2 [zmr (7:Int),zmr (2:Int)]))).length (List.take 2 [((3:Int),g2.gmul (bpt (List.take (nat_lit 0+(1:Nat)) [(109:Int)])) (pat (List.take 2 [zmr (7:Int),zmr (2:Int)]) (3:Int))),((1:Int),g2.gmul (bpt (List.take (nat_lit 0+(1:Nat)) [(109:Int)])) (pat (List.take 2 [zmr (7:Int),zmr (2:Int)]) (1:Int)))])).snd.fst==(0:Int))=true->U64 (7:Int)/\(∀ (g:Nat) (s:Sigma Car),shaG g=some s->Decidable.rec (fun h=>(fun x=>if g=(1:Nat) then some ⟨Kd.arr (64:Nat) uK,rootsL⟩ else none) h) (fun h=>(fun x=>some ⟨Kd.arr (8:Nat) uK,firstL⟩) h) (instDecidableEqNat g (0:Nat))=some s)/\(0:Nat)+(nat_lit 0+(1:Nat))<=(1:Nat)/\prePt (List.take (nat_lit 0+(1:Nat)) [(109:Int)],())/\(eqC ((Kd.fp.pair Kd.fp).pair (Kd.fp.pair Kd.fp)) (jno (List.take (cmt (List.take 2 [zmr (7:Int),zmr (2:Int)])).length (cmt (List.take 2 [zmr (7:Int),zmr (2:Int)]))).length (List.take 2 [((3:Int),g2.gmul (bpt (List.take (nat_lit 0+(1:Nat)) [(109:Int)])) (pat (List.take 2 [zmr (7:Int),zmr (2:Int)]) (3:Int))),((1:Int),g2.gmul (bpt (List.take (nat_lit 0+(1:Nat)) [(109:Int)])) (pat (List.take 2 [zmr (7:Int),zmr (2:Int)]) (1:Int)))])).fst (g2.gmul (bpt (List.take (nat_lit 0+(1:Nat)) [(109:Int)])) (zmr (7:Int)))=true->0+2<=2/\preCommit (List.take 2 [zmr (7:Int),zmr (2:Int)],())/\(∀ (g:Nat) (s:Sigma Car),shaG g=some s->Decidable.rec (fun h=>(fun x=>if g=(1:Nat) then some ⟨Kd.arr (64:Nat) uK,rootsL⟩ else none) h) (fun h=>(fun x=>some ⟨Kd.arr (8:Nat) uK,firstL⟩) h) (instDecidableEqNat g (0:Nat))=some s)/\(0:Nat)+(nat_lit 0+(1:Nat))<=(1:Nat)/\prePt (List.take (nat_lit 0+(1:Nat)) [(109:Int)],())/\(0:Nat)+(cmt (List.take 2 [zmr (7:Int),zmr (2:Int)])).length<=(cmt (List.take 2 [zmr (7:Int),zmr (2:Int)])).length/\preCheck (List.take (cmt (List.take 2 [zmr (7:Int),zmr (2:Int)])).length (cmt (List.take 2 [zmr (7:Int),zmr (2:Int)])),bpt (List.take (nat_lit 0+(1:Nat)) [(109:Int)]),((0:Int),((0:Fp),(0:Fp)),(0:Fp),(0:Fp)),())/\(chko (List.take (cmt (List.take 2 [zmr (7:Int),zmr (2:Int)])).length (cmt (List.take 2 [zmr (7:Int),zmr (2:Int)]))) (bpt (List.take (nat_lit 0+(1:Nat)) [(109:Int)])) ((0:Int),((0:Fp),(0:Fp)),(0:Fp),(0:Fp))==(34:Int),())=(true,()))/\(eqC ((Kd.fp.pair Kd.fp).pair (Kd.fp.pair Kd.fp)) (jno (List.take (cmt (List.take 2 [zmr (7:Int),zmr (2:Int)])).length (cmt (List.take 2 [zmr (7:Int),zmr (2:Int)]))).length (List.take 2 [((3:Int),g2.gmul (bpt (List.take (nat_lit 0+(1:Nat)) [(109:Int)])) (pat (List.take 2 [zmr (7:Int),zmr (2:Int)]) (3:Int))),((1:Int),g2.gmul (bpt (List.take (nat_lit 0+(1:Nat)) [(109:Int)])) (pat (List.take 2 [zmr (7:Int),zmr (2:Int)]) (1:Int)))])).fst (g2.gmul (bpt (List.take (nat_lit 0+(1:Nat)) [(109:Int)])) (zmr (7:Int)))=false->(false,())=(true,())))/\(((jno (List.take (cmt (List.take 2 [zmr (7:Int),zmr (2:Int)])).length (cmt (List.take 2 [zmr (7:Int),zmr (2:Int)]))).length (List.take 2 [((3:Int),g2.gmul (bpt (List.take (nat_lit 0+(1:Nat)) [(109:Int)])) (pat (List.take 2 [zmr (7:Int),zmr (2:Int)]) (3:Int))),((1:Int),g2.gmul (bpt (List.take (nat_lit 0+(1:Nat)) [(109:Int)])) (pat (List.take 2 [zmr (7:Int),zmr (2:Int)]) (1:Int)))])).snd.fst==(0:Int))=false->(false,())=(true,())))) (by kernel_rfl) ?_
 have eM:List.take (nat_lit 0+(1:Nat)) [(109:Int)]=[109]:=rfl
 simp only[eM,show ∀ a b:Fr,List.take 2 [a,b]=[a,b] from fun _ _=>rfl,show ∀ a b:PT,List.take 2 [a,b]=[a,b] from fun _ _=>rfl,List.take_length]
 have u:∀ n:Int,0<=n/\n<18446744073709551616->U64 n:=fun n h=>h
 have u7:=u 7 ⟨by decide,by decide⟩
 have u2:=u 2 ⟨by decide,by decide⟩
 have p1:preAt ([zmr 7,zmr 2],1,()):=⟨by decide,by decide,by decide⟩
 have p3:preAt ([zmr 7,zmr 2],3,()):=⟨by decide,by decide,by decide⟩
 have pc:preCommit ([zmr 7,zmr 2],()):=by show (2:Nat)<1048576;decide
 have pp:prePt ([109],()):=by show (1:Nat)<=1048576;decide
 have cl:(cmt [zmr 7,zmr 2]).length=[zmr 7,zmr 2].length:=by rw[cmt,List.length_map]
 have pj:∀ a b:PT,preJoin (cmt [zmr 7,zmr 2],[a,b],()):=fun a b=>⟨by show (2:Nat)<=12;decide,by show (cmt [zmr 7,zmr 2]).length<_;rw[cl];decide⟩
 have pk:∀ a,preCheck (cmt [zmr 7,zmr 2],bpt [109],a,()):=fun a=>by show (cmt [zmr 7,zmr 2]).length<_;rw[cl];decide
 have hA:Ans [3,1] 0:=Fnd.ans (low:=0) (.inl ⟨rfl,fun i hi=>by
  have hi:i<2:=hi
  have:i=0\/i=1:=by omega
  rcases this with rfl|rfl<;>decide⟩)
 have h0:pat [zmr 7,zmr 2] 0=zmr 7:=by rw[pat_eq];decide
 have hj:jno (cmt [zmr 7,zmr 2]).length [(3,g2.gmul (bpt [109]) (pat [zmr 7,zmr 2] 3)),(1,g2.gmul (bpt [109]) (pat [zmr 7,zmr 2] 1))]=(g2.gmul (bpt [109]) (zmr 7),0,()):=by
  have h:=jno_val (bpt_sub [109]) [zmr 7,zmr 2] [3,1] hA
  rw[if_pos rfl,if_neg (by decide),h0] at h
  rw[cl];exact h
 have hc:chko (cmt [zmr 7,zmr 2]) (bpt [109]) (0,(0,0),(0,0))=34:=by rw[chko,opq_eq,chkV,if_pos (by decide)]
 rw[hj,hc,g2.eqP2,decide_eq_true rfl]
 exact⟨u7,u2,by decide,p1,fun _ _ h=>h,by decide,pp,by decide,p3,fun _ _ h=>h,by decide,pp,by decide,pc,Nat.le_of_eq (Nat.zero_add _),by decide,pj _ _,fun _=>⟨u7,fun _ _ h=>h,by decide,pp,fun _=>⟨by decide,pc,fun _ _ h=>h,by decide,pp,Nat.le_of_eq (Nat.zero_add _),pk _,by decide⟩,fun h=>by cases h⟩,fun h=>by cases h⟩
noncomputable def spHead:Nat × Eng.Spec:=(13,fnSpecG shaG [] [.val .bool] (fun _=>True) (fun _=>(true,())))
end Go.Proofs.YtbeeaekepmnfhaaGreatDoor.law15
namespace Go.Proofs.YtbeeaekepmnfhaaGreatDoor.law15
noncomputable section
open Go Go.Eng Go.RowKit Cr poly part sha bls
theorem ent_joins:enters Tryz.prog 4 Tryz.f4:=ek
def jsA (xs:List Int) (m:List Int) (p:List Fr):St:=mkSt Tryz.f4.ntmps 176 [(1,.is (.one (.ro iK xs))),(2,.is (.one (.ro (.int .u8) m))),(7,.is (.one (.sl 32 0 0 p.length 4)))] [(32,[.row .fr p.length p])]
def jsB (xs:List Int) (m:List Int) (p:List Fr) (g:Int × Nat × List PT):St:=mkSt Tryz.f4.ntmps 216 [(1,.is (.one (.ro iK xs))),(2,.is (.one (.ro (.int .u8) m))),(7,.is (.one (.ro .fr p))),(9,.is (.one (.sl 176 0 0 g.2.1 25))),(41,.is (.one (.ro iK xs))),(42,sI .i64 xs.length),(43,sI .i64 g.1)] [(176,[.row partK g.2.1 g.2.2])]
def jsC (xs:List Int) (m:List Int) (p:List Fr) (g:Nat × List PT):St:=mkSt Tryz.f4.ntmps 216 [(1,.is (.one (.ro iK xs))),(2,.is (.one (.ro (.int .u8) m))),(7,.is (.one (.ro .fr p))),(9,.is (.one (.sl 176 0 0 g.1 25)))] [(176,[.row partK g.1 g.2])]
def jsD (xs:List Int) (m:List Int) (p:List Fr) (ps:List PT) (g:Nat × List PT):St:=mkSt Tryz.f4.ntmps 248 [(1,.is (.one (.ro iK xs))),(2,.is (.one (.ro (.int .u8) m))),(7,.is (.one (.ro .fr p))),(9,.is (.one (.ro partK ps))),(12,.is (.one (.sl 232 0 0 g.1 25)))] [(232,[.row partK g.1 g.2])]
def jsE (xs:List Int) (m:List Int) (p:List Fr) (ps:List PT) (s:F2 × F2) (e:Int) (i:Int):St:=mkSt Tryz.f4.ntmps 352 [(1,.is (.one (.ro iK xs))),(2,.is (.one (.ro (.int .u8) m))),(7,.is (.one (.ro .fr p))),(9,.is (.one (.ro partK ps))),(12,.is (.one (.ro partK ps))),(13,.is (.one (.ptr 304 0))),(14,sI .i64 e),(67,.is (.one (.ro partK ps))),(68,sI .i64 ps.length),(69,sI .i64 i)] [(304,g2.pc s)]
def jsF (xs:List Int) (m:List Int) (p:List Fr) (s:F2 × F2) (e:Int) (_:Unit):St:=mkSt Tryz.f4.ntmps 352 [(1,.is (.one (.ro iK xs))),(2,.is (.one (.ro (.int .u8) m))),(7,.is (.one (.ro .fr p))),(13,.is (.one (.ptr 304 0))),(14,sI .i64 e)] [(304,g2.pc s)]
def jsG (xs:List Int) (m:List Int) (p:List Fr) (s:F2 × F2) (e:Int) (g:Int × Int × Int):St:=mkSt Tryz.f4.ntmps 392 [(1,.is (.one (.ro iK xs))),(2,.is (.one (.ro (.int .u8) m))),(7,.is (.one (.ro .fr p))),(13,.is (.one (.ptr 304 0))),(14,sI .i64 e),(16,sI .i64 g.1),(17,sI .i64 g.2.1),(82,.is (.one (.ro iK xs))),(83,sI .i64 xs.length),(84,sI .i64 g.2.2)] [(304,g2.pc s)]
def jsH (xs:List Int) (m:List Int) (p:List Fr) (s:F2 × F2) (e:Int) (k:Nat) (l w:Int) (g:Int × Int):St:=mkSt Tryz.f4.ntmps 520 [(1,.is (.one (.ro iK xs))),(2,.is (.one (.ro (.int .u8) m))),(7,.is (.one (.ro .fr p))),(13,.is (.one (.ptr 304 0))),(14,sI .i64 e),(16,sI .i64 l),(17,sI .i64 w),(18,sI .i64 k),(19,sI .i64 g.2),(20,sI .i64 g.1),(82,.is (.one (.ro iK xs))),(83,sI .i64 xs.length),(84,sI .i64 k)] [(304,g2.pc s)]
def jsI (xs:List Int) (m:List Int) (p:List Fr) (s:F2 × F2) (e:Int) (k:Nat) (l w:Int) (b:Int):St:=mkSt Tryz.f4.ntmps 520 [(1,.is (.one (.ro iK xs))),(2,.is (.one (.ro (.int .u8) m))),(7,.is (.one (.ro .fr p))),(13,.is (.one (.ptr 304 0))),(14,sI .i64 e),(16,sI .i64 l),(17,sI .i64 w),(18,sI .i64 k),(19,sI .i64 b),(82,.is (.one (.ro iK xs))),(83,sI .i64 xs.length),(84,sI .i64 k)] [(304,g2.pc s)]
def jsO (xs:List Int) (m:List Int) (p:List Fr) (s:F2 × F2) (e:Int) (g:Int × Int):St:=mkSt Tryz.f4.ntmps 392 [(1,.is (.one (.ro iK xs))),(2,.is (.one (.ro (.int .u8) m))),(7,.is (.one (.ro .fr p))),(13,.is (.one (.ptr 304 0))),(14,sI .i64 e),(16,sI .i64 g.1),(17,sI .i64 g.2)] [(304,g2.pc s)]
def jsK (bs:List (List Int)) (m xs:List Int) (p:List Fr):Prop:=1<=p.length/\p.length<=5/\m.length<=4096/\xs.length<=12
def jsJ (xs:List Int) (m:List Int) (p:List Fr) (g:Int × Nat × List PT):Prop:=g.2.1<=xs.length/\g.1=(g.2.1:Int)/\g.2.2=(xs.take g.2.1).map (prt (bpt m) p)
def jsJo (xs:List Int) (m:List Int) (p:List Fr) (g:Nat × List PT):Prop:=g.1=xs.length/\g.2=xs.map (prt (bpt m) p)
def jsJ3 (xs:List Int) (g:Int × Int × Int):Prop:=∃ k:Nat,k<=xs.length/\g.2.2=(k:Int)/\Fnd xs k g.1 g.2.1
def bdF (xs:List Int) (k j:Nat):Int:=if memI (xs.getD k 0)=false then 34 else if xs.getD k 0∈xs.take j then 33 else 0
def jsJ4 (xs:List Int) (k:Nat) (g:Int × Int):Prop:=∃ j:Nat,j<=k/\g.1=(j:Int)/\g.2=bdF xs k j
theorem bd_zero (xs:List Int) (k:Nat):bdF xs k 0=if memI (xs.getD k 0)=false then 34 else 0:=by
 unfold bdF
 rw[List.take_zero,if_neg (show ¬ xs.getD k 0∈([]:List Int) from fun h=>by cases h)]
theorem bd_succ {xs:List Int} {k t:Nat} (ht:t<xs.length):bdF xs k (t+1)=if xs.getD t 0=xs.getD k 0/\bdF xs k t=0 then 33 else bdF xs k t:=by
 have hg:xs.getD t 0=xs[t]:=by rw[List.getD_eq_getElem?_getD,List.getElem?_eq_getElem ht];rfl
 unfold bdF
 rw[List.take_succ_eq_append_getElem ht]
 generalize xs.getD k 0=x
 simp only[List.mem_append,List.mem_singleton]
 by_cases h1:memI x=false
 ·rw[if_pos h1,if_pos h1,if_neg (fun h=>absurd h.2 (by decide))]
 ·rw[if_neg h1,if_neg h1]
  by_cases h2:x∈xs.take t
  ·rw[if_pos (.inl h2),if_pos h2,if_neg (fun h=>absurd h.2 (by decide))]
  ·by_cases h3:xs.getD t 0=x
   ·rw[if_pos (.inr (by rw[<- h3,hg])),if_neg h2,if_pos ⟨h3,rfl⟩]
   ·rw[if_neg (fun h=>h.elim h2 (fun h=>h3 (by rw[hg,h]))),if_neg h2,if_neg (fun h=>h3 h.1)]
theorem mem_lo {x:Int} (h:x<1):memI x=false:=by rw[memI,decide_eq_false (show ¬ 1<=x by omega),Bool.false_and]
theorem mem_hi {x:Int} (h:x>9):memI x=false:=by rw[memI,decide_eq_false (show ¬ x<=9 by omega),Bool.and_false]
theorem mem_in {x:Int} (h:¬ x<1) (h2:¬ x>9):memI x=true:=by rw[memI,decide_eq_true (show 1<=x by omega),decide_eq_true (show x<=9 by omega)];rfl
theorem made_fit {bs:List (List Int)} (h:fitB bs=true):1<=(madF bs).length/\(madF bs).length<=5:=by
 rw[madF,if_pos h,List.length_map]
 simp only[fitB,Bool.and_eq_true,decide_eq_true_eq] at h
 exact h.1
theorem fn_joins:FnOk Tryz.prog 4 [.sl (.sl (.int .u8)),.sl iK,.sl (.int .u8)] [.val .bool] shaG (fun (bs,xs,m,_)=>preBB bs/\preIS xs/\preB m) (fun _=>(true,())):=by
 have hsp:SpecsOk Tryz.prog (sps [spHead,spMade,spAt,spSign,spCommit,soJoin,bls.spSign]):=spk (fgk fn_head) (spk (fok fn_made) (spk (fok fn_at) (spk (fgk fn_sign) (spk (fok fn_commit) (spk (fok fo_join) (spk (fgk bls.fn_sign) snl))))))
 refine fn_of_tr (sp:=sps [spHead,spMade,spAt,spSign,spCommit,soJoin,bls.spSign]) ent_joins (by decide) (by decide) (by kernel_rfl) ?_
 rintro w M0 ⟨bs,xs,m,⟨⟩⟩
 revert bs xs m
 intro (bs:List (List Int)) (xs:List Int) (m:List Int) _ hp
 obtain⟨h1,h2,h3⟩:=hp
 have hx:∀ x∈xs,preI x:=h2.1
 show Tr _ _ _ _ _ _ _
 refine tr_cutF hsp mixed 6 (fun σ=>rdR .fr 32 σ) (jsA xs m) (jsK bs m xs) ?_ ?_
 ·refine vcx (X:=((∀ (g:Nat) (s:Sigma Car),shaG g=some s->Decidable.rec (fun h=>(fun x=>if g=(1:Nat) then some ⟨Kd.arr (64:Nat) uK,rootsL⟩ else none) h) (fun h=>(fun x=>some ⟨Kd.arr (8:Nat) uK,firstL⟩) h) (instDecidableEqNat g (0:Nat))=some s)/\True/\((!true)=true->(false,())=(true,()))/\((!true)=false->preMade (bs,())/\((!fitB bs)=true->(true,())=(true,()))/\((!fitB bs)=false->(decide ((↑m.length:Int)>(4096:Int))=true->(true,())=(true,()))/\(decide ((↑m.length:Int)>(4096:Int))=false->(decide ((↑xs.length:Int)>(12:Int))=true->(true,())=(true,()))/\(decide ((↑xs.length:Int)>(12:Int))=false->(jsA xs m (madF bs)).triv (jsK bs m xs (madF bs)))))))) (by kernel_rfl) ?_
  exact⟨fun _ _ h=>h,trivial,fun h=>absurd h (by decide),fun _=>⟨h1,fun _=>rfl,fun hf=>⟨fun _=>rfl,fun hm=>⟨fun _=>rfl,fun hx=>tvi ⟨(made_fit (by simpa using hf)).1,(made_fit (by simpa using hf)).2,by have:=of_decide_eq_false hm;omega,by have:=of_decide_eq_false hx;omega⟩⟩⟩⟩⟩
 intro (p:List Fr) ⟨p1,p5,hm,hxl⟩
 have pm:prePt (m,()):=by show m.length<=_;omega
 refine tr_frz 7 32 p.length 4 .fr p rfl rfl rfl ?_
 refine tr_cut hsp mixed 2 (jsB xs m p (0,0,[])) True ?_ (fun _=>?_)
 ·refine vcx (X:=((jsB xs m p ((0:Int),(0:Nat),[])).triv True)) (by kernel_rfl) ?_
  exact tvi trivial
 refine tr_while hsp mixed (fun σ=>[(176,rdI 9 σ)]) (fun σ=>(rdS iK 43 σ,rdL 9 σ,rdR partK 176 σ)) (jsB xs m p) (jsJ xs m p) (fun g=>xs.length-g.2.1)
  (fun σ=>(rdL 9 σ,rdR partK 176 σ)) (jsC xs m p) (jsJo xs m p) (0,0,[]) (c:=nthC (codeOf Tryz.f4) 8) (by kernel_rfl) (by kernel_rfl) (le_of_proj (by kernel_rfl) (by kernel_rfl) ?_) ?_ ?_
 ·exact⟨Nat.zero_le _,rfl,rfl⟩
 ·rintro⟨i,k,l⟩ hj
  revert i l
  intro (i:Int) (l:List PT) ⟨hk,ei,el⟩
  have ei:i=(k:Int):=ei
  subst ei
  have hk:k<=xs.length:=hk
  have el:l=(xs.take k).map (prt (bpt m) p):=el
  refine vcx (X:=((decide ((↑k:Int)<(↑xs.length:Int))=true->((0:Int)<=(↑k:Int)/\(↑k:Int)<(↑xs.length:Int))/\(↑k:Int).toNat<xs.length/\preAt (p,xs.getD (↑k:Int).toNat (0:Int),())/\(∀ (g:Nat) (s:Sigma Car),shaG g=some s->Decidable.rec (fun h=>(fun x=>if g=(1:Nat) then some ⟨Kd.arr (64:Nat) uK,rootsL⟩ else none) h) (fun h=>(fun x=>some ⟨Kd.arr (8:Nat) uK,firstL⟩) h) (instDecidableEqNat g (0:Nat))=some s)/\prePt (m,())/\0+1<=1/\k<=k/\(k+(1:Nat))*(200:Nat)<=(140737488355328:Nat)/\k+(1:Nat)<=(4611686018427387904:Nat)/\(jsB xs m p (IntKind.i64.wrap ((↑k:Int)+(1:Int)),k+(1:Nat),List.take k l++List.take 1 [(xs.getD (↑k:Int).toNat (0:Int),g2.gmul (bpt m) (pat p (xs.getD (↑k:Int).toNat (0:Int))))])).triv (jsJ xs m p (IntKind.i64.wrap ((↑k:Int)+(1:Int)),k+(1:Nat),List.take k l++List.take 1 [(xs.getD (↑k:Int).toNat (0:Int),g2.gmul (bpt m) (pat p (xs.getD (↑k:Int).toNat (0:Int))))])/\xs.length-(k+(1:Nat))<xs.length-k))/\(decide ((↑k:Int)<(↑xs.length:Int))=false->(jsC xs m p (k,l)).triv (jsJo xs m p (k,l))))) (by kernel_rfl) ?_
  rw[Int.toNat_natCast]
  refine⟨fun h=>?_,fun h=>tvi ?_⟩
  ·have hlt:k<xs.length:=by have:=of_decide_eq_true h;omega
   have hg:xs.getD k 0=xs[k]:=by rw[List.getD_eq_getElem?_getD,List.getElem?_eq_getElem hlt,Option.getD_some]
   have htk:xs.take (k+1)=xs.take k++[xs[k]]:=List.take_succ_eq_append_getElem hlt
   have hll:l.length=k:=by rw[el,List.length_map,List.length_take];omega
   rw[wrap_i64' (show -9223372036854775808<=(k:Int)+1 by omega) (by omega),List.take_of_length_le (Nat.le_of_eq hll),hg]
   exact⟨⟨by omega,by omega⟩,hlt,⟨by show p.length<_;omega,hx _ (List.getElem_mem _)⟩,fun _ _ h=>h,pm,by decide,Nat.le_refl _,by omega,by omega,tvi ⟨⟨hlt,rfl,by show l++[_]=(xs.take (k+1)).map _;rw[htk,List.map_append,<- el];rfl⟩,by omega⟩⟩
  ·have hk2:k=xs.length:=by have:=of_decide_eq_false h;omega
   exact⟨hk2,by show l=_;rw[el,hk2,List.take_length]⟩
 rintro⟨n,ps⟩ hj
 revert ps
 intro (ps:List PT) ⟨en,ep⟩
 have en:n=xs.length:=en
 have ep:ps=xs.map (prt (bpt m) p):=ep
 have epl:ps.length=xs.length:=by rw[ep,List.length_map]
 refine tr_frz 9 176 n 25 partK ps rfl rfl (by rw[epl,en]) ?_
 refine tr_cutF hsp mixed 1 (fun σ=>(rdL 12 σ,rdR partK 232 σ)) (jsD xs m p ps) (fun g=>g=(ps.length,ps)) ?_ ?_
 ·refine vcx (X:=((0:Nat)<=(0:Nat)/\((0:Nat)+ps.length)*(200:Nat)<=(140737488355328:Nat)/\(0:Nat)+ps.length<=(4611686018427387904:Nat)/\(jsD xs m p ps ((0:Nat)+ps.length,List.take 0 []++ps)).triv (((0:Nat)+ps.length,List.take 0 []++ps)=(ps.length,ps)))) (by kernel_rfl) ?_
  exact⟨Nat.le_refl _,by omega,by omega,tvi (by rw[Nat.zero_add,List.take_zero,List.nil_append])⟩
 rintro _ rfl
 refine tr_frz 12 232 ps.length 25 partK ps rfl rfl rfl ?_
 refine tr_cutF hsp mixed 2 (fun σ=>(rdB g2.pt2 304 σ,rdS iK 14 σ)) (fun g=>jsE xs m p ps g.1 g.2 0) (fun g=>(g.1,g.2,())=jno p.length ps) ?_ ?_
 ·refine vcx (X:=(preCommit (p,())/\(0:Nat)+(cmt p).length<=(cmt p).length/\preJoin (List.take (cmt p).length (cmt p),ps,())/\(jsE xs m p ps ((jno (List.take (cmt p).length (cmt p)).length ps).fst,(jno (List.take (cmt p).length (cmt p)).length ps).snd.fst).fst ((jno (List.take (cmt p).length (cmt p)).length ps).fst,(jno (List.take (cmt p).length (cmt p)).length ps).snd.fst).snd (0:Int)).triv (((jno (List.take (cmt p).length (cmt p)).length ps).fst,(jno (List.take (cmt p).length (cmt p)).length ps).snd.fst,())=jno p.length ps))) (by kernel_rfl) ?_
  have cl:(cmt p).length=p.length:=by rw[cmt,List.length_map]
  rw[List.take_length]
  exact⟨by show p.length<_;omega,by omega,⟨by show ps.length<=_;omega,by show (cmt p).length<_;rw[cl];omega⟩,tvi (by rw[cl])⟩
 rintro⟨s,e⟩ hse
 revert s e
 intro (s:F2 × F2) (e:Int) (hse:(s,e,())=jno p.length ps)
 refine tr_while hsp mixed noSw (fun σ=>rdS iK 69 σ) (jsE xs m p ps s e) (fun i=>∃ k:Nat,k<=ps.length/\i=(k:Int)) (fun i=>ps.length-i.toNat)
  (fun _=>()) (jsF xs m p s e) (fun _=>True) 0 (c:=nthC (codeOf Tryz.f4) 12) (by kernel_rfl) (by kernel_rfl) (le_of_proj (by kernel_rfl) (by kernel_rfl) ?_) ?_ ?_
 ·exact⟨0,Nat.zero_le _,rfl⟩
 ·rintro i ⟨k,hk,ei⟩
  subst ei
  refine vcx (X:=((decide ((↑k:Int)<(↑ps.length:Int))=true->((0:Int)<=(↑k:Int)/\(↑k:Int)<(↑ps.length:Int))/\(↑k:Int).toNat<ps.length/\((0:Int)<=(↑k:Int)/\(↑k:Int)<(↑ps.length:Int))/\(↑k:Int).toNat<ps.length/\((!eqC ((Kd.int IntKind.i64).pair ((Kd.fp.pair Kd.fp).pair (Kd.fp.pair Kd.fp))) (ps.getD (↑k:Int).toNat ((0:Int),((0:Fp),(0:Fp)),(0:Fp),(0:Fp))) (ps.getD (↑k:Int).toNat ((0:Int),((0:Fp),(0:Fp)),(0:Fp),(0:Fp))))=true->(false,())=(true,()))/\((!eqC ((Kd.int IntKind.i64).pair ((Kd.fp.pair Kd.fp).pair (Kd.fp.pair Kd.fp))) (ps.getD (↑k:Int).toNat ((0:Int),((0:Fp),(0:Fp)),(0:Fp),(0:Fp))) (ps.getD (↑k:Int).toNat ((0:Int),((0:Fp),(0:Fp)),(0:Fp),(0:Fp))))=false->(jsE xs m p ps s e (IntKind.i64.wrap ((↑k:Int)+(1:Int)))).triv ((∃ k_1,k_1<=ps.length/\IntKind.i64.wrap ((↑k:Int)+(1:Int))=(↑k_1:Int))/\ps.length-(IntKind.i64.wrap ((↑k:Int)+(1:Int))).toNat<ps.length-(↑k:Int).toNat)))/\(decide ((↑k:Int)<(↑ps.length:Int))=false->(jsF xs m p s e ()).triv True))) (by kernel_rfl) ?_
  rw[Int.toNat_natCast]
  refine⟨fun h=>?_,fun h=>tvi trivial⟩
  have hlt:k<ps.length:=by have:=of_decide_eq_true h;omega
  have hq:∀ a:PT,eqC ((Kd.int IntKind.i64).pair ((Kd.fp.pair Kd.fp).pair (Kd.fp.pair Kd.fp))) a a=true:=fun a=>(eqC_iff (e:=partK) a a).2 rfl
  rw[wrap_i64' (show -9223372036854775808<=(k:Int)+1 by omega) (by omega),hq]
  exact⟨⟨by omega,by omega⟩,hlt,⟨by omega,by omega⟩,hlt,fun hc=>absurd hc (by decide),fun _=>tvi ⟨⟨k+1,hlt,rfl⟩,by omega⟩⟩
 rintro⟨⟩ _
 refine tr_cut hsp mixed 3 (jsG xs m p s e (0,0,0)) True ?_ (fun _=>?_)
 ·refine vcx (X:=((jsG xs m p s e ((0:Int),(0:Int),(0:Int))).triv True)) (by kernel_rfl) ?_
  exact tvi trivial
 refine tr_whileT noSw (fun σ=>(rdS iK 16 σ,rdS iK 17 σ,rdS iK 84 σ)) (jsG xs m p s e) (jsJ3 xs) (fun g=>xs.length-g.2.2.toNat)
  (fun σ=>(rdS iK 16 σ,rdS iK 17 σ)) (jsO xs m p s e) (fun g=>Fnd xs xs.length g.1 g.2) (0,0,0) (c:=nthC (codeOf Tryz.f4) 16) (by kernel_rfl) (by kernel_rfl) (le_of_proj (by kernel_rfl) (by kernel_rfl) ?_) ?_ ?_
 ·exact⟨0,Nat.zero_le _,rfl,Fnd.nil xs 0⟩
 ·rintro⟨l,wn,i⟩ hj
  revert l wn i
  intro (l:Int) (wn:Int) (i:Int) ⟨k,hk,ei,hF⟩
  have ei:i=(k:Int):=ei
  subst ei
  have hF:Fnd xs k l wn:=hF
  refine tr_cut hsp mixed 2 (jsG xs m p s e (l,wn,(k:Int))) (k<xs.length) ?_ (fun hlt=>?_)
  ·refine vcx (X:=((decide ((↑k:Int)<(↑xs.length:Int))=true->(jsG xs m p s e (l,wn,(↑k:Int))).triv (k<xs.length))/\(decide ((↑k:Int)<(↑xs.length:Int))=false->(jsO xs m p s e (l,wn)).triv (Fnd xs xs.length l wn)))) (by kernel_rfl) ?_
   refine⟨fun h=>tvi (by have:=of_decide_eq_true h;omega),fun h=>tvi ?_⟩
   have hk2:k=xs.length:=by have:=of_decide_eq_false h;omega
   rw[hk2] at hF
   exact hF
  refine tr_block (c:=nthC (loopOf (nthC (codeOf Tryz.f4) 16)) 2) (by kernel_rfl) (by kernel_rfl) ?_
  refine tr_cutF hsp mixed 5 (fun σ=>rdS iK 19 σ) (fun b=>jsH xs m p s e k l wn (0,b)) (fun b=>b=bdF xs k 0) ?_ ?_
  ·refine vcx (X:=(((0:Int)<=(↑k:Int)/\(↑k:Int)<(↑xs.length:Int))/\(↑k:Int).toNat<xs.length/\(decide (xs.getD (↑k:Int).toNat (0:Int)<(1:Int))=true->(jsH xs m p s e k l wn ((0:Int),(34:Int))).triv ((34:Int)=bdF xs k (0:Nat)))/\(decide (xs.getD (↑k:Int).toNat (0:Int)<(1:Int))=false->((0:Int)<=(↑k:Int)/\(↑k:Int)<(↑xs.length:Int))/\(↑k:Int).toNat<xs.length/\(decide (xs.getD (↑k:Int).toNat (0:Int)>(9:Int))=true->(jsH xs m p s e k l wn ((0:Int),(34:Int))).triv ((34:Int)=bdF xs k (0:Nat)))/\(decide (xs.getD (↑k:Int).toNat (0:Int)>(9:Int))=false->(jsH xs m p s e k l wn ((0:Int),(0:Int))).triv ((0:Int)=bdF xs k (0:Nat)))))) (by kernel_rfl) ?_
   rw[Int.toNat_natCast,bd_zero]
   generalize xs.getD k 0=x
   refine⟨⟨by omega,by omega⟩,hlt,fun h=>tvi ?_,fun h=>⟨⟨by omega,by omega⟩,hlt,fun h2=>tvi ?_,fun h2=>tvi ?_⟩⟩
   ·rw[if_pos (mem_lo (of_decide_eq_true h))]
   ·rw[if_pos (mem_hi (of_decide_eq_true h2))]
   ·rw[if_neg (by rw[mem_in (of_decide_eq_false h) (of_decide_eq_false h2)];decide)]
  intro (b:Int) (hb:b=bdF xs k 0)
  refine tr_while hsp mixed noSw (fun σ=>(rdS iK 20 σ,rdS iK 19 σ)) (jsH xs m p s e k l wn) (jsJ4 xs k) (fun g=>k-g.1.toNat)
   (fun σ=>rdS iK 19 σ) (jsI xs m p s e k l wn) (fun b=>b=wr xs k) (0,b) (c:=nthC (bodyOf (nthC (loopOf (nthC (codeOf Tryz.f4) 16)) 2)) 5) (by kernel_rfl) (by kernel_rfl) (le_of_proj (by kernel_rfl) (by kernel_rfl) ?_) ?_ ?_
  ·exact⟨0,Nat.zero_le _,rfl,hb⟩
  ·rintro⟨j,b⟩ hj
   revert j b
   intro (j:Int) (b:Int) ⟨t,ht,ej,eb⟩
   have ej:j=(t:Int):=ej
   subst ej
   have eb:b=bdF xs k t:=eb
   refine vcx (X:=((decide ((↑t:Int)<(↑k:Int))=true->((0:Int)<=(↑t:Int)/\(↑t:Int)<(↑xs.length:Int))/\(↑t:Int).toNat<xs.length/\((0:Int)<=(↑k:Int)/\(↑k:Int)<(↑xs.length:Int))/\(↑k:Int).toNat<xs.length/\((xs.getD (↑t:Int).toNat (0:Int)==xs.getD (↑k:Int).toNat (0:Int))=true->((b==(0:Int))=true->(jsH xs m p s e k l wn (IntKind.i64.wrap ((↑t:Int)+(1:Int)),(33:Int))).triv (jsJ4 xs k (IntKind.i64.wrap ((↑t:Int)+(1:Int)),(33:Int))/\k-(IntKind.i64.wrap ((↑t:Int)+(1:Int))).toNat<k-(↑t:Int).toNat))/\((b==(0:Int))=false->(jsH xs m p s e k l wn (IntKind.i64.wrap ((↑t:Int)+(1:Int)),b)).triv (jsJ4 xs k (IntKind.i64.wrap ((↑t:Int)+(1:Int)),b)/\k-(IntKind.i64.wrap ((↑t:Int)+(1:Int))).toNat<k-(↑t:Int).toNat)))/\((xs.getD (↑t:Int).toNat (0:Int)==xs.getD (↑k:Int).toNat (0:Int))=false->(jsH xs m p s e k l wn (IntKind.i64.wrap ((↑t:Int)+(1:Int)),b)).triv (jsJ4 xs k (IntKind.i64.wrap ((↑t:Int)+(1:Int)),b)/\k-(IntKind.i64.wrap ((↑t:Int)+(1:Int))).toNat<k-(↑t:Int).toNat)))/\(decide ((↑t:Int)<(↑k:Int))=false->(jsI xs m p s e k l wn b).triv (b=wr xs k)))) (by kernel_rfl) ?_
   rw[Int.toNat_natCast,Int.toNat_natCast]
   refine⟨fun h=>?_,fun h=>tvi ?_⟩
   ·have hlt2:t<k:=by have:=of_decide_eq_true h;omega
    have hs:=bd_succ (xs:=xs) (k:=k) (t:=t) (by omega)
    rw[<- eb] at hs
    rw[wrap_i64' (show -9223372036854775808<=(t:Int)+1 by omega) (by omega)]
    have hmu:k-((t:Int)+1).toNat<k-t:=by omega
    refine⟨⟨by omega,by omega⟩,by omega,⟨by omega,by omega⟩,hlt,fun h2=>⟨fun h3=>tvi ⟨⟨t+1,hlt2,rfl,?_⟩,hmu⟩,fun h3=>tvi ⟨⟨t+1,hlt2,rfl,?_⟩,hmu⟩⟩,fun h2=>tvi ⟨⟨t+1,hlt2,rfl,?_⟩,hmu⟩⟩
    ·rw[if_pos ⟨eq_of_beq h2,eq_of_beq h3⟩] at hs
     exact hs.symm
    ·rw[if_neg (fun h=>by rw[h.2] at h3;cases h3)] at hs
     exact hs.symm
    ·rw[if_neg (fun h=>by rw[h.1,beq_self_eq_true] at h2;cases h2)] at hs
     exact hs.symm
   ·have:t=k:=by have:=of_decide_eq_false h;omega
    rw[eb,this];rfl
  intro (b:Int) (hb:b=wr xs k)
  refine tr_cutF hsp mixed 2 (fun σ=>(rdS iK 16 σ,rdS iK 17 σ)) (fun g=>jsG xs m p s e (g.1,g.2,(k:Int))) (fun g=>Fnd xs (k+1) g.1 g.2) ?_ ?_
  ·refine vcx (X:=(((b != (0:Int))=true->((wn==(0:Int))=true->((0:Int)<=(↑k:Int)/\(↑k:Int)<(↑xs.length:Int))/\(↑k:Int).toNat<xs.length/\(jsG xs m p s e ((xs.getD (↑k:Int).toNat (0:Int),b).fst,(xs.getD (↑k:Int).toNat (0:Int),b).snd,(↑k:Int))).triv (Fnd xs (k+(1:Nat)) (xs.getD (↑k:Int).toNat (0:Int)) b))/\((wn==(0:Int))=false->((0:Int)<=(↑k:Int)/\(↑k:Int)<(↑xs.length:Int))/\(↑k:Int).toNat<xs.length/\(decide (xs.getD (↑k:Int).toNat (0:Int)<l)=true->((0:Int)<=(↑k:Int)/\(↑k:Int)<(↑xs.length:Int))/\(↑k:Int).toNat<xs.length/\(jsG xs m p s e ((xs.getD (↑k:Int).toNat (0:Int),b).fst,(xs.getD (↑k:Int).toNat (0:Int),b).snd,(↑k:Int))).triv (Fnd xs (k+(1:Nat)) (xs.getD (↑k:Int).toNat (0:Int)) b))/\(decide (xs.getD (↑k:Int).toNat (0:Int)<l)=false->(jsG xs m p s e ((l,wn).fst,(l,wn).snd,(↑k:Int))).triv (Fnd xs (k+(1:Nat)) l wn))))/\((b != (0:Int))=false->(jsG xs m p s e ((l,wn).fst,(l,wn).snd,(↑k:Int))).triv (Fnd xs (k+(1:Nat)) l wn)))) (by kernel_rfl) ?_
   rw[Int.toNat_natCast]
   refine⟨fun h=>?_,fun h=>tvi ?_⟩
   ·have hw:wr xs k≠0:=by rw[<- hb];simpa using h
    refine⟨fun h2=>⟨⟨by omega,by omega⟩,hlt,tvi ?_⟩,fun h2=>⟨⟨by omega,by omega⟩,hlt,fun h3=>⟨⟨by omega,by omega⟩,hlt,tvi ?_⟩,fun h3=>tvi ?_⟩⟩
    ·rw[hb];exact hF.take hw (.inl (eq_of_beq h2))
    ·rw[hb];exact hF.take hw (.inr (of_decide_eq_true h3))
    ·exact hF.keep (.inr ⟨(fun e=>by rw[e] at h2;cases h2),by have:=of_decide_eq_false h3;omega⟩)
   ·exact hF.keep (.inl (by rw[<- hb];simpa using h))
  rintro⟨l2,w2⟩ h2
  revert l2 w2
  intro (l2:Int) (w2:Int) (h2:Fnd xs (k+1) l2 w2)
  refine tr_nil ?_
  refine tr_vc hsp mixed _ _ ?_
  refine vcx (X:=((jsG xs m p s e (l2,w2,IntKind.i64.wrap ((↑k:Int)+(1:Int)))).triv (jsJ3 xs (l2,w2,IntKind.i64.wrap ((↑k:Int)+(1:Int)))/\xs.length-(IntKind.i64.wrap ((↑k:Int)+(1:Int))).toNat<xs.length-(↑k:Int).toNat))) (by kernel_rfl) ?_
  rw[wrap_i64' (show -9223372036854775808<=(k:Int)+1 by omega) (by omega)]
  exact tvi ⟨⟨k+1,hlt,rfl,h2⟩,by omega⟩
 rintro⟨l,wn⟩ hF
 revert l wn
 intro (l:Int) (wn:Int) (hF:Fnd xs xs.length l wn)
 refine tr_vc hsp mixed _ _ ?_
 refine vcx (X:=(((wn==(0:Int))=true->(decide ((↑xs.length:Int)<(↑p.length:Int))=true->(((32:Int) != (0:Int))=true->((e==(32:Int))=true->(eqC ((Kd.fp.pair Kd.fp).pair (Kd.fp.pair Kd.fp)) s (((0:Fp),(0:Fp)),(0:Fp),(0:Fp)),())=(true,()))/\((e==(32:Int))=false->(false,())=(true,())))/\(((32:Int) != (0:Int))=false->((e==(0:Int))=true->preAt (p,(0:Int),())/\(∀ (g:Nat) (s:Sigma Car),shaG g=some s->Decidable.rec (fun h=>(fun x=>if g=(1:Nat) then some ⟨Kd.arr (64:Nat) uK,rootsL⟩ else none) h) (fun h=>(fun x=>some ⟨Kd.arr (8:Nat) uK,firstL⟩) h) (instDecidableEqNat g (0:Nat))=some s)/\prePt (m,())/\(eqC ((Kd.fp.pair Kd.fp).pair (Kd.fp.pair Kd.fp)) s (g2.gmul (bpt m) (pat p (0:Int))),())=(true,()))/\((e==(0:Int))=false->(false,())=(true,()))))/\(decide ((↑xs.length:Int)<(↑p.length:Int))=false->((wn != (0:Int))=true->((e==wn)=true->(eqC ((Kd.fp.pair Kd.fp).pair (Kd.fp.pair Kd.fp)) s (((0:Fp),(0:Fp)),(0:Fp),(0:Fp)),())=(true,()))/\((e==wn)=false->(false,())=(true,())))/\((wn != (0:Int))=false->((e==(0:Int))=true->preAt (p,(0:Int),())/\(∀ (g:Nat) (s:Sigma Car),shaG g=some s->Decidable.rec (fun h=>(fun x=>if g=(1:Nat) then some ⟨Kd.arr (64:Nat) uK,rootsL⟩ else none) h) (fun h=>(fun x=>some ⟨Kd.arr (8:Nat) uK,firstL⟩) h) (instDecidableEqNat g (0:Nat))=some s)/\prePt (m,())/\(eqC ((Kd.fp.pair Kd.fp).pair (Kd.fp.pair Kd.fp)) s (g2.gmul (bpt m) (pat p (0:Int))),())=(true,()))/\((e==(0:Int))=false->(false,())=(true,())))))/\((wn==(0:Int))=false->((wn != (0:Int))=true->((e==wn)=true->(eqC ((Kd.fp.pair Kd.fp).pair (Kd.fp.pair Kd.fp)) s (((0:Fp),(0:Fp)),(0:Fp),(0:Fp)),())=(true,()))/\((e==wn)=false->(false,())=(true,())))/\((wn != (0:Int))=false->((e==(0:Int))=true->preAt (p,(0:Int),())/\(∀ (g:Nat) (s:Sigma Car),shaG g=some s->Decidable.rec (fun h=>(fun x=>if g=(1:Nat) then some ⟨Kd.arr (64:Nat) uK,rootsL⟩ else none) h) (fun h=>(fun x=>some ⟨Kd.arr (8:Nat) uK,firstL⟩) h) (instDecidableEqNat g (0:Nat))=some s)/\prePt (m,())/\(eqC ((Kd.fp.pair Kd.fp).pair (Kd.fp.pair Kd.fp)) s (g2.gmul (bpt m) (pat p (0:Int))),())=(true,()))/\((e==(0:Int))=false->(false,())=(true,())))))) (by kernel_rfl) ?_
 have hjv:=jno_val (bpt_sub m) p xs hF.ans
 rw[<- ep,<- hse] at hjv
 have pa:preAt (p,0,()):=⟨by show p.length<_;omega,by decide,by decide⟩
 by_cases hw:wn=0
 ·subst hw
  rw[if_pos rfl] at hjv
  by_cases hl:xs.length<p.length
  ·rw[if_pos (.inr hl)] at hjv
   simp only[Prod.mk.injEq] at hjv
   obtain⟨es,ee,_⟩:=hjv
   rw[g2.eqP2,decide_eq_true es,ee]
   exact⟨fun _=>⟨fun _=>⟨fun _=>⟨fun _=>rfl,fun h=>absurd h (by decide)⟩,fun h=>absurd h (by decide)⟩,fun h=>absurd (of_decide_eq_false h) (by omega)⟩,fun h=>absurd h (by decide)⟩
  ·rw[if_neg (by omega)] at hjv
   simp only[Prod.mk.injEq] at hjv
   obtain⟨es,ee,_⟩:=hjv
   rw[g2.eqP2 s (g2.gmul _ _),decide_eq_true es,ee]
   exact⟨fun _=>⟨fun h=>absurd (of_decide_eq_true h) (by omega),fun _=>⟨fun h=>absurd h (by decide),fun _=>⟨fun _=>⟨pa,fun _ _ h=>h,pm,rfl⟩,fun h=>absurd h (by decide)⟩⟩⟩,fun h=>absurd h (by decide)⟩
 ·rw[if_neg hw] at hjv
  simp only[Prod.mk.injEq] at hjv
  obtain⟨es,ee,_⟩:=hjv
  rw[g2.eqP2,decide_eq_true es,ee]
  exact⟨fun h=>absurd (eq_of_beq h) hw,fun _=>⟨fun _=>⟨fun _=>rfl,fun h=>by rw[beq_self_eq_true] at h;cases h⟩,fun h=>absurd (by simpa using h) hw⟩⟩
end
end Go.Proofs.YtbeeaekepmnfhaaGreatDoor.law15
namespace Go.Eng
open Go Go.RowKit Cr Go.ChangeShapes Go.WideShapes Go.ChangeAt
theorem laid_ints {P:Program} {t e:TypeId} {n:Nat} {k:IntKind} {H:Type} {enc:TypeId × Value->H} {W:World} {fl:Bool} {fuel:Nat} {cs:List Value} {p:List MemPlace} {xs:List Int} (ht:P.underlying t=some (.array n e)) (he:P.underlying e=some (.int k)) (hce:P.cellsOf e=1) (hct:P.cellsOf t=n)
  (h:DataW.trod enc P W 0 (fun _=>true) fl fuel t cs=some (.agg (xs.map fun x=>.lit (.int k x)),p)):cs=xs.map (Value.int k):=by
 obtain⟨ys,m,rfl,hx,hlen,hn,hel⟩:=DataW.trod_array ht h
 simp only[Prod.mk.injEq,DataW.agg.injEq] at hx
 obtain⟨hx,_⟩:=hx
 have hxl:xs.length=n:=by
  have:=congrArg List.length hx
  simpa[hn] using this
 refine List.ext_getElem (by rw[hlen,hct,List.length_map,hxl]) fun i h1 h2=>?_
 have hin:i<n:=by rw[hlen,hct] at h1;exact h1
 have h3:=hel i hin
 rw[hce,Nat.mul_one,List.getElem?_eq_getElem (by omega)] at h3
 obtain⟨z,e1,e2,_⟩:=DataW.trod_int he h3
 have e3:(cs.drop i).take 1=[cs[i]]:=by rw[List.drop_eq_getElem_cons h1];rfl
 rw[e3] at e1
 simp only[List.cons.injEq,and_true] at e1
 have h4:(xs.map fun x=>(DataW.lit (.int k x):DataW H))[i]?=(ys.map (·.1))[i]?:=by rw[hx]
 rw[List.getElem?_map,List.getElem?_map,List.getElem?_eq_getElem (by omega),List.getElem?_eq_getElem (by omega)] at h4
 simp only[Option.map_some,Option.some.injEq] at h4
 rw[e2] at h4
 simp only[DataW.lit.injEq,Lit.int.injEq,true_and] at h4
 rw[e1,List.getElem_map,h4]
theorem laid_row {P:Program} {W:World} {nm:String} {g n:Nat} {k:IntKind} {cs:Array Value} {xs:List Int} (hg:P.globalNamed nm=some g) (hv:W.var? P nm=some cs) (hcs:cs.toList=xs.map (Value.int k)) (hx:xs.length=n):RowAt (Rd (memOf W) (.arr n (.int k))) (width (.arr n (.int k))) (memOf W) g 0 [xs]:=by
 have hh:∃ el fr,W.heap[g]?=some (.cells cs el fr):=by
  simp only[World.var?,hg,Option.bind_some] at hv
  split at hv
  ·rename_i c el fr hh
   simp only[Option.some.injEq] at hv
   subst hv
   exact⟨el,fr,hh⟩
  ·cases hv
 obtain⟨el,fr,hh⟩:=hh
 obtain⟨l⟩:=cs
 have hcs:l=xs.map (Value.int k):=hcs
 refine⟨l,memOf_blk hh,?_,?_⟩
 ·simp[width,hcs,hx]
 ·rw[List.drop_zero,List.take_of_length_le (by simp[width,hcs,hx])]
  exact RdL_one ⟨hx,RdL_int.2 hcs⟩
theorem law_rowG {C:Checked} {f:FuncId} {fn:Func} {s:ChangeSpec} {bt:TypeId} {ts:List TypeId} {ks:List Kd} {pre pre':HL ks->Prop} {H:Type} {enc:TypeId × Value->H} {G:Glob}
  (he:enters C.prog f fn) (hf:FnOk C.prog f ks [.val .bool] G pre (fun _=>(true,()))) (hl:laidOutB C.prog=true) (hts:fn.params.toList=ts) (hrs:fn.resultTypes=#[bt]) (hbt:C.prog.underlying bt=some .bool)
  (ho:OpnL C.prog ts ks pre') (hpre:∀ xs,pre' xs->pre xs) (hv:s.vars=[]) (hs:∀ ds:List (DataW H),ds.length=ts.length->s.fn H ds={ results:=[.lit (.bool true)],args:=ds })
  (W:World) (hG:GlOk G (memOf W)) (base:Nat) (args:Array Value) (ds gs:List (DataW H)) (before:List MemPlace)
  (hok:∀ (j:Nat) t v,fn.params[j]?=some t->args[j]?=some v->Value.okWide C.prog W .any base t v)
  (hW:DataW.Whole enc C.prog fn.params.toList s.vars false W args.toList ds gs before)
  (hsz:(DataW.weightsEach C.prog (fn.params.toList++s.plain.varTypes C.prog) (ds++gs)).all (· <= reachBytes)=true) :
  Calls C.prog f args W fun e W'=>∃ v,e=.returned v/\s.post enc C.prog fn false true false false W args v W':=by
 have hW':=hW
 have hlt:∀ x∈before,x.block<W.heap.size:=fun x hx=>by simpa using hW'.lt x hx
 obtain⟨p,q,hA,hV,rfl,hfz,hnd⟩:=hW
 rw[hv] at hV
 obtain⟨rfl,rfl⟩:=trodVars_none hV
 rw[hts] at hA
 have hlen:ds.length=ts.length:=by
  exact trodAll_len hA
 have hwt:∀ n∈DataW.weightsEach C.prog ts ds,n<=reachBytes:=by
  intro n hn
  have e:s.plain.varTypes C.prog=[]:=by simp[DataSpec.varTypes,ChangeSpec.plain,hv]
  rw[e,hts,List.append_nil,List.append_nil,List.all_eq_true] at hsz
  simpa using hsz n hn
 obtain⟨xs,hin,hp⟩:=opnL_open ho (enc:=enc) (W:=W) (base:=base) (vs:=args.toList) (ds:=ds) (p:=p) (fun j t v ht hj=>hok j t v (by rw[<- hts] at ht;simpa using ht) (by simpa using hj)) hA hwt
 have hc:=hf W (memOf W) args.toList xs (fun b l h=>h) hG hin (hpre xs hp)
 refine (callOk_calls he hc).mono ?_
 rintro e W' ⟨v,rfl,vs,ob,rfl,⟨v,vs',rfl,hv1,rfl⟩,hb⟩
 have hv1:v=.bool true:=by have h:[v]=[Value.bool true]:=hv1;simpa using h
 subst hv1
 refine⟨_,rfl,ds,[],p++[],[],p,[],hW',?_,?_,?_,?_,fun h=>by cases h⟩
 ·rw[hrs,List.append_nil,hs ds hlen]
  exact trodAll_mk1 (shut_bool hbt true)
 ·rw[hts,List.append_nil,hs ds hlen]
  exact opnL_stays hl ho hb hA (fun x hx=>hlt x (by simpa using hx))
 ·rw[hv,List.append_nil,hs ds hlen]
  rfl
 ·exact hb.frame _
end Go.Eng
namespace Go.Proofs.YtbeeaekepmnfhaaGreatDoor.sha
open Go Go.Eng Go.RowKit Cr
abbrev shaLaid : List (String × DataW Unit) := [("cresset/sha.first", Rows.laid_cresset_sha_first), ("cresset/sha.roots", Rows.laid_cresset_sha_roots)]
theorem gFirst : Tryz.prog.globalNamed "cresset/sha.first" = some 0 := by kernel_rfl
theorem gRoots : Tryz.prog.globalNamed "cresset/sha.roots" = some 1 := by kernel_rfl
theorem tFirst:(Tryz.prog.globals[0]?).map (·.type)=some 213:=by kernel_rfl
theorem tRoots:(Tryz.prog.globals[1]?).map (·.type)=some 261:=by kernel_rfl
theorem sha_glob {W:World} (h:laidMetH Tryz.prog shaLaid W):GlOk shaG (memOf W):=by
 rw[MakeChecks.laidMetH_plain _ _ _ (by kernel_rfl)] at h
 obtain⟨ps,⟨g0,t0,cs0,f0,p0,q0,hg0,ht0,hv0,hd0,⟨g1,t1,cs1,f1,p1,q1,hg1,ht1,hv1,hd1,_,_⟩,_⟩,_,_⟩:=h
 obtain rfl:=Option.some.inj (gFirst.symm.trans hg0)
 obtain rfl:=Option.some.inj (gRoots.symm.trans hg1)
 obtain rfl:=Option.some.inj (tFirst.symm.trans ht0)
 obtain rfl:=Option.some.inj (tRoots.symm.trans ht1)
 have e0:(Rows.laid_cresset_sha_first:DataW Unit)=.agg (firstL.map fun x=>.lit (.int .u32 x)):=rfl
 have e1:(Rows.laid_cresset_sha_roots:DataW Unit)=.agg (rootsL.map fun x=>.lit (.int .u32 x)):=rfl
 rw[e0] at hd0
 rw[e1] at hd1
 have c0:=laid_ints (e:=191) (n:=8) (k:=.u32) (by kernel_rfl) (by kernel_rfl) (by kernel_rfl) (by kernel_rfl) hd0
 have c1:=laid_ints (e:=191) (n:=64) (k:=.u32) (by kernel_rfl) (by kernel_rfl) (by kernel_rfl) (by kernel_rfl) hd1
 have r0:=laid_row hg0 hv0 c0 (n:=8) rfl
 have r1:=laid_row hg1 hv1 c1 (n:=64) rfl
 intro g e x hx
 unfold shaG at hx
 split at hx
 ·rename_i hg
  subst hg
  simp only[Option.some.injEq] at hx
  cases hx
  exact r0
 ·split at hx
  ·rename_i hg
   subst hg
   simp only[Option.some.injEq] at hx
   cases hx
   exact r1
  ·cases hx
theorem door_met (os:Os) (args:Array Value):laidMetH Tryz.prog shaLaid ((World.doorLaid Tryz.prog 400 os).forCall (fun _ _=>0) ⟨#[],args,[]⟩).memory :=
 laidMetH_of_parts3 (fuel:=8) (laidMet_of_run' 8 (by kernel_rfl) (by kernel_rfl)) (by kernel_rfl) (by kernel_rfl)
end Go.Proofs.YtbeeaekepmnfhaaGreatDoor.sha
namespace Go.Proofs.YtbeeaekepmnfhaaGreatDoor
open Go Go.Eng Go.RowKit Cr Go.ChangeShapes Go.WideShapes Go.ChangeAt
namespace partJoins
theorem own:ownKnob Tryz.prog.godebug=none:=by kernel_rfl
theorem laidOut:laidOutB Tryz.prog=true:=by kernel_rfl
abbrev wtB:Car bsl->Prop:=fun ys=>List.length ys*Tryz.prog.bytesOf 5<=reachBytes/\∀ y∈ys,(Lit.int .u8 y).wf=true
theorem cB:OpnC Tryz.prog 38 bsl wtB:=opnC_slice (e:=5) (by kernel_rfl) (by kernel_rfl) (by decide) (opnC_int (by kernel_rfl))
abbrev wtBB:Car (.sl bsl)->Prop:=fun ys=>List.length ys*Tryz.prog.bytesOf 38<=reachBytes/\∀ y∈ys,wtB y
theorem oBB:OpnV Tryz.prog 41 (.sl bsl) wtBB:=opnV_slice (e:=38) (by kernel_rfl) (by kernel_rfl) (by decide) cB
theorem bytes5:Tryz.prog.bytesOf 5=1:=by kernel_rfl
theorem bytes33:Tryz.prog.bytesOf 38=24:=by kernel_rfl
theorem pB {xs:List Int} (h:wtB xs):preB xs:=by
 obtain⟨h1,h2⟩:=h
 rw[bytes5] at h1
 refine⟨fun x hx=>?_,?_⟩
 ·have:=h2 x hx
  simp[Lit.wf,IntKind.min,IntKind.max,IntKind.signed,IntKind.bits] at this
  omega
 ·show List.length xs<=_
  simp only[reachBytes] at h1
  omega
theorem pBB {xs:List (List Int)} (h:wtBB xs):preBB xs:=by
 obtain⟨h1,h2⟩:=h
 rw[bytes33] at h1
 refine⟨fun x hx=>pB (h2 x hx),?_⟩
 show List.length xs<=_
 simp only[reachBytes] at h1
 omega
abbrev wtIS:Car (.sl (.int .i64))->Prop:=fun ys=>List.length ys*Tryz.prog.bytesOf 3<=reachBytes/\∀ y∈ys,(Lit.int .i64 y).wf=true
theorem oIS:OpnV Tryz.prog 42 (.sl (.int .i64)) wtIS:=opnV_slice (e:=3) (by kernel_rfl) (by kernel_rfl) (by decide) (opnC_int (by kernel_rfl))
theorem bytes3:Tryz.prog.bytesOf 3=8:=by kernel_rfl
theorem pIS {xs:List Int} (h:wtIS xs):preIS xs:=by
 obtain⟨h1,h2⟩:=h
 rw[bytes3] at h1
 refine⟨fun x hx=>?_,?_⟩
 ·have:=h2 x hx
  simp[Lit.wf,IntKind.min,IntKind.max,IntKind.signed,IntKind.bits] at this
  exact⟨by omega,by omega⟩
 ·show List.length xs<=_
  simp only[reachBytes] at h1
  omega
theorem oB:OpnV Tryz.prog 38 bsl wtB:=opnV_slice (e:=5) (by kernel_rfl) (by kernel_rfl) (by decide) (opnC_int (by kernel_rfl))
theorem opened:OpnL Tryz.prog [41,42,38] [.sl bsl,.sl (.int .i64),bsl] (fun x=>wtBB x.1/\wtIS x.2.1/\wtB x.2.2.1/\True) :=
 .cons oBB (by kernel_rfl) (of_decide_eq_true (by kernel_rfl)) (.cons oIS (by kernel_rfl) (of_decide_eq_true (by kernel_rfl)) (.cons oB (by kernel_rfl) (of_decide_eq_true (by kernel_rfl)) .nil))
theorem lifted (os:Os) (started:os.Started) (H:Type) (enc:TypeId × Value->H) :
  ReturnsInHanded {} Tryz.checked os 4 .any (fun w args=>(Rows.partJoinsSpec.pre enc Tryz.prog Tryz.f4 Rows.partJoinsRow.domain false w args/\laidMetH Tryz.prog sha.shaLaid w)/\sizedMet enc Tryz.prog Tryz.f4 (OpenSpec.ofChange Rows.partJoinsSpec) false w args) (Rows.partJoinsSpec.post enc Tryz.prog Tryz.f4 false true false false):=by
 refine returnsInHanded_of_change_and (C:=Tryz.checked) (X:=fun w _=>laidMetH Tryz.prog sha.shaLaid w) (fun _ _ _ hh h=>h.of_heap hh) own started (by kernel_rfl) Tryz.func4
  (ChangeSpec.witness_shaped (enc:=enc) (C:=Tryz.checked) (os:=os) (X:=fun w _=>laidMetH Tryz.prog sha.shaLaid w) false (World.doorLaid Tryz.prog 400 os) #[.slice none 0 0,.slice none 0 0,.slice none 0 0] 8 rfl (World.shaped_of_RefB (by kernel_rfl) (by kernel_rfl)) (by kernel_rfl) (by kernel_rfl) (by kernel_rfl) (sha.door_met os _)) ?_
 intro W base args ds gs before hval hW _ hsz hL _
 refine law_rowG (C:=Tryz.checked) (bt:=4) (ts:=[41,42,38]) law15.ent_joins law15.fn_joins laidOut (by kernel_rfl) (by kernel_rfl) (by kernel_rfl) opened ?_ rfl ?_ W (sha.sha_glob hL) base args ds gs before hval hW hsz
 ·rintro⟨x0,x1,x2,⟨⟩⟩ ⟨h0,h1,h2,_⟩
  exact⟨pBB h0,pIS h1,pB h2⟩
 ·intro ds hl
  match ds,hl with
  | [d0,d1,d2],_=>rfl
theorem row:Rows.PartJoinsSaid :=
 OpenClaim.holds_of_wide 4 Tryz.f4 rfl rfl rfl rfl rfl rfl rfl ⟨rfl,rfl,rfl,rfl,rfl⟩ rfl rfl rfl rfl rfl (by kernel_rfl) Tryz.func4 (by kernel_rfl)
  (of_decide_eq_true (by kernel_rfl)) (by unfold Func.isWrapper;first|(rw[if_pos (by decide +kernel)];kernel_rfl)|(rw[if_neg (by decide +kernel)];exact⟨rfl,rfl⟩))
  (fun os started H enc _=>lifted os started H enc)
theorem wants:(Tryz.f4.params.toList.all fun u => !Tryz.prog.wantsStandIn u)=true:=by kernel_rfl
theorem proved:Rows.PartJoinsCardSaid :=
 Claim7.holds_tied_plain_at .later [] [.data, .data] true (true, "cf2e951b99f3f2b23b04da4c4894839ac980a495d785b014e0b6a3403a28d2a0") false
  row (fun _ h=>by cases h) (by kernel_rfl) (fun _ h=>by cases h) partJoins_row_tie rfl ⟨rfl,rfl⟩ (by kernel_rfl) rfl
  (fun f fn hf hfn=>by
   obtain rfl : f = 4 := Option.some.inj ((show Tryz.prog.funcNamed "cresset/cressetlaw15.PartJoins" = some 4 by kernel_rfl).symm.trans hf) |>.symm
   obtain rfl:fn=Tryz.f4:=(Option.some.inj (Tryz.func4.symm.trans hfn)).symm
   exact⟨by kernel_rfl,fun j t ht=>by
    have hm:t∈Tryz.f4.params.toList:=by simpa using Array.mem_of_getElem? ht
    exact (show Tryz.prog.wantsStandIn t=false by simpa using List.all_eq_true.1 wants t hm)⟩)
  (by kernel_rfl)
#print axioms proved
end partJoins
end Go.Proofs.YtbeeaekepmnfhaaGreatDoor
