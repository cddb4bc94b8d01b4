/- PartChecks, for every input: true; the input reads as it did. No condition. -/
import Derived.LaidLaws
import Derived.LaidHandle
import Derived.LaidMore
import Derived.MakeChecks
import Derived.OpenShut
import Derived.Test.YtbeeaekepmnfhaaGreatDoorRows
import Derived.Test.YtbeeaekepmnfhaaGreatDoorCards
import Derived.Test.YtbeeaekepmnfhaaGreatDoorTie
import Derived.ProofKit
import Derived.Stop.Joined
import Derived.SevenTiedAt
import Derived.Test.YtbeeaekepmnfhaaGreatDoorML15cPAB
set_option maxRecDepth 100000
namespace Go.Proofs.YtbeeaekepmnfhaaGreatDoor.xmd
noncomputable section
open Go Go.Eng Go.RowKit Cr sha
abbrev f2:Kd:=fp2.f2
def spExF:Nat × Eng.Spec:=(152,fnSpecG shaG [bsl,bsl,.int .i64] [.val (.sl bK),.val (.int .i64)] preEx (fun (m,t,n,_)=>((exA m t n).1,(exA m t n).2,())))
theorem fn_exF:FnOk Tryz.prog 152 [bsl,bsl,.int .i64] [.val (.sl bK),.val (.int .i64)] shaG preEx (fun (m,t,n,_)=>((exA m t n).1,(exA m t n).2,())):=fn_expand.frz2
def nuA (m t:List Int) (n:Int):List F2 × Int:=match decide (n<0)||decide (n>63) with
 | true=>([],1)
 | false=>(nums m t n.toNat,0)
theorem ent_numbers:enters Tryz.prog 107 Tryz.f107:=ek
theorem dig_Bs (L:List Int):Bs (dig L):=by
 rw[dig,opq_eq,digF,outB]
 intro x hx
 obtain⟨i,_,rfl⟩:=List.mem_map.1 hx
 generalize (Int.fdiv _ _)=y
 simp[IntKind.wrap,IntKind.signed,IntKind.bits]
 omega
theorem exK_Bs (f t:List Int):∀ i,Bs (exK f t i).1
 | 0=>fun x hx=>by cases hx
 | i+1=>by
  show Bs ((exK f t i).1++nxD f t i (exK f t i).2)
  intro x hx
  rcases List.mem_append.1 hx with h|h
  ·exact exK_Bs f t i x h
  ·exact dig_Bs _ x h
theorem expo_Bs (m t:List Int) (n:Int):Bs (expo m t n):=by
 rw[expo,opq_eq,expF]
 intro x hx
 exact exK_Bs _ _ _ x (List.mem_of_mem_take hx)
theorem cut_a (E:List Int) (k:Nat):List.take 64 (List.take 128 (List.drop (128*k) E))=List.take 64 (List.drop (128*k) E):=by
 rw[List.take_take];rfl
theorem cut_b (E:List Int) (k:Nat):List.take 64 (List.drop 64 (List.take 128 (List.drop (128*k) E)))=List.take 64 (List.drop (128*k+64) E):=by
 rw[List.drop_take,List.take_take,List.drop_drop];rfl
def nuL (E:List Int) (n k:Nat):List F2:=(List.range k).map (nmb E)++List.replicate (n-k) ((0:Fp),(0:Fp))
theorem nuL_step {E:List Int} {n k:Nat} (h:k<n):(nuL E n k).set k (nmb E k)=nuL E n (k+1):=by
 unfold nuL
 rw[List.set_append_right _ _ (by simp),List.range_succ]
 have e:n-k=(n-(k+1))+1:=by omega
 have e2:k-((List.range k).map (nmb E)).length=0:=by simp
 rw[e2,e,List.replicate_succ,List.set_cons_zero,List.map_append,List.append_assoc]
 simp
def nuI (E:List Int) (n:Int) (g:Int × List F2):St:=mkSt Tryz.f107.ntmps 208 [(8,.is (.one (.ro bK E))),(10,.is (.one (.sl 168 0 0 n.toNat 12))),(33,sI .i64 n.toNat),(34,sI .i64 g.1)] [(168,[.row f2 n.toNat g.2])]
theorem fn_numbers:FnOk Tryz.prog 107 [bsl,bsl,.int .i64] [.own f2,.val (.int .i64)] shaG preEx (fun (m,t,n,_)=>((nuA m t n).1,(nuA m t n).2,())):=by
 have hsp:SpecsOk Tryz.prog (sps [spExF,fp.spWide]):=spk (fgk fn_exF) (spk (fok fp.fn_wide) snl)
 refine fn_of_tr (sp:=sps [spExF,fp.spWide]) ent_numbers (by decide) (by decide) (by kernel_rfl) ?_
 rintro w M0 ⟨m,t,n,⟨⟩⟩
 revert m t n
 intro (m:List Int) (t:List Int) (n:Int) hw hp
 have hm:m.length<=1048576:=hp.1
 have ht:t.length<=1048576:=hp.2
 show Tr _ _ _ _ _ _ _
 refine tr_cutF hsp mixed 8 (fun σ=>rdO bK 8 σ) (fun E=>nuI E n (0,List.replicate n.toNat ((0:Fp),(0:Fp)))) (fun E=>E=expo m t (128*n)/\0<=n/\n<=63) ?_ ?_
 ·refine vcx (X:=((decide (n<(0:Int))=true->([],(1:Int),())=((nuA m t n).fst,(nuA m t n).snd,()))/\(decide (n<(0:Int))=false->(decide (n>(63:Int))=true->([],(1:Int),())=((nuA m t n).fst,(nuA m t n).snd,()))/\(decide (n>(63:Int))=false->(∀ (g:Nat) (s:Sigma Car),shaG g=some s->Decidable.rec (fun h=>(fun x=>if g=(1:Nat) then some ⟨Kd.arr (64:Nat) uK,rootsL⟩ else none) h) (fun h=>(fun x=>some ⟨Kd.arr (8:Nat) uK,firstL⟩) h) (instDecidableEqNat g (0:Nat))=some s)/\preEx (m,t,IntKind.i64.wrap ((128:Int)*n),())/\(((exA m t (IntKind.i64.wrap ((128:Int)*n))).snd != (0:Int))=true->([],(exA m t (IntKind.i64.wrap ((128:Int)*n))).snd,())=((nuA m t n).fst,(nuA m t n).snd,()))/\(((exA m t (IntKind.i64.wrap ((128:Int)*n))).snd != (0:Int))=false->((0:Int)<=n/\n<=n/\(↑(96:Nat):Int)*n<=(281474976710656:Int)/\n<=(9223372036854775807:Int))/\(nuI ((exA m t (IntKind.i64.wrap ((128:Int)*n))).fst,(exA m t (IntKind.i64.wrap ((128:Int)*n))).snd,()).fst n ((0:Int),List.replicate n.toNat ((0:Fp),(0:Fp)))).triv ((exA m t (IntKind.i64.wrap ((128:Int)*n))).fst=expo m t ((128:Int)*n)/\(0:Int)<=n/\n<=(63:Int))))))) (by kernel_rfl) ?_
  refine⟨fun h=>by rw[nuA,h];rfl,fun h=>⟨fun h2=>by rw[nuA,h,h2];rfl,fun h2=>?_⟩⟩
  have hn0:0<=n:=by have:=of_decide_eq_false h;omega
  have hn1:n<=63:=by have:=of_decide_eq_false h2;omega
  have e1:IntKind.i64.wrap (128*n)=128*n:=wrap_i64' (by omega) (by omega)
  have eA:exA m t (128*n)=(expo m t (128*n),0):=by
   rw[exA,decide_eq_false (by omega),decide_eq_false (by omega)];rfl
  rw[e1,eA]
  exact⟨fun _ _ h=>h,⟨hm,ht⟩,fun h=>by simp at h,fun _=>⟨⟨hn0,Int.le_refl _,by omega,by omega⟩,tvi ⟨rfl,hn0,hn1⟩⟩⟩
 rintro E ⟨hE,hn0,hn1⟩
 revert E
 intro (E:List Int) (hE:E=expo m t (128*n))
 have hl:E.length=128*n.toNat:=by rw[hE,expo_len];omega
 refine tr_while hsp mixed noSw (fun σ=>(rdS (.int .i64) 34 σ,rdR f2 168 σ)) (nuI E n) (fun g=>∃ k:Nat,k<=n.toNat/\g.1=(k:Int)/\g.2=nuL E n.toNat k) (fun g=>n.toNat-g.1.toNat)
  (fun σ=>(rdS (.int .i64) 34 σ,rdR f2 168 σ)) (nuI E n) (fun g=>g.2=nums m t n.toNat) (0,List.replicate n.toNat ((0:Fp),(0:Fp))) (c:=nthC (codeOf Tryz.f107) 8) (by kernel_rfl) (by kernel_rfl) (le_of_proj (by kernel_rfl) (by kernel_rfl) ?_) ?_ ?_
 ·exact⟨0,Nat.zero_le _,rfl,by simp[nuL]⟩
 ·rintro⟨i,l⟩ hj
  revert i l
  intro (i:Int) (l:List F2) ⟨k,hk,ei,el⟩
  have ei:i=(k:Int):=ei
  have kl:l=nuL E n.toNat k:=el
  subst ei
  have e1:IntKind.i64.wrap (128*(k:Int))=((128*k:Nat):Int):=by rw[wrap_i64' (by omega) (by omega)];omega
  have e2:IntKind.i64.wrap ((k:Int)+1)=((k+1:Nat):Int):=wrap_succ (by omega)
  have e3:IntKind.i64.wrap (128*((k+1:Nat):Int))=((128*k+128:Nat):Int):=by rw[wrap_i64' (by omega) (by omega)];omega
  have e4:(((128*k+128:Nat):Int)-((128*k:Nat):Int)).toNat=128:=by omega
  refine vcx (X:=((decide ((↑k:Int)<(↑n.toNat:Int))=true->((0:Int)<=IntKind.i64.wrap ((128:Int)*(↑k:Int))/\IntKind.i64.wrap ((128:Int)*(↑k:Int))<=IntKind.i64.wrap ((128:Int)*IntKind.i64.wrap ((↑k:Int)+(1:Int)))/\IntKind.i64.wrap ((128:Int)*IntKind.i64.wrap ((↑k:Int)+(1:Int)))<=(↑E.length:Int))/\((0:Int)<=(64:Int)/\(64:Int)<=(↑(List.take (IntKind.i64.wrap ((128:Int)*IntKind.i64.wrap ((↑k:Int)+(1:Int)))-IntKind.i64.wrap ((128:Int)*(↑k:Int))).toNat (List.drop (IntKind.i64.wrap ((128:Int)*(↑k:Int))).toNat E)).length:Int))/\fp.preWide (List.take 64 (List.take (IntKind.i64.wrap ((128:Int)*IntKind.i64.wrap ((↑k:Int)+(1:Int)))-IntKind.i64.wrap ((128:Int)*(↑k:Int))).toNat (List.drop (IntKind.i64.wrap ((128:Int)*(↑k:Int))).toNat E)),())/\((0:Int)<=(64:Int)/\(64:Int)<=(↑(List.take (IntKind.i64.wrap ((128:Int)*IntKind.i64.wrap ((↑k:Int)+(1:Int)))-IntKind.i64.wrap ((128:Int)*(↑k:Int))).toNat (List.drop (IntKind.i64.wrap ((128:Int)*(↑k:Int))).toNat E)).length:Int))/\fp.preWide (List.take ((↑(List.take (IntKind.i64.wrap ((128:Int)*IntKind.i64.wrap ((↑k:Int)+(1:Int)))-IntKind.i64.wrap ((128:Int)*(↑k:Int))).toNat (List.drop (IntKind.i64.wrap ((128:Int)*(↑k:Int))).toNat E)).length:Int)-(64:Int)).toNat (List.drop (64:Nat) (List.take (IntKind.i64.wrap ((128:Int)*IntKind.i64.wrap ((↑k:Int)+(1:Int)))-IntKind.i64.wrap ((128:Int)*(↑k:Int))).toNat (List.drop (IntKind.i64.wrap ((128:Int)*(↑k:Int))).toNat E))),())/\((0:Int)<=(↑k:Int)/\(↑k:Int)<(↑n.toNat:Int))/\(↑k:Int).toNat<n.toNat/\(nuI E n (IntKind.i64.wrap ((↑k:Int)+(1:Int)),l.set (↑k:Int).toNat (zmp (num (List.take 64 (List.take (IntKind.i64.wrap ((128:Int)*IntKind.i64.wrap ((↑k:Int)+(1:Int)))-IntKind.i64.wrap ((128:Int)*(↑k:Int))).toNat (List.drop (IntKind.i64.wrap ((128:Int)*(↑k:Int))).toNat E)))),zmp (num (List.take ((↑(List.take (IntKind.i64.wrap ((128:Int)*IntKind.i64.wrap ((↑k:Int)+(1:Int)))-IntKind.i64.wrap ((128:Int)*(↑k:Int))).toNat (List.drop (IntKind.i64.wrap ((128:Int)*(↑k:Int))).toNat E)).length:Int)-(64:Int)).toNat (List.drop (64:Nat) (List.take (IntKind.i64.wrap ((128:Int)*IntKind.i64.wrap ((↑k:Int)+(1:Int)))-IntKind.i64.wrap ((128:Int)*(↑k:Int))).toNat (List.drop (IntKind.i64.wrap ((128:Int)*(↑k:Int))).toNat E)))))))).triv ((∃ k_1,k_1<=n.toNat/\IntKind.i64.wrap ((↑k:Int)+(1:Int))=(↑k_1:Int)/\l.set (↑k:Int).toNat (zmp (num (List.take 64 (List.take (IntKind.i64.wrap ((128:Int)*IntKind.i64.wrap ((↑k:Int)+(1:Int)))-IntKind.i64.wrap ((128:Int)*(↑k:Int))).toNat (List.drop (IntKind.i64.wrap ((128:Int)*(↑k:Int))).toNat E)))),zmp (num (List.take ((↑(List.take (IntKind.i64.wrap ((128:Int)*IntKind.i64.wrap ((↑k:Int)+(1:Int)))-IntKind.i64.wrap ((128:Int)*(↑k:Int))).toNat (List.drop (IntKind.i64.wrap ((128:Int)*(↑k:Int))).toNat E)).length:Int)-(64:Int)).toNat (List.drop (64:Nat) (List.take (IntKind.i64.wrap ((128:Int)*IntKind.i64.wrap ((↑k:Int)+(1:Int)))-IntKind.i64.wrap ((128:Int)*(↑k:Int))).toNat (List.drop (IntKind.i64.wrap ((128:Int)*(↑k:Int))).toNat E))))))=nuL E n.toNat k_1)/\n.toNat-(IntKind.i64.wrap ((↑k:Int)+(1:Int))).toNat<n.toNat-(↑k:Int).toNat))/\(decide ((↑k:Int)<(↑n.toNat:Int))=false->(nuI E n ((↑k:Int),l)).triv (l=nums m t n.toNat)))) (by kernel_rfl) ?_
  rw[e1,e2,e3,e4]
  simp only[Int.toNat_natCast]
  refine⟨fun h=>?_,fun h=>tvi ?_⟩
  ·have hlt:k<n.toNat:=by have:=of_decide_eq_true h;omega
   have lp:(List.take 128 (List.drop (128*k) E)).length=128:=by rw[List.length_take,List.length_drop];omega
   rw[lp]
   have e5:(((128:Nat):Int)-64).toNat=64:=rfl
   rw[e5,cut_a,cut_b]
   have hb:=expo_Bs m t (128*n)
   rw[<- hE] at hb
   have pw:∀ a:Nat,fp.preWide (List.take 64 (List.drop a E),()):=fun a=>⟨fun x hx=>hb x (List.mem_of_mem_drop (List.mem_of_mem_take hx)),by
    show (List.take 64 (List.drop a E)).length<_
    rw[List.length_take];omega⟩
   refine⟨⟨by omega,by omega,by omega⟩,⟨by decide,by decide⟩,pw _,⟨by decide,by decide⟩,pw _,⟨by omega,by omega⟩,hlt,tvi ⟨⟨k+1,hlt,rfl,?_⟩,?_⟩⟩
   ·show l.set k (nmb E k)=_
    rw[kl,nuL_step hlt]
   ·show n.toNat-((k+1:Nat):Int).toNat<n.toNat-(k:Int).toNat
    rw[Int.toNat_natCast,Int.toNat_natCast];omega
  ·have hk':k=n.toNat:=by have:=of_decide_eq_false h;omega
   show l=_
   rw[kl,hk',nuL,Nat.sub_self,List.replicate_zero,List.append_nil,nums,opq_eq,hE]
   have e6:128*(n.toNat:Int)=128*n:=by omega
   rw[e6]
 rintro⟨i,l⟩ hj
 revert i l
 intro (i:Int) (l:List F2) (hj:l=nums m t n.toNat)
 refine tr_vc hsp mixed _ _ ?_
 refine vcx (X:=((0:Nat)+n.toNat<=n.toNat/\(List.take n.toNat l,(0:Int),())=((nuA m t n).fst,(nuA m t n).snd,()))) (by kernel_rfl) ?_
 have eN:nuA m t n=(nums m t n.toNat,0):=by
  rw[nuA,decide_eq_false (by omega),decide_eq_false (by omega)];rfl
 rw[eN,hj,List.take_of_length_le (by rw[nums_len];exact Nat.le_refl _)]
 exact⟨by omega,rfl⟩
end
end Go.Proofs.YtbeeaekepmnfhaaGreatDoor.xmd
namespace Go.Proofs.YtbeeaekepmnfhaaGreatDoor.tower
noncomputable section
open Go Go.Eng Go.RowKit Cr fp2
abbrev f6k:Kd:=.pair f2 (.pair f2 f2)
abbrev f12k:Kd:=.pair f6k f6k
theorem ent_turn:enters Tryz.prog 212 Tryz.f212:=ek
abbrev outTurn:HL [f2]->HO [.val f2]:=fun (x,_)=>(xi*(x:F2),())
theorem fn_turn:FnOk Tryz.prog 212 [f2] [.val f2] noG (fun _=>True) outTurn:=by
 refine fn_of_vc (sp:=sps [fp.spSub,fp.spAdd]) (spk (fok fp.fn_sub) (spk (fok fp.fn_add) snl)) mixed ent_turn (by decide) (by decide) ?_
 rintro w M0 ⟨x,⟨⟩⟩
 revert x
 intro (x:F2) _ _
 refine vcx (X:=(True/\True/\((x.fst-x.snd,x.fst+x.snd),())=outTurn (x,()))) (by kernel_rfl) ?_
 repeat refine⟨trivial,?_⟩
 show _=(xi*x,())
 rw[xi_mul]
def spTurn:Nat × Eng.Spec:=(212,fnSpec [f2] [.val f2] (fun _=>True) outTurn)
theorem ent_cadd:enters Tryz.prog 205 Tryz.f205:=ek
abbrev outCadd:HL [f6k,f6k]->HO [.val f6k]:=fun (x,y,_)=>((x:F6)+(y:F6),())
theorem fn_cadd:FnOk Tryz.prog 205 [f6k,f6k] [.val f6k] noG (fun _=>True) outCadd:=by
 refine fn_of_vc (sp:=sps [fp2.spAdd]) (spk (fok fp2.fn_add) snl) mixed ent_cadd (by decide) (by decide) ?_
 rintro w M0 ⟨x,y,⟨⟩⟩
 revert x y
 intro (x:F6) (y:F6) _ _
 refine vcx (X:=(True/\True/\True/\((x.fst+y.fst,x.snd.fst+y.snd.fst,x.snd.snd+y.snd.snd),())=outCadd (x,y,()))) (by kernel_rfl) ?_
 repeat refine⟨trivial,?_⟩
 show _=(x+y,())
 rw[F6.add_def]
def spCadd:Nat × Eng.Spec:=(205,fnSpec [f6k,f6k] [.val f6k] (fun _=>True) outCadd)
theorem ent_csub:enters Tryz.prog 203 Tryz.f203:=ek
abbrev outCsub:HL [f6k,f6k]->HO [.val f6k]:=fun (x,y,_)=>((x:F6)-(y:F6),())
theorem fn_csub:FnOk Tryz.prog 203 [f6k,f6k] [.val f6k] noG (fun _=>True) outCsub:=by
 refine fn_of_vc (sp:=sps [fp2.spSub]) (spk (fok fp2.fn_sub) snl) mixed ent_csub (by decide) (by decide) ?_
 rintro w M0 ⟨x,y,⟨⟩⟩
 revert x y
 intro (x:F6) (y:F6) _ _
 refine vcx (X:=(True/\True/\True/\((x.fst-y.fst,x.snd.fst-y.snd.fst,x.snd.snd-y.snd.snd),())=outCsub (x,y,()))) (by kernel_rfl) ?_
 repeat refine⟨trivial,?_⟩
 show _=(x-y,())
 rw[F6.sub_def]
def spCsub:Nat × Eng.Spec:=(203,fnSpec [f6k,f6k] [.val f6k] (fun _=>True) outCsub)
theorem ent_shift:enters Tryz.prog 206 Tryz.f206:=ek
abbrev outShift:HL [f6k]->HO [.val f6k]:=fun (x,_)=>(vv*(x:F6),())
theorem fn_shift:FnOk Tryz.prog 206 [f6k] [.val f6k] noG (fun _=>True) outShift:=by
 refine fn_of_vc (sp:=sps [spTurn]) (spk (fok fn_turn) snl) mixed ent_shift (by decide) (by decide) ?_
 rintro w M0 ⟨x,⟨⟩⟩
 revert x
 intro (x:F6) _ _
 refine vcx (X:=(True/\((xi*x.snd.snd,x.fst,x.snd.fst),())=outShift (x,()))) (by kernel_rfl) ?_
 repeat refine⟨trivial,?_⟩
 show _=(vv*x,())
 rw[vv_mul]
def spShift:Nat × Eng.Spec:=(206,fnSpec [f6k] [.val f6k] (fun _=>True) outShift)
theorem ent_cmul:enters Tryz.prog 204 Tryz.f204:=ek
abbrev outCmul:HL [f6k,f6k]->HO [.val f6k]:=fun (x,y,_)=>((x:F6)*(y:F6),())
theorem fn_cmul:FnOk Tryz.prog 204 [f6k,f6k] [.val f6k] noG (fun _=>True) outCmul:=by
 refine fn_of_vc (sp:=sps [fp2.spMul,fp2.spAdd,fp2.spSub,spTurn]) (spk (fok fp2.fn_mul) (spk (fok fp2.fn_add) (spk (fok fp2.fn_sub) (spk (fok fn_turn) snl)))) mixed ent_cmul (by decide) (by decide) ?_
 rintro w M0 ⟨x,y,⟨⟩⟩
 revert x y
 intro (x:F6) (y:F6) _ _
 refine vcx (X:=(True/\True/\True/\True/\True/\True/\True/\True/\True/\True/\True/\True/\True/\True/\True/\True/\True/\True/\True/\True/\True/\True/\True/\((x.fst*y.fst+xi*((x.snd.fst+x.snd.snd)*(y.snd.fst+y.snd.snd)-x.snd.fst*y.snd.fst-x.snd.snd*y.snd.snd),(x.fst+x.snd.fst)*(y.fst+y.snd.fst)-x.fst*y.fst-x.snd.fst*y.snd.fst+xi*(x.snd.snd*y.snd.snd),(x.fst+x.snd.snd)*(y.fst+y.snd.snd)-x.fst*y.fst-x.snd.snd*y.snd.snd+x.snd.fst*y.snd.fst),())=outCmul (x,y,()))) (by kernel_rfl) ?_
 repeat refine⟨trivial,?_⟩
 exact congrArg (fun t:F6=>(t,())) (tw_mul x y)
def spCmul:Nat × Eng.Spec:=(204,fnSpec [f6k,f6k] [.val f6k] (fun _=>True) outCmul)
theorem ent_pair:enters Tryz.prog 209 Tryz.f209:=ek
abbrev outPair:HL [f6k,f2,f2]->HO [.val f6k]:=fun (x,a,b,_)=>((x:F6)*((a,b,(0:F2)):F6),())
theorem fn_pair:FnOk Tryz.prog 209 [f6k,f2,f2] [.val f6k] noG (fun _=>True) outPair:=by
 refine fn_of_vc (sp:=sps [fp2.spMul,fp2.spAdd,fp2.spSub,spTurn]) (spk (fok fp2.fn_mul) (spk (fok fp2.fn_add) (spk (fok fp2.fn_sub) (spk (fok fn_turn) snl)))) mixed ent_pair (by decide) (by decide) ?_
 rintro w M0 ⟨x,a,b,⟨⟩⟩
 revert x a b
 intro (x:F6) (a:F2) (b:F2) _ _
 refine vcx (X:=(True/\True/\True/\True/\True/\True/\True/\True/\True/\True/\True/\True/\((x.fst*a+xi*(x.snd.snd*b),(x.fst+x.snd.fst)*(a+b)-x.fst*a-x.snd.fst*b,x.snd.fst*b+x.snd.snd*a),())=outPair (x,a,b,()))) (by kernel_rfl) ?_
 repeat refine⟨trivial,?_⟩
 exact congrArg (fun t:F6=>(t,())) (tw_pair x a b)
def spPair:Nat × Eng.Spec:=(209,fnSpec [f6k,f2,f2] [.val f6k] (fun _=>True) outPair)
theorem ent_scale:enters Tryz.prog 210 Tryz.f210:=ek
abbrev outScale:HL [f6k,f2]->HO [.val f6k]:=fun (x,k,_)=>((x:F6)*((k,(0:F2),(0:F2)):F6),())
theorem fn_scale:FnOk Tryz.prog 210 [f6k,f2] [.val f6k] noG (fun _=>True) outScale:=by
 refine fn_of_vc (sp:=sps [fp2.spMul]) (spk (fok fp2.fn_mul) snl) mixed ent_scale (by decide) (by decide) ?_
 rintro w M0 ⟨x,k,⟨⟩⟩
 revert x k
 intro (x:F6) (k:F2) _ _
 refine vcx (X:=(True/\True/\True/\((x.fst*k,x.snd.fst*k,x.snd.snd*k),())=outScale (x,k,()))) (by kernel_rfl) ?_
 repeat refine⟨trivial,?_⟩
 exact congrArg (fun t:F6=>(t,())) (tw_scale x k)
def spScale:Nat × Eng.Spec:=(210,fnSpec [f6k,f2] [.val f6k] (fun _=>True) outScale)
theorem ent_cinv:enters Tryz.prog 207 Tryz.f207:=ek
abbrev outCinv:HL [f6k]->HO [.val f6k]:=fun (x,_)=>(Fd.inv (x:F6),())
theorem fn_cinv:FnOk Tryz.prog 207 [f6k] [.val f6k] noG (fun _=>True) outCinv:=by
 refine fn_of_vc (sp:=sps [fp2.spSquare,fp2.spMul,fp2.spSub,fp2.spAdd,spTurn,fp2.spInv,spScale]) (spk (fok fp2.fn_square) (spk (fok fp2.fn_mul) (spk (fok fp2.fn_sub) (spk (fok fp2.fn_add) (spk (fok fn_turn) (spk (fok fp2.fn_inv) (spk (fok fn_scale) snl))))))) mixed ent_cinv (by decide) (by decide) ?_
 rintro w M0 ⟨x,⟨⟩⟩
 revert x
 intro (x:F6) _ _
 refine vcx (X:=(True/\True/\True/\True/\True/\True/\True/\True/\True/\True/\True/\True/\True/\True/\True/\True/\True/\True/\True/\((x.fst*x.fst-xi*(x.snd.fst*x.snd.snd),xi*(x.snd.snd*x.snd.snd)-x.fst*x.snd.fst,x.snd.fst*x.snd.fst-x.fst*x.snd.snd)*(inv2 (x.fst*(x.fst*x.fst-xi*(x.snd.fst*x.snd.snd))+xi*(x.snd.snd*(xi*(x.snd.snd*x.snd.snd)-x.fst*x.snd.fst)+x.snd.fst*(x.snd.fst*x.snd.fst-x.fst*x.snd.snd))),(0:F2),(0:F2)),())=outCinv (x,()))) (by kernel_rfl) ?_
 repeat refine⟨trivial,?_⟩
 exact congrArg (fun t:F6=>(t,())) (tw_inv x)
def spCinv:Nat × Eng.Spec:=(207,fnSpec [f6k] [.val f6k] (fun _=>True) outCinv)
theorem ent_one:enters Tryz.prog 145 Tryz.f145:=ek
abbrev outOne:HL []->HO [.val f12k]:=fun _=>((1:F12),())
theorem fn_one:FnOk Tryz.prog 145 [] [.val f12k] noG (fun _=>True) outOne:=by
 refine fn_of_vc (sp:=sps [fp2.spSmall]) (spk (fok fp2.fn_small) snl) mixed ent_one (by decide) (by decide) ?_
 rintro w M0 ⟨⟩ _ _
 refine vcx (X:=((U64 (1:Int)/\U64 (0:Int))/\((((zmp (1:Int),zmp (0:Int)),((0:Fp),(0:Fp)),(0:Fp),(0:Fp)),((0:Fp),(0:Fp)),((0:Fp),(0:Fp)),(0:Fp),(0:Fp)),())=outOne ())) (by kernel_rfl) ?_
 have h1:zmp 1=(1:Fp):=Zm.ext (by decide)
 have h0:zmp 0=(0:Fp):=Zm.ext (by decide)
 rw[h1,h0]
 exact⟨⟨⟨by decide,by decide⟩,⟨by decide,by decide⟩⟩,rfl⟩
def spOne:Nat × Eng.Spec:=(145,fnSpec [] [.val f12k] (fun _=>True) outOne)
theorem ent_mul:enters Tryz.prog 181 Tryz.f181:=ek
abbrev outMul:HL [f12k,f12k]->HO [.val f12k]:=fun (x,y,_)=>((x:F12)*(y:F12),())
theorem fn_mul:FnOk Tryz.prog 181 [f12k,f12k] [.val f12k] noG (fun _=>True) outMul:=by
 refine fn_of_vc (sp:=sps [spCmul,spCadd,spCsub,spShift]) (spk (fok fn_cmul) (spk (fok fn_cadd) (spk (fok fn_csub) (spk (fok fn_shift) snl)))) mixed ent_mul (by decide) (by decide) ?_
 rintro w M0 ⟨x,y,⟨⟩⟩
 revert x y
 intro (x:F12) (y:F12) _ _
 refine vcx (X:=(True/\True/\True/\True/\True/\True/\True/\True/\True/\((x.fst*y.fst+vv*(x.snd*y.snd),(x.fst+x.snd)*(y.fst+y.snd)-x.fst*y.fst-x.snd*y.snd),())=outMul (x,y,()))) (by kernel_rfl) ?_
 repeat refine⟨trivial,?_⟩
 exact congrArg (fun t:F12=>(t,())) (tw_emul x y)
def spMul:Nat × Eng.Spec:=(181,fnSpec [f12k,f12k] [.val f12k] (fun _=>True) outMul)
theorem ent_square:enters Tryz.prog 186 Tryz.f186:=ek
abbrev outSquare:HL [f12k]->HO [.val f12k]:=fun (x,_)=>((x:F12)*(x:F12),())
theorem fn_square:FnOk Tryz.prog 186 [f12k] [.val f12k] noG (fun _=>True) outSquare:=by
 refine fn_of_vc (sp:=sps [spCmul,spCadd,spCsub,spShift]) (spk (fok fn_cmul) (spk (fok fn_cadd) (spk (fok fn_csub) (spk (fok fn_shift) snl)))) mixed ent_square (by decide) (by decide) ?_
 rintro w M0 ⟨x,⟨⟩⟩
 revert x
 intro (x:F12) _ _
 refine vcx (X:=(True/\True/\True/\True/\True/\True/\True/\True/\True/\(((x.fst+x.snd)*(x.fst+vv*x.snd)-x.fst*x.snd-vv*(x.fst*x.snd),x.fst*x.snd+x.fst*x.snd),())=outSquare (x,()))) (by kernel_rfl) ?_
 repeat refine⟨trivial,?_⟩
 exact congrArg (fun t:F12=>(t,())) (tw_esq x)
def spSquare:Nat × Eng.Spec:=(186,fnSpec [f12k] [.val f12k] (fun _=>True) outSquare)
theorem ent_conj:enters Tryz.prog 180 Tryz.f180:=ek
abbrev outConj:HL [f12k]->HO [.val f12k]:=fun (x,_)=>(conj12 x,())
theorem fn_conj:FnOk Tryz.prog 180 [f12k] [.val f12k] noG (fun _=>True) outConj:=by
 refine fn_of_vc (sp:=sps [spCsub]) (spk (fok fn_csub) snl) mixed ent_conj (by decide) (by decide) ?_
 rintro w M0 ⟨x,⟨⟩⟩
 revert x
 intro (x:F12) _ _
 refine vcx (X:=(True/\((x.fst,(((0:Fp),(0:Fp)),((0:Fp),(0:Fp)),(0:Fp),(0:Fp))-x.snd),())=outConj (x,()))) (by kernel_rfl) ?_
 repeat refine⟨trivial,?_⟩
 exact congrArg (fun t:F12=>(t,())) (tw_conj x)
theorem ent_inv:enters Tryz.prog 182 Tryz.f182:=ek
abbrev outInv:HL [f12k]->HO [.val f12k]:=fun (x,_)=>(Fd.inv (x:F12),())
theorem fn_inv:FnOk Tryz.prog 182 [f12k] [.val f12k] noG (fun _=>True) outInv:=by
 refine fn_of_vc (sp:=sps [spCmul,spCsub,spShift,spCinv]) (spk (fok fn_cmul) (spk (fok fn_csub) (spk (fok fn_shift) (spk (fok fn_cinv) snl)))) mixed ent_inv (by decide) (by decide) ?_
 rintro w M0 ⟨x,⟨⟩⟩
 revert x
 intro (x:F12) _ _
 refine vcx (X:=(True/\True/\True/\True/\True/\True/\True/\True/\((x.fst*Fd.inv (x.fst*x.fst-vv*(x.snd*x.snd)),(((0:Fp),(0:Fp)),((0:Fp),(0:Fp)),(0:Fp),(0:Fp))-x.snd*Fd.inv (x.fst*x.fst-vv*(x.snd*x.snd))),())=outInv (x,()))) (by kernel_rfl) ?_
 repeat refine⟨trivial,?_⟩
 exact congrArg (fun t:F12=>(t,())) (tw_einv x)
theorem ent_line:enters Tryz.prog 188 Tryz.f188:=ek
abbrev outLine:HL [f12k,f2,f2,f2]->HO [.val f12k]:=fun (x,a,b,c,_)=>((x:F12)*line12 a b c,())
theorem fn_line:FnOk Tryz.prog 188 [f12k,f2,f2,f2] [.val f12k] noG (fun _=>True) outLine:=by
 refine fn_of_vc (sp:=sps [spPair,spScale,spShift,spCadd,spCsub,fp2.spAdd]) (spk (fok fn_pair) (spk (fok fn_scale) (spk (fok fn_shift) (spk (fok fn_cadd) (spk (fok fn_csub) (spk (fok fp2.fn_add) snl)))))) mixed ent_line (by decide) (by decide) ?_
 rintro w M0 ⟨x,a,b,c,⟨⟩⟩
 revert x a b c
 intro (x:F12) (a:F2) (b:F2) (c:F2) _ _
 refine vcx (X:=(True/\True/\True/\True/\True/\True/\True/\True/\True/\True/\((x.fst*(a,b,(0:F2))+vv*(vv*(x.snd*(c,(0:F2),(0:F2)))),(x.fst+x.snd)*(a,b+c,(0:F2))-x.fst*(a,b,(0:F2))-vv*(x.snd*(c,(0:F2),(0:F2)))),())=outLine (x,a,b,c,()))) (by kernel_rfl) ?_
 repeat refine⟨trivial,?_⟩
 exact congrArg (fun t:F12=>(t,())) (tw_line x a b c)
def spLine:Nat × Eng.Spec:=(188,fnSpec [f12k,f2,f2,f2] [.val f12k] (fun _=>True) outLine)
end
end Go.Proofs.YtbeeaekepmnfhaaGreatDoor.tower
namespace Go.Proofs.YtbeeaekepmnfhaaGreatDoor.tower
noncomputable section
open Go Go.Eng Go.RowKit Cr fp2
def tp (e:Nat):Fp:=zpow (1+1:Fp) e
theorem tp_sq (e:Nat):tp e*tp e=tp (2*e):=by rw[tp,tp,<- zpow_add',show e+e=2*e by omega]
theorem tp_succ (e:Nat):tp e+tp e=tp (e+1):=by
 show tp e+tp e=zpow (1+1:Fp) e*(1+1)
 rw[Rg.mul_add,Rg.mul_one];rfl
theorem or_byte (r b:Nat) (hr:r<4294967296) (hb:b<256):bitOp .or .i64 ((r*256:Nat):Int) (b:Int)=((r*256+b:Nat):Int):=by
 have e:((BitVec.ofInt 64 ((r*256:Nat):Int) ||| BitVec.ofInt 64 (b:Int):BitVec 64).toNat)=r*256+b:=by
  rw[BitVec.toNat_or,BitVec.toNat_ofInt,BitVec.toNat_ofInt]
  have h1:(((r*256:Nat):Int)%((2^64:Nat):Int)).toNat=r <<< 8:=by rw[Nat.shiftLeft_eq];omega
  have h2:((b:Int)%((2^64:Nat):Int)).toNat=b:=by omega
  rw[h1,h2,<- Nat.shiftLeft_add_eq_or_of_lt (by omega),Nat.shiftLeft_eq]
 show IntKind.i64.wrap (((BitVec.ofInt 64 ((r*256:Nat):Int) ||| BitVec.ofInt 64 (b:Int):BitVec 64).toNat:Nat):Int)=_
 rw[e]
 exact wrap_i64' (by omega) (by omega)
theorem and_one (n:Nat) (hn:n<4294967296):bitOp .and .i64 (n:Int) 1=((n%2:Nat):Int):=by
 have e:((BitVec.ofInt 64 (n:Int) &&& BitVec.ofInt 64 1:BitVec 64).toNat)=n%2:=by
  rw[BitVec.toNat_and,BitVec.toNat_ofInt,BitVec.toNat_ofInt]
  have h1:((n:Int)%((2^64:Nat):Int)).toNat=n:=by omega
  have h2:((1:Int)%((2^64:Nat):Int)).toNat=1:=by omega
  rw[h1,h2,Nat.and_one_is_mod]
 show IntKind.i64.wrap (((BitVec.ofInt 64 (n:Int) &&& BitVec.ofInt 64 1:BitVec 64).toNat:Nat):Int)=_
 rw[e]
 exact wrap_i64' (by omega) (by omega)
theorem ent_root:enters Tryz.prog 158 Tryz.f158:=ek
abbrev rBs:List Int:=bytesN 48 (Zm.v (-(zm 1:Fp)))
theorem rBs_len:List.length rBs=48:=bytesN_length 48 _
def rtA (bs:List Int) (g:Int × Fp × Int):St:=mkSt Tryz.f158.ntmps 72 [(0,.is (.one (.ptr 0 0))),(1,.is (.one (.ptr 16 0))),(2,sI .i64 g.2.2),(10,sA .u8 48 bs),(11,sI .i64 g.1)] [(16,[.row .fp 1 [g.2.1]]),(0,[.row .fp 1 [(0:Fp)],.row .fp 1 [(0:Fp)]])]
def rtB (bs:List Int) (i rest dg:Int) (g:Int × Fp):St:=mkSt Tryz.f158.ntmps 72 [(0,.is (.one (.ptr 0 0))),(1,.is (.one (.ptr 16 0))),(2,sI .i64 rest),(5,sI .i64 dg),(10,sA .u8 48 bs),(11,sI .i64 i),(23,sI .i64 g.1)] [(16,[.row .fp 1 [g.2]]),(0,[.row .fp 1 [(0:Fp)],.row .fp 1 [(0:Fp)]])]
def rtO (x:Fp):St:=mkSt Tryz.f158.ntmps 72 [(0,.is (.one (.ptr 0 0))),(1,.is (.one (.ptr 16 0)))] [(16,[.row .fp 1 [x]]),(0,[.row .fp 1 [(0:Fp)],.row .fp 1 [(0:Fp)]])]
def rtJ (bs:List Int) (g:Int × Fp × Int):Prop:=∃ k:Nat,k<=48/\g.1=(k:Int)/\g.2.1=tp (num (bs.take k)/12).toNat/\g.2.2=num (bs.take k)%12
def rootK:Fp:=tp (num rBs/12).toNat
theorem fn_root:FnOk Tryz.prog 158 [] [.val f2] noG (fun _=>True) (fun _=>((rootK,-rootK),())):=by
 have hsp:SpecsOk Tryz.prog (sps [fp.spOf,fp.spNeg,fp.spBytes,fp.spSquare,fp.spAdd]):=spk (fok fp.fn_of) (spk (fok fp.fn_neg) (spk (fok fp.fn_bytes) (spk (fok fp.fn_square) (spk (fok fp.fn_add) snl))))
 refine fn_of_tr (sp:=sps [fp.spOf,fp.spNeg,fp.spBytes,fp.spSquare,fp.spAdd]) ent_root (by decide) (by decide) (by kernel_rfl) ?_
 rintro w M0 ⟨⟩ _ _
 show Tr _ _ _ _ _ _ _
 refine tr_cut hsp mixed 3 (rtA rBs (0,zm 1,0)) True ?_ (fun _=>?_)
 ·refine vcx (X:=(U64 (1:Int)/\U64 (1:Int)/\True/\True/\(rtA rBs ((0:Int),zmp (1:Int),(0:Int))).triv True)) (by kernel_rfl) ?_
  exact⟨⟨by decide,by decide⟩,⟨by decide,by decide⟩,trivial,trivial,tvi trivial⟩
 refine tr_whileT noSw (fun σ=>(rdS (.int .i64) 11 σ,rdB .fp 16 σ,rdS (.int .i64) 2 σ)) (rtA rBs) (rtJ rBs) (fun g=>48-g.1.toNat)
  (fun σ=>rdB .fp 16 σ) rtO (fun x=>x=rootK) (0,zm 1,0) (c:=nthC (codeOf Tryz.f158) 3) (by kernel_rfl) (by kernel_rfl) (le_of_proj (by kernel_rfl) (by kernel_rfl) ?_) ?_ ?_
 ·refine⟨0,by decide,rfl,?_,rfl⟩
  exact Zm.ext (by decide)
 ·rintro⟨i,x,rest⟩ hj
  revert i x rest
  intro (i:Int) (x:Fp) (rest:Int) ⟨k,hk,ei,ex,er⟩
  have ei:i=(k:Int):=ei
  subst ei
  have hbd:=num_bd (l:=rBs.take k) (fun x hx=>(bytesN_Bs 48 _:Bs rBs) x (List.mem_of_mem_take hx))
  refine tr_cut hsp mixed 2 (rtA rBs ((k:Int),x,rest)) (k<48) ?_ (fun hlt=>?_)
  ·refine vcx (X:=((decide ((↑k:Int)<(48:Int))=true->(rtA rBs ((↑k:Int),x,rest)).triv (k<(48:Nat)))/\(decide ((↑k:Int)<(48:Int))=false->(rtO x).triv (x=rootK)))) (by kernel_rfl) ?_
   refine⟨fun h=>tvi (by have:=of_decide_eq_true h;omega),fun h=>tvi ?_⟩
   have e48:k=48:=by have:=of_decide_eq_false h;omega
   have ex:x=tp (num (rBs.take k)/12).toNat:=ex
   rw[ex,e48,List.take_of_length_le (by rw[rBs_len];decide)];rfl
  refine tr_block (c:=nthC (loopOf (nthC (codeOf Tryz.f158) 3)) 2) (by kernel_rfl) (by kernel_rfl) ?_
  have hkl:k<List.length rBs:=by rw[rBs_len];exact hlt
  obtain⟨b,hb⟩:∃ b,b=rBs.getD k 0:=⟨_,rfl⟩
  have hb0:0<=b/\b<256:=by
   rw[hb];simp only[List.getD_eq_getElem?_getD,List.getElem?_eq_getElem hkl,Option.getD_some]
   exact (bytesN_Bs 48 _:Bs rBs) _ (List.getElem_mem hkl)
  refine tr_cutF hsp mixed 5 (fun σ=>(rdS (.int .i64) 2 σ,rdS (.int .i64) 5 σ)) (fun g=>rtB rBs k g.1 g.2 (0,x)) (fun g=>g.1=(rest*256+b)%12/\g.2=(rest*256+b)/12) ?_ ?_
  ·refine vcx (X:=(((0:Int)<=(↑k:Int)/\(↑k:Int)<(↑(48:Nat):Int))/\(0:Int)<=(8:Int)/\((12:Int)=(0:Int)->False)/\((12:Int)=(0:Int)->False)/\(rtB rBs (↑k:Int) ((bitOp BinOp.or IntKind.i64 (IntKind.i64.wrap (rest*(2:Int)^min (8:Nat) IntKind.i64.bits)) (IntKind.i64.wrap (rBs.getD (↑k:Int).toNat (0:Int)))).tmod (12:Int),IntKind.i64.wrap ((bitOp BinOp.or IntKind.i64 (IntKind.i64.wrap (rest*(2:Int)^min (8:Nat) IntKind.i64.bits)) (IntKind.i64.wrap (rBs.getD (↑k:Int).toNat (0:Int)))).tdiv (12:Int))).fst ((bitOp BinOp.or IntKind.i64 (IntKind.i64.wrap (rest*(2:Int)^min (8:Nat) IntKind.i64.bits)) (IntKind.i64.wrap (rBs.getD (↑k:Int).toNat (0:Int)))).tmod (12:Int),IntKind.i64.wrap ((bitOp BinOp.or IntKind.i64 (IntKind.i64.wrap (rest*(2:Int)^min (8:Nat) IntKind.i64.bits)) (IntKind.i64.wrap (rBs.getD (↑k:Int).toNat (0:Int)))).tdiv (12:Int))).snd ((0:Int),x)).triv ((bitOp BinOp.or IntKind.i64 (IntKind.i64.wrap (rest*(2:Int)^min (8:Nat) IntKind.i64.bits)) (IntKind.i64.wrap (rBs.getD (↑k:Int).toNat (0:Int)))).tmod (12:Int)=(rest*(256:Car (Kd.int IntKind.i64))+b)%(12:Car (Kd.int IntKind.i64))/\IntKind.i64.wrap ((bitOp BinOp.or IntKind.i64 (IntKind.i64.wrap (rest*(2:Int)^min (8:Nat) IntKind.i64.bits)) (IntKind.i64.wrap (rBs.getD (↑k:Int).toNat (0:Int)))).tdiv (12:Int))=(rest*(256:Car (Kd.int IntKind.i64))+b)/(12:Car (Kd.int IntKind.i64))))) (by kernel_rfl) ?_
   have er:rest=num (rBs.take k)%12:=er
   have hr0:0<=rest/\rest<12:=by rw[er];omega
   obtain⟨rn,hrn⟩:=Int.eq_ofNat_of_zero_le hr0.1
   obtain⟨bn,hbn⟩:=Int.eq_ofNat_of_zero_le hb0.1
   have e1:IntKind.i64.wrap (rest*2^min (8:Nat) IntKind.i64.bits)=((rn*256:Nat):Int):=by
    show IntKind.i64.wrap (rest*256)=_
    rw[wrap_i64' (by omega) (by omega)];omega
   have e2:IntKind.i64.wrap (rBs.getD (k:Int).toNat 0)=(bn:Int):=by
    rw[Int.toNat_natCast,<- hb,wrap_i64' (by omega) (by omega),hbn]
   have e3:rest*256+b=((rn*256+bn:Nat):Int):=by rw[hrn,hbn];simp
   rw[e1,e2,or_byte rn bn (by omega) (by omega)]
   have e4:((rn*256+bn:Nat):Int).tmod 12=(rest*256+b)%12:=by rw[Int.tmod_eq_emod_of_nonneg (by omega),e3]
   have e5:IntKind.i64.wrap (((rn*256+bn:Nat):Int).tdiv 12)=(rest*256+b)/12:=by rw[Int.tdiv_eq_ediv_of_nonneg (by omega),wrap_i64' (by omega) (by omega),e3]
   rw[e4,e5]
   exact⟨⟨by omega,by omega⟩,by decide,by decide,by decide,tvi ⟨rfl,rfl⟩⟩
  rintro⟨r2,dg⟩ hrd
  revert r2 dg
  intro (r2:Int) (dg:Int) ⟨hr2,hdg⟩
  have hr2:r2=(rest*256+b)%12:=hr2
  have hdg:dg=(rest*256+b)/12:=hdg
  have hdg0:0<=dg/\dg<256:=by
   have er:rest=num (rBs.take k)%12:=er
   rw[hdg];omega
  refine tr_while hsp mixed noSw (fun σ=>(rdS (.int .i64) 23 σ,rdB .fp 16 σ)) (rtB rBs k r2 dg) (fun g=>∃ j:Nat,j<=8/\g.1=(j:Int)/\g.2=tp (((num (rBs.take k)/12).toNat)*2^j+dg.toNat/2^(8-j))) (fun g=>8-g.1.toNat)
   (fun σ=>rdB .fp 16 σ) (fun y=>rtA rBs ((k:Int),y,r2)) (fun y=>y=tp (((num (rBs.take k)/12).toNat)*256+dg.toNat)) (0,x) (c:=nthC (bodyOf (nthC (loopOf (nthC (codeOf Tryz.f158) 3)) 2)) 5) (by kernel_rfl) (by kernel_rfl) (le_of_proj (by kernel_rfl) (by kernel_rfl) ?_) ?_ ?_
  ·refine⟨0,by decide,rfl,?_⟩
   have ex:x=tp (num (rBs.take k)/12).toNat:=ex
   rw[Nat.pow_zero,Nat.mul_one,show 8-0=8 from rfl,show (2:Nat)^8=256 from rfl,Nat.div_eq_of_lt (by omega),Nat.add_zero]
   exact ex
  ·rintro⟨j,y⟩ hj
   revert j y
   intro (j:Int) (y:Fp) ⟨t,ht,ej,ey⟩
   have ej:j=(t:Int):=ej
   subst ej
   refine vcx (X:=((decide ((↑t:Int)<(8:Int))=true->True/\(0:Int)<=IntKind.i64.wrap ((7:Int)-(↑t:Int))/\((bitOp BinOp.and IntKind.i64 (dg.fdiv ((2:Int)^min (IntKind.i64.wrap ((7:Int)-(↑t:Int))).toNat IntKind.i64.bits)) (1:Int)==(1:Int))=true->True/\(rtB rBs (↑k:Int) r2 dg (IntKind.i64.wrap ((↑t:Int)+(1:Int)),y*y+y*y)).triv ((∃ j,j<=(8:Nat)/\IntKind.i64.wrap ((↑t:Int)+(1:Int))=(↑j:Int)/\y*y+y*y=tp ((num (List.take k rBs)/(12:Int)).toNat*(2:Nat)^j+dg.toNat/(2:Nat)^((8:Nat)-j)))/\(8:Nat)-(IntKind.i64.wrap ((↑t:Int)+(1:Int))).toNat<(8:Nat)-(↑t:Int).toNat))/\((bitOp BinOp.and IntKind.i64 (dg.fdiv ((2:Int)^min (IntKind.i64.wrap ((7:Int)-(↑t:Int))).toNat IntKind.i64.bits)) (1:Int)==(1:Int))=false->(rtB rBs (↑k:Int) r2 dg (IntKind.i64.wrap ((↑t:Int)+(1:Int)),y*y)).triv ((∃ j,j<=(8:Nat)/\IntKind.i64.wrap ((↑t:Int)+(1:Int))=(↑j:Int)/\y*y=tp ((num (List.take k rBs)/(12:Int)).toNat*(2:Nat)^j+dg.toNat/(2:Nat)^((8:Nat)-j)))/\(8:Nat)-(IntKind.i64.wrap ((↑t:Int)+(1:Int))).toNat<(8:Nat)-(↑t:Int).toNat)))/\(decide ((↑t:Int)<(8:Int))=false->(rtA rBs ((↑k:Int),y,r2)).triv (y=tp ((num (List.take k rBs)/(12:Int)).toNat*(256:Nat)+dg.toNat))))) (by kernel_rfl) ?_
   have ht:t<=8:=ht
   have ey:y=tp (((num (rBs.take k)/12).toNat)*2^t+dg.toNat/2^(8-t)):=ey
   obtain⟨d,hd⟩:=Int.eq_ofNat_of_zero_le hdg0.1
   generalize (num (rBs.take k)/12).toNat=q at *
   refine⟨fun h=>?_,fun h=>tvi ?_⟩
   ·have h8:t<8:=by have:=of_decide_eq_true h;omega
    have e1:(IntKind.i64.wrap (7-(t:Int))).toNat=7-t:=by rw[wrap_i64' (by omega) (by omega)];omega
    have e0:0<=IntKind.i64.wrap (7-(t:Int)):=by rw[wrap_i64' (by omega) (by omega)];omega
    have hm:min (7-t) IntKind.i64.bits=7-t:=Nat.min_eq_left (show 7-t<=64 by omega)
    have e2:dg.fdiv (2^(7-t))=((d/2^(7-t):Nat):Int):=by
     rw[Int.fdiv_eq_ediv_of_nonneg _ (Int.le_of_lt (Int.pow_pos (by decide))),hd]
     simp
    have e3:d/2^(8-t)=d/2^(7-t)/2:=by
     rw[Nat.div_div_eq_div_mul,<- Nat.pow_succ,show (7-t).succ=8-t by omega]
    have e4:dg.toNat=d:=by rw[hd];rfl
    have hdl:d/2^(7-t)<4294967296:=Nat.lt_of_le_of_lt (Nat.div_le_self _ _) (by omega)
    have e5:8-(t+1)=7-t:=by omega
    rw[e1,hm,e2,and_one _ hdl,wrap_succ (by omega)]
    have key:y*y=tp (q*2^(t+1)+2*(d/2^(7-t)/2)):=by
     rw[ey,tp_sq,e4,e3,Nat.pow_succ]
     congr 1
     rw[Nat.mul_add,<- Nat.mul_assoc,Nat.mul_comm 2 q,Nat.mul_assoc,Nat.mul_comm 2 (2^t)]
    refine⟨trivial,e0,fun h1=>⟨trivial,tvi ⟨⟨t+1,h8,rfl,?_⟩,by omega⟩⟩,fun h1=>tvi ⟨⟨t+1,h8,rfl,?_⟩,by omega⟩⟩
    ·have hbit:d/2^(7-t)%2=1:=by
      have h1:((d/2^(7-t)%2:Nat):Int)=1:=by simpa using h1
      omega
     rw[key,tp_succ,e4,e5]
     congr 1
     omega
    ·have hbit:d/2^(7-t)%2=0:=by
      have h1:¬ ((d/2^(7-t)%2:Nat):Int)=1:=by simpa using h1
      omega
     rw[key,e4,e5]
     congr 1
     omega
   ·have h8:t=8:=by have:=of_decide_eq_false h;omega
    rw[ey,h8]
    simp
  intro (y:Fp) (hy:y=tp (((num (rBs.take k)/12).toNat)*256+dg.toNat))
  refine tr_nil ?_
  refine tr_vc hsp mixed _ _ ?_
  refine vcx (X:=((rtA rBs (IntKind.i64.wrap ((↑k:Int)+(1:Int)),y,r2)).triv (rtJ rBs (IntKind.i64.wrap ((↑k:Int)+(1:Int)),y,r2)/\(48:Nat)-(IntKind.i64.wrap ((↑k:Int)+(1:Int))).toNat<(48:Nat)-(↑k:Int).toNat))) (by kernel_rfl) ?_
  have er:rest=num (rBs.take k)%12:=er
  have hns:=num_take_succ hkl
  rw[<- hb] at hns
  rw[wrap_succ (by omega)]
  refine tvi ⟨⟨k+1,hlt,rfl,?_,?_⟩,by omega⟩
  ·show y=tp _
   rw[hy,hns]
   congr 1
   omega
  ·show r2=_
   rw[hr2,hns,er]
   omega
 intro (x:Fp) (hx:x=rootK)
 refine tr_vc hsp mixed _ _ ?_
 refine vcx (X:=(True/\((x,-x),())=((rootK,-rootK),()))) (by kernel_rfl) ?_
 exact⟨trivial,by rw[hx]⟩
end
end Go.Proofs.YtbeeaekepmnfhaaGreatDoor.tower
namespace Go.Proofs.YtbeeaekepmnfhaaGreatDoor.tower
noncomputable section
open Go Go.Eng Go.RowKit Cr fp2
theorem ent_power:enters Tryz.prog 185 Tryz.f185:=ek
def pwo (x:F12) (n:Nat):F12:=opq (pwn x n)
theorem pwo_zero (x:F12):pwo x 0=1:=opq_eq _
theorem pwo_sq (x:F12) (n:Nat):pwo x n*pwo x n=pwo x (2*n):=by
 rw[pwo,pwo,opq_eq,opq_eq,<- pwn_add,show n+n=2*n by omega]
theorem pwo_succ (x:F12) (n:Nat):pwo x n*x=pwo x (n+1):=by
 rw[pwo,pwo,opq_eq,opq_eq];rfl
abbrev prePow:HL [f12k,.sl (.int .u8)]->Prop:=fun (_,e,_)=>Bs e/\List.length e<=1048576
abbrev outPower:HL [f12k,.sl (.int .u8)]->HO [.val f12k]:=fun (x,e,_)=>(pwo x (num e).toNat,())
abbrev c12 (x:F12):List Cell:=cellsOf f12k x
def pwA (x:F12) (e:List Int) (g:Int × F12 × Bool):St:=mkSt Tryz.f185.ntmps 72 [(2,.is (.one (.ptr 0 0))),(4,.is (.one (.ptr 8 0))),(5,.is (.one (.ptr 24 0))),(6,.is (.one (.v (.bool g.2.2)))),(11,.is (.one (.ro (.int .u8) e))),(12,sI .i64 e.length),(13,sI .i64 g.1)] [(24,c12 g.2.1),(8,c12 0),(0,c12 x)]
def pwB (x:F12) (e:List Int) (i b:Int) (g:Int × F12 × Bool):St:=mkSt Tryz.f185.ntmps 72 [(2,.is (.one (.ptr 0 0))),(4,.is (.one (.ptr 8 0))),(5,.is (.one (.ptr 24 0))),(6,.is (.one (.v (.bool g.2.2)))),(8,sI .u8 b),(11,.is (.one (.ro (.int .u8) e))),(12,sI .i64 e.length),(13,sI .i64 i),(17,sI .i64 g.1)] [(24,c12 g.2.1),(8,c12 0),(0,c12 x)]
def pwJ (x:F12) (n:Nat) (y:F12) (bg:Bool):Prop:=y=pwo x n/\(bg=false->n=0)
theorem and_u8 (n:Nat) (hn:n<256):bitOp .and .u8 (n:Int) 1=((n%2:Nat):Int):=by
 have e:((BitVec.ofInt 8 (n:Int) &&& BitVec.ofInt 8 1:BitVec 8).toNat)=n%2:=by
  rw[BitVec.toNat_and,BitVec.toNat_ofInt,BitVec.toNat_ofInt]
  have h1:((n:Int)%((2^8:Nat):Int)).toNat=n:=by omega
  have h2:((1:Int)%((2^8:Nat):Int)).toNat=1:=by omega
  rw[h1,h2,Nat.and_one_is_mod]
 show IntKind.u8.wrap (((BitVec.ofInt 8 (n:Int) &&& BitVec.ofInt 8 1:BitVec 8).toNat:Nat):Int)=_
 rw[e]
 simp only[IntKind.wrap,IntKind.signed,IntKind.bits]
 simp;omega
theorem fn_power:FnOk Tryz.prog 185 [f12k,.sl (.int .u8)] [.val f12k] noG prePow outPower:=by
 have hsp:SpecsOk Tryz.prog (sps [spOne,spSquare,spMul]):=spk (fok fn_one) (spk (fok fn_square) (spk (fok fn_mul) snl))
 refine fn_of_tr (sp:=sps [spOne,spSquare,spMul]) ent_power (by decide) (by decide) (by kernel_rfl) ?_
 rintro w M0 ⟨x,e,⟨⟩⟩
 revert x e
 intro (x:F12) (e:List Int) _ hp
 have hbs:Bs e:=hp.1
 have hel:e.length<=1048576:=hp.2
 show Tr _ _ _ _ _ _ _
 refine tr_cutB hsp mixed 3 6 (fun σ=>rdS .bool 6 σ) (fun bg=>pwA x e (0,1,bg)) (fun bg=>bg=false) ?_ ?_
 ·refine vcx (X:=(True/\(pwA x e ((0:Int),(1:F12),false)).triv (false=false))) (by kernel_rfl) ?_
  exact⟨trivial,tvi rfl⟩
 intro (bg0:Bool) (hbg0:bg0=false)
 subst hbg0
 refine tr_whileT noSw (fun σ=>(rdS (.int .i64) 13 σ,rdB f12k 24 σ,rdS .bool 6 σ)) (pwA x e) (fun g=>∃ k:Nat,k<=e.length/\g.1=(k:Int)/\pwJ x (num (e.take k)).toNat g.2.1 g.2.2) (fun g=>e.length-g.1.toNat)
  (fun σ=>(rdS (.int .i64) 13 σ,rdB f12k 24 σ,rdS .bool 6 σ)) (pwA x e) (fun g=>g.2.1=pwo x (num e).toNat) (0,1,false) (c:=nthC (codeOf Tryz.f185) 3) (by kernel_rfl) (by kernel_rfl) (le_of_proj (by kernel_rfl) (by kernel_rfl) ?_) ?_ ?_
 ·exact⟨0,Nat.zero_le _,rfl,(pwo_zero x).symm,fun _=>rfl⟩
 ·rintro⟨i,y,bg⟩ hj
  revert i y bg
  intro (i:Int) (y:F12) (bg:Bool) ⟨k,hk,ei,hy⟩
  have ei:i=(k:Int):=ei
  subst ei
  have hy:pwJ x (num (e.take k)).toNat y bg:=hy
  have hbd:=num_bd (l:=e.take k) (fun z hz=>hbs z (List.mem_of_mem_take hz))
  refine tr_cut hsp mixed 2 (pwA x e ((k:Int),y,bg)) (k<e.length) ?_ (fun hlt=>?_)
  ·refine vcx (X:=((decide ((↑k:Int)<(↑e.length:Int))=true->(pwA x e ((↑k:Int),y,bg)).triv (k<e.length))/\(decide ((↑k:Int)<(↑e.length:Int))=false->(pwA x e ((↑k:Int),y,bg)).triv (y=pwo x (num e).toNat)))) (by kernel_rfl) ?_
   refine⟨fun h=>tvi (by have:=of_decide_eq_true h;omega),fun h=>tvi ?_⟩
   have ek:k=e.length:=by have:=of_decide_eq_false h;omega
   rw[ek,List.take_length] at hy
   exact hy.1
  refine tr_block (c:=nthC (loopOf (nthC (codeOf Tryz.f185) 3)) 2) (by kernel_rfl) (by kernel_rfl) ?_
  refine tr_cutF hsp mixed 2 (fun σ=>rdS (.int .u8) 8 σ) (fun b=>pwB x e k b (0,y,bg)) (fun b=>b=e.getD k 0) ?_ ?_
  ·refine vcx (X:=(((0:Int)<=(↑k:Int)/\(↑k:Int)<(↑e.length:Int))/\(↑k:Int).toNat<e.length/\(pwB x e (↑k:Int) (e.getD (↑k:Int).toNat (0:Int)) ((0:Int),y,bg)).triv (e.getD (↑k:Int).toNat (0:Int)=e.getD k (0:Int)))) (by kernel_rfl) ?_
   simp only[Int.toNat_natCast]
   exact⟨⟨by omega,by omega⟩,hlt,tvi (by first|exact trivial|rfl)⟩
  intro (b:Int) (hb:b=e.getD k 0)
  have hb0:0<=b/\b<256:=by
   rw[hb];simp only[List.getD_eq_getElem?_getD,List.getElem?_eq_getElem hlt,Option.getD_some]
   exact hbs _ (List.getElem_mem hlt)
  obtain⟨d,hd⟩:=Int.eq_ofNat_of_zero_le hb0.1
  refine tr_whileT noSw (fun σ=>(rdS (.int .i64) 17 σ,rdB f12k 24 σ,rdS .bool 6 σ)) (pwB x e k b) (fun g=>∃ j:Nat,j<=8/\g.1=(j:Int)/\pwJ x ((num (e.take k)).toNat*2^j+d/2^(8-j)) g.2.1 g.2.2) (fun g=>8-g.1.toNat)
   (fun σ=>(rdB f12k 24 σ,rdS .bool 6 σ)) (fun g=>pwA x e ((k:Int),g.1,g.2)) (fun g=>pwJ x ((num (e.take k)).toNat*256+d) g.1 g.2) (0,y,bg) (c:=nthC (bodyOf (nthC (loopOf (nthC (codeOf Tryz.f185) 3)) 2)) 2) (by kernel_rfl) (by kernel_rfl) (le_of_proj (by kernel_rfl) (by kernel_rfl) ?_) ?_ ?_
  ·refine⟨0,by decide,rfl,?_⟩
   rw[Nat.pow_zero,Nat.mul_one,show 8-0=8 from rfl,show (2:Nat)^8=256 from rfl,Nat.div_eq_of_lt (by omega),Nat.add_zero]
   exact hy
  ·rintro⟨j,y1,b1⟩ hj
   revert j y1 b1
   intro (j:Int) (y1:F12) (b1:Bool) ⟨t,ht,ej,hy1⟩
   have ej:j=(t:Int):=ej
   subst ej
   have ht:t<=8:=ht
   have hy1:pwJ x ((num (e.take k)).toNat*2^t+d/2^(8-t)) y1 b1:=hy1
   generalize (num (e.take k)).toNat=q at *
   refine tr_cut hsp mixed 2 (pwB x e k b ((t:Int),y1,b1)) (t<8) ?_ (fun h8=>?_)
   ·refine vcx (X:=((decide ((↑t:Int)<(8:Int))=true->(pwB x e (↑k:Int) b ((↑t:Int),y1,b1)).triv (t<(8:Nat)))/\(decide ((↑t:Int)<(8:Int))=false->(pwA x e ((↑k:Int),(y1,b1).fst,(y1,b1).snd)).triv (pwJ x (q*(256:Nat)+d) y1 b1)))) (by kernel_rfl) ?_
    refine⟨fun h=>tvi (by have:=of_decide_eq_true h;omega),fun h=>tvi ?_⟩
    have et:t=8:=by have:=of_decide_eq_false h;omega
    rw[et] at hy1
    simpa using hy1
   refine tr_block (c:=nthC (loopOf (nthC (bodyOf (nthC (loopOf (nthC (codeOf Tryz.f185) 3)) 2)) 2)) 2) (by kernel_rfl) (by kernel_rfl) ?_
   have e3:d/2^(8-t)=d/2^(7-t)/2:=by
    rw[Nat.div_div_eq_div_mul,<- Nat.pow_succ,show (7-t).succ=8-t by omega]
   have e5:8-(t+1)=7-t:=by omega
   have eN:q*2^(t+1)+d/2^(8-(t+1))=2*(q*2^t+d/2^(8-t))+d/2^(7-t)%2:=by
    rw[e5,e3,Nat.pow_succ,<- Nat.mul_assoc];omega
   refine tr_cutB hsp mixed 5 6 (fun σ=>(rdB f12k 24 σ,rdS .bool 6 σ)) (fun g=>pwB x e k b ((t:Int),g.1,g.2)) (fun g=>pwJ x (q*2^(t+1)+d/2^(8-(t+1))) g.1 g.2) ?_ ?_
   ·refine vcx (X:=((b1=true->True/\(0:Int)<=IntKind.i64.wrap ((7:Int)-(↑t:Int))/\((bitOp BinOp.and IntKind.u8 (b.fdiv ((2:Int)^min (IntKind.i64.wrap ((7:Int)-(↑t:Int))).toNat IntKind.u8.bits)) (1:Int)==(1:Int))=true->True/\(pwB x e (↑k:Int) b ((↑t:Int),(y1*y1*x,true).fst,(y1*y1*x,true).snd)).triv (pwJ x (q*(2:Nat)^(t+(1:Nat))+d/(2:Nat)^((8:Nat)-(t+(1:Nat)))) (y1*y1*x) true))/\((bitOp BinOp.and IntKind.u8 (b.fdiv ((2:Int)^min (IntKind.i64.wrap ((7:Int)-(↑t:Int))).toNat IntKind.u8.bits)) (1:Int)==(1:Int))=false->(pwB x e (↑k:Int) b ((↑t:Int),(y1*y1,b1).fst,(y1*y1,b1).snd)).triv (pwJ x (q*(2:Nat)^(t+(1:Nat))+d/(2:Nat)^((8:Nat)-(t+(1:Nat)))) (y1*y1) b1)))/\(b1=false->(0:Int)<=IntKind.i64.wrap ((7:Int)-(↑t:Int))/\((bitOp BinOp.and IntKind.u8 (b.fdiv ((2:Int)^min (IntKind.i64.wrap ((7:Int)-(↑t:Int))).toNat IntKind.u8.bits)) (1:Int)==(1:Int))=true->True/\(pwB x e (↑k:Int) b ((↑t:Int),(y1*x,true).fst,(y1*x,true).snd)).triv (pwJ x (q*(2:Nat)^(t+(1:Nat))+d/(2:Nat)^((8:Nat)-(t+(1:Nat)))) (y1*x) true))/\((bitOp BinOp.and IntKind.u8 (b.fdiv ((2:Int)^min (IntKind.i64.wrap ((7:Int)-(↑t:Int))).toNat IntKind.u8.bits)) (1:Int)==(1:Int))=false->(pwB x e (↑k:Int) b ((↑t:Int),(y1,b1).fst,(y1,b1).snd)).triv (pwJ x (q*(2:Nat)^(t+(1:Nat))+d/(2:Nat)^((8:Nat)-(t+(1:Nat)))) y1 b1))))) (by kernel_rfl) ?_
    have e0:0<=IntKind.i64.wrap (7-(t:Int)):=by rw[wrap_i64' (by omega) (by omega)];omega
    have e1:(IntKind.i64.wrap (7-(t:Int))).toNat=7-t:=by rw[wrap_i64' (by omega) (by omega)];omega
    have hm:min (7-t) IntKind.u8.bits=7-t:=Nat.min_eq_left (show 7-t<=8 by omega)
    have e2:b.fdiv (2^(7-t))=((d/2^(7-t):Nat):Int):=by
     rw[Int.fdiv_eq_ediv_of_nonneg _ (Int.le_of_lt (Int.pow_pos (by decide))),hd]
     simp
    have hdl:d/2^(7-t)<256:=Nat.lt_of_le_of_lt (Nat.div_le_self _ _) (by omega)
    rw[e1,hm,e2,and_u8 _ hdl,eN]
    obtain⟨hy1,hb1⟩:=hy1
    generalize q*2^t+d/2^(8-t)=Q at *
    have hbit1:(((d/2^(7-t)%2:Nat):Int)==1)=true->d/2^(7-t)%2=1:=fun h=>by
     have h:((d/2^(7-t)%2:Nat):Int)=1:=by simpa using h
     omega
    have hbit0:(((d/2^(7-t)%2:Nat):Int)==1)=false->d/2^(7-t)%2=0:=fun h=>by
     have h:¬ ((d/2^(7-t)%2:Nat):Int)=1:=by simpa using h
     omega
    refine⟨fun hb=>⟨trivial,e0,fun h=>⟨trivial,tvi ⟨?_,fun h=>by cases h⟩⟩,fun h=>tvi ⟨?_,fun h2=>?_⟩⟩,fun hb=>⟨e0,fun h=>⟨trivial,tvi ⟨?_,fun h=>by cases h⟩⟩,fun h=>tvi ⟨?_,fun _=>?_⟩⟩⟩
    ·rw[hbit1 h,hy1,pwo_sq,pwo_succ]
    ·rw[hbit0 h,hy1,pwo_sq];rfl
    ·rw[hb] at h2;cases h2
    ·have hQ:=hb1 hb
     rw[hbit1 h,hy1,pwo_succ,hQ]
    ·have hQ:=hb1 hb
     rw[hbit0 h,hy1,hQ]
    ·have hQ:=hb1 hb
     rw[hbit0 h,hQ]
   rintro⟨y2,b2⟩ hy2
   revert y2 b2
   intro (y2:F12) (b2:Bool) (hy2:pwJ x (q*2^(t+1)+d/2^(8-(t+1))) y2 b2)
   refine tr_nil ?_
   refine tr_vc hsp mixed _ _ ?_
   refine vcx (X:=((pwB x e (↑k:Int) b (IntKind.i64.wrap ((↑t:Int)+(1:Int)),y2,b2)).triv ((∃ j,j<=(8:Nat)/\IntKind.i64.wrap ((↑t:Int)+(1:Int))=(↑j:Int)/\pwJ x (q*(2:Nat)^j+d/(2:Nat)^((8:Nat)-j)) y2 b2)/\(8:Nat)-(IntKind.i64.wrap ((↑t:Int)+(1:Int))).toNat<(8:Nat)-(↑t:Int).toNat))) (by kernel_rfl) ?_
   rw[wrap_succ (by omega)]
   exact tvi ⟨⟨t+1,h8,rfl,hy2⟩,by rw[Int.toNat_natCast,Int.toNat_natCast];omega⟩
  rintro⟨y2,b2⟩ hy2
  revert y2 b2
  intro (y2:F12) (b2:Bool) (hy2:pwJ x ((num (e.take k)).toNat*256+d) y2 b2)
  refine tr_nil ?_
  refine tr_vc hsp mixed _ _ ?_
  refine vcx (X:=((pwA x e (IntKind.i64.wrap ((↑k:Int)+(1:Int)),y2,b2)).triv ((∃ k_1,k_1<=e.length/\IntKind.i64.wrap ((↑k:Int)+(1:Int))=(↑k_1:Int)/\pwJ x (num (List.take k_1 e)).toNat y2 b2)/\e.length-(IntKind.i64.wrap ((↑k:Int)+(1:Int))).toNat<e.length-(↑k:Int).toNat))) (by kernel_rfl) ?_
  have hns:=num_take_succ hlt
  rw[<- hb] at hns
  have en:(num (e.take (k+1))).toNat=(num (e.take k)).toNat*256+d:=by rw[hns,hd];omega
  rw[wrap_succ (by omega)]
  exact tvi ⟨⟨k+1,hlt,rfl,by rw[en];exact hy2⟩,by rw[Int.toNat_natCast,Int.toNat_natCast];omega⟩
 rintro⟨i,y,bg⟩ hy
 revert i y bg
 intro (i:Int) (y:F12) (bg:Bool) (hy:y=pwo x (num e).toNat)
 refine tr_vc hsp mixed _ _ ?_
 refine vcx (X:=((y,())=outPower (x,e,()))) (by kernel_rfl) ?_
 rw[hy]
def spPower:Nat × Eng.Spec:=(185,fnSpec [f12k,.sl (.int .u8)] [.val f12k] prePow outPower)
end
end Go.Proofs.YtbeeaekepmnfhaaGreatDoor.tower
namespace Go.Proofs.YtbeeaekepmnfhaaGreatDoor.fp2
open Go Go.Eng Go.RowKit Cr Go.Proofs.YtbeeaekepmnfhaaGreatDoor
theorem ent_double:enters Tryz.prog 208 Tryz.f208:=ek
noncomputable abbrev outDouble:HL [f2]->HO [.val f2]:=fun (x,_)=>((x:F2)+x,())
theorem fn_double:FnOk Tryz.prog 208 [f2] [.val f2] noG (fun _=>True) outDouble:=by
 refine fn_of_vc (sp:=sps [spAdd]) (spk (fok fn_add) snl) mixed ent_double (by decide) (by decide) ?_
 rintro w M0 ⟨x,⟨⟩⟩
 revert x
 intro (x:F2) _ _
 refine vcx (X:=(True/\(x+x,())=outDouble (x,()))) (by kernel_rfl) ?_
 repeat refine⟨trivial,?_⟩
 rfl
noncomputable def spDouble:Nat × Eng.Spec:=(208,fnSpec [f2] [.val f2] (fun _=>True) outDouble)
end Go.Proofs.YtbeeaekepmnfhaaGreatDoor.fp2
namespace Go.Proofs.YtbeeaekepmnfhaaGreatDoor.tower
open Go Go.Eng Go.RowKit Cr Go.Proofs.YtbeeaekepmnfhaaGreatDoor Go.Proofs.YtbeeaekepmnfhaaGreatDoor.fp2
noncomputable def rt1:F2:=(rootK,-rootK)
noncomputable def cj (x:F2):F2:=(x.1,-x.2)
noncomputable def frobF (x:F12):F12:=((cj x.1.1,cj x.1.2.1*(rt1*rt1),cj x.1.2.2*(rt1*rt1*(rt1*rt1))),(cj x.2.1*rt1,cj x.2.2.1*(rt1*rt1*rt1),cj x.2.2.2*(rt1*rt1*(rt1*rt1)*rt1)))
theorem ent_frob:enters Tryz.prog 183 Tryz.f183:=ek
noncomputable def spRoot:Nat × Eng.Spec:=(158,fnSpec [] [.val f2] (fun _=>True) (fun _=>(rt1,())))
theorem fn_frob:FnOk Tryz.prog 183 [f12k] [.val f12k] noG (fun _=>True) (fun (x,_)=>(frobF x,())):=by
 refine fn_of_vc (sp:=sps [spRoot,fp2.spSquare,fp2.spMul,fp2.spConj]) (spk (fok fn_root) (spk (fok fp2.fn_square) (spk (fok fp2.fn_mul) (spk (fok fp2.fn_conj) snl)))) mixed ent_frob (by decide) (by decide) ?_
 rintro w M0 ⟨x,⟨⟩⟩
 revert x
 intro (x:F12) _ _
 refine vcx (X:=(True/\True/\True/\True/\True/\True/\True/\True/\True/\True/\True/\True/\True/\True/\True/\True/\((((x.fst.fst.fst,-x.fst.fst.snd),(x.fst.snd.fst.fst,-x.fst.snd.fst.snd)*((rootK,-rootK)*(rootK,-rootK)),(x.fst.snd.snd.fst,-x.fst.snd.snd.snd)*((rootK,-rootK)*(rootK,-rootK)*((rootK,-rootK)*(rootK,-rootK)))),(x.snd.fst.fst,-x.snd.fst.snd)*(rootK,-rootK),(x.snd.snd.fst.fst,-x.snd.snd.fst.snd)*((rootK,-rootK)*(rootK,-rootK)*(rootK,-rootK)),(x.snd.snd.snd.fst,-x.snd.snd.snd.snd)*((rootK,-rootK)*(rootK,-rootK)*((rootK,-rootK)*(rootK,-rootK))*(rootK,-rootK))),())=(frobF x,()))) (by kernel_rfl) ?_
 repeat refine⟨trivial,?_⟩
 rfl
end Go.Proofs.YtbeeaekepmnfhaaGreatDoor.tower
namespace Go.Proofs.YtbeeaekepmnfhaaGreatDoor.pairing
open Go Go.Eng Go.RowKit Cr Go.Proofs.YtbeeaekepmnfhaaGreatDoor Go.Proofs.YtbeeaekepmnfhaaGreatDoor.fp2 Go.Proofs.YtbeeaekepmnfhaaGreatDoor.tower
abbrev pt1:Kd:=.pair .fp .fp
abbrev pt2:Kd:=.pair f2 f2
abbrev plk:Kd:=.pair f2 (.pair f2 f2)
def sk (x:F2) (k:Fp):F2:=(x.1*k,x.2*k)
noncomputable def twF (t:F2 × F2 × F2) (p:Fp × Fp):(F2 × F2 × F2) × (F2 × F2 × F2) :=
 let xx:=t.1*t.1;let yy:=t.2.1*t.2.1;let zz:=t.2.2*t.2.2;let slope:=xx+xx+xx
 let d0:=yy*yy;let d1:=d0+d0;let d2:=d1+d1;let eight:=d2+d2
 let f0:=t.1*yy;let f1:=f0+f0;let four:=f1+f1
 let x:=slope*slope-(four+four);let y:=slope*(four-x)-eight;let z:=t.2.1*t.2.2+t.2.1*t.2.2
 ((x,y,z),(slope*t.1-(yy+yy),-(sk (slope*zz) p.1),sk (z*zz) p.2))
noncomputable def two (t:F2 × F2 × F2) (p:Fp × Fp):(F2 × F2 × F2) × (F2 × F2 × F2):=opq (twF t p)
noncomputable def plF (t:F2 × F2 × F2) (q:F2 × F2) (p:Fp × Fp):(F2 × F2 × F2) × (F2 × F2 × F2) :=
 let zz:=t.2.2*t.2.2;let wide:=q.1*zz-t.1;let high:=q.2*(zz*t.2.2)-t.2.1
 let square:=wide*wide;let cube:=square*wide;let part:=t.1*square
 let x:=high*high-cube-(part+part);let y:=high*(part-x)-t.2.1*cube;let z:=t.2.2*wide
 ((x,y,z),(high*q.1-z*q.2,-(sk high p.1),sk z p.2))
noncomputable def plo (t:F2 × F2 × F2) (q:F2 × F2) (p:Fp × Fp):(F2 × F2 × F2) × (F2 × F2 × F2):=opq (plF t q p)
theorem ent_twice:enters Tryz.prog 187 Tryz.f187:=ek
theorem fn_twice:FnOk Tryz.prog 187 [plk,pt1] [.val plk,.val plk] noG (fun _=>True) (fun (t,p,_)=>((two t p).1,(two t p).2,())):=by
 refine fn_of_vc (sp:=sps [fp2.spSquare,fp2.spMul,fp2.spAdd,fp2.spSub,fp2.spDouble,fp2.spScale,fp2.spNeg]) (spk (fok fp2.fn_square) (spk (fok fp2.fn_mul) (spk (fok fp2.fn_add) (spk (fok fp2.fn_sub) (spk (fok fp2.fn_double) (spk (fok fp2.fn_scale) (spk (fok fp2.fn_neg) snl))))))) mixed ent_twice (by decide) (by decide) ?_
 rintro w M0 ⟨t,p,⟨⟩⟩
 revert t p
 intro (t:F2 × F2 × F2) (p:Fp × Fp) _ _
 refine vcx (X:=(True/\True/\True/\True/\True/\True/\True/\True/\True/\True/\True/\True/\True/\True/\True/\True/\True/\True/\True/\True/\True/\True/\True/\True/\True/\True/\True/\True/\(((t.fst*t.fst+t.fst*t.fst+t.fst*t.fst)*(t.fst*t.fst+t.fst*t.fst+t.fst*t.fst)-(t.fst*(t.snd.fst*t.snd.fst)+t.fst*(t.snd.fst*t.snd.fst)+(t.fst*(t.snd.fst*t.snd.fst)+t.fst*(t.snd.fst*t.snd.fst))+(t.fst*(t.snd.fst*t.snd.fst)+t.fst*(t.snd.fst*t.snd.fst)+(t.fst*(t.snd.fst*t.snd.fst)+t.fst*(t.snd.fst*t.snd.fst)))),(t.fst*t.fst+t.fst*t.fst+t.fst*t.fst)*(t.fst*(t.snd.fst*t.snd.fst)+t.fst*(t.snd.fst*t.snd.fst)+(t.fst*(t.snd.fst*t.snd.fst)+t.fst*(t.snd.fst*t.snd.fst))-((t.fst*t.fst+t.fst*t.fst+t.fst*t.fst)*(t.fst*t.fst+t.fst*t.fst+t.fst*t.fst)-(t.fst*(t.snd.fst*t.snd.fst)+t.fst*(t.snd.fst*t.snd.fst)+(t.fst*(t.snd.fst*t.snd.fst)+t.fst*(t.snd.fst*t.snd.fst))+(t.fst*(t.snd.fst*t.snd.fst)+t.fst*(t.snd.fst*t.snd.fst)+(t.fst*(t.snd.fst*t.snd.fst)+t.fst*(t.snd.fst*t.snd.fst))))))-(t.snd.fst*t.snd.fst*(t.snd.fst*t.snd.fst)+t.snd.fst*t.snd.fst*(t.snd.fst*t.snd.fst)+(t.snd.fst*t.snd.fst*(t.snd.fst*t.snd.fst)+t.snd.fst*t.snd.fst*(t.snd.fst*t.snd.fst))+(t.snd.fst*t.snd.fst*(t.snd.fst*t.snd.fst)+t.snd.fst*t.snd.fst*(t.snd.fst*t.snd.fst)+(t.snd.fst*t.snd.fst*(t.snd.fst*t.snd.fst)+t.snd.fst*t.snd.fst*(t.snd.fst*t.snd.fst)))),t.snd.fst*t.snd.snd+t.snd.fst*t.snd.snd),((t.fst*t.fst+t.fst*t.fst+t.fst*t.fst)*t.fst-(t.snd.fst*t.snd.fst+t.snd.fst*t.snd.fst),-(((t.fst*t.fst+t.fst*t.fst+t.fst*t.fst)*(t.snd.snd*t.snd.snd)).fst*p.fst,((t.fst*t.fst+t.fst*t.fst+t.fst*t.fst)*(t.snd.snd*t.snd.snd)).snd*p.fst),((t.snd.fst*t.snd.snd+t.snd.fst*t.snd.snd)*(t.snd.snd*t.snd.snd)).fst*p.snd,((t.snd.fst*t.snd.snd+t.snd.fst*t.snd.snd)*(t.snd.snd*t.snd.snd)).snd*p.snd),())=((two t p).fst,(two t p).snd,()))) (by kernel_rfl) ?_
 repeat refine⟨trivial,?_⟩
 rw[two,opq_eq]
 rfl
noncomputable def spTwice:Nat × Eng.Spec:=(187,fnSpec [plk,pt1] [.val plk,.val plk] (fun _=>True) (fun (t,p,_)=>((two t p).1,(two t p).2,())))
theorem ent_plus:enters Tryz.prog 189 Tryz.f189:=ek
theorem fn_plus:FnOk Tryz.prog 189 [plk,pt2,pt1] [.val plk,.val plk] noG (fun _=>True) (fun (t,q,p,_)=>((plo t q p).1,(plo t q p).2,())):=by
 refine fn_of_vc (sp:=sps [fp2.spSquare,fp2.spMul,fp2.spAdd,fp2.spSub,fp2.spDouble,fp2.spScale,fp2.spNeg]) (spk (fok fp2.fn_square) (spk (fok fp2.fn_mul) (spk (fok fp2.fn_add) (spk (fok fp2.fn_sub) (spk (fok fp2.fn_double) (spk (fok fp2.fn_scale) (spk (fok fp2.fn_neg) snl))))))) mixed ent_plus (by decide) (by decide) ?_
 rintro w M0 ⟨t,q,p,⟨⟩⟩
 revert t q p
 intro (t:F2 × F2 × F2) (q:F2 × F2) (p:Fp × Fp) _ _
 refine vcx (X:=(True/\True/\True/\True/\True/\True/\True/\True/\True/\True/\True/\True/\True/\True/\True/\True/\True/\True/\True/\True/\True/\True/\True/\True/\(((q.snd*(t.snd.snd*t.snd.snd*t.snd.snd)-t.snd.fst)*(q.snd*(t.snd.snd*t.snd.snd*t.snd.snd)-t.snd.fst)-(q.fst*(t.snd.snd*t.snd.snd)-t.fst)*(q.fst*(t.snd.snd*t.snd.snd)-t.fst)*(q.fst*(t.snd.snd*t.snd.snd)-t.fst)-(t.fst*((q.fst*(t.snd.snd*t.snd.snd)-t.fst)*(q.fst*(t.snd.snd*t.snd.snd)-t.fst))+t.fst*((q.fst*(t.snd.snd*t.snd.snd)-t.fst)*(q.fst*(t.snd.snd*t.snd.snd)-t.fst))),(q.snd*(t.snd.snd*t.snd.snd*t.snd.snd)-t.snd.fst)*(t.fst*((q.fst*(t.snd.snd*t.snd.snd)-t.fst)*(q.fst*(t.snd.snd*t.snd.snd)-t.fst))-((q.snd*(t.snd.snd*t.snd.snd*t.snd.snd)-t.snd.fst)*(q.snd*(t.snd.snd*t.snd.snd*t.snd.snd)-t.snd.fst)-(q.fst*(t.snd.snd*t.snd.snd)-t.fst)*(q.fst*(t.snd.snd*t.snd.snd)-t.fst)*(q.fst*(t.snd.snd*t.snd.snd)-t.fst)-(t.fst*((q.fst*(t.snd.snd*t.snd.snd)-t.fst)*(q.fst*(t.snd.snd*t.snd.snd)-t.fst))+t.fst*((q.fst*(t.snd.snd*t.snd.snd)-t.fst)*(q.fst*(t.snd.snd*t.snd.snd)-t.fst)))))-t.snd.fst*((q.fst*(t.snd.snd*t.snd.snd)-t.fst)*(q.fst*(t.snd.snd*t.snd.snd)-t.fst)*(q.fst*(t.snd.snd*t.snd.snd)-t.fst)),t.snd.snd*(q.fst*(t.snd.snd*t.snd.snd)-t.fst)),((q.snd*(t.snd.snd*t.snd.snd*t.snd.snd)-t.snd.fst)*q.fst-t.snd.snd*(q.fst*(t.snd.snd*t.snd.snd)-t.fst)*q.snd,-((q.snd*(t.snd.snd*t.snd.snd*t.snd.snd)-t.snd.fst).fst*p.fst,(q.snd*(t.snd.snd*t.snd.snd*t.snd.snd)-t.snd.fst).snd*p.fst),(t.snd.snd*(q.fst*(t.snd.snd*t.snd.snd)-t.fst)).fst*p.snd,(t.snd.snd*(q.fst*(t.snd.snd*t.snd.snd)-t.fst)).snd*p.snd),())=((plo t q p).fst,(plo t q p).snd,()))) (by kernel_rfl) ?_
 repeat refine⟨trivial,?_⟩
 rw[plo,opq_eq]
 rfl
noncomputable def spPlus:Nat × Eng.Spec:=(189,fnSpec [plk,pt2,pt1] [.val plk,.val plk] (fun _=>True) (fun (t,q,p,_)=>((plo t q p).1,(plo t q p).2,())))
end Go.Proofs.YtbeeaekepmnfhaaGreatDoor.pairing
namespace Go.Proofs.YtbeeaekepmnfhaaGreatDoor.pairing
noncomputable section
open Go Go.Eng Go.RowKit Cr fp2 tower
theorem ent_bytes:enters Tryz.prog 184 Tryz.f184:=ek
def byE (n:Int) (i:Nat):Int:=IntKind.u8.wrap (n.fdiv (2^(56-8*i)))
def byK (n:Int) (k:Nat):List Int:=(List.range k).map (byE n)++List.replicate (8-k) 0
def byo (n:Int):List Int:=opq (byK n 8)
def byS (n:Int) (g:Int × List Int):St:=mkSt Tryz.f184.ntmps 48 [(0,sI .u64 n),(3,.is (.one (.sl 8 0 0 8 1))),(7,sI .i64 8),(8,sI .i64 g.1)] [(8,[.ints .u8 8 g.2])]
theorem byK_len (n:Int) (k:Nat) (h:k<=8):(byK n k).length=8:=by simp[byK];omega
theorem byo_len (n:Int):(byo n).length=8:=by rw[byo,opq_eq,byK_len n 8 (by decide)]
theorem byK_set (n:Int) (k:Nat) (h:k<8):(byK n k).set k (byE n k)=byK n (k+1):=by
 unfold byK
 rw[List.set_append_right _ _ (by simp),show 8-k=(8-(k+1))+1 by omega,List.replicate_succ]
 rw[show k-((List.range k).map (byE n)).length=0 by simp,List.set_cons_zero,List.range_succ,List.map_append,List.append_assoc]
 rfl
theorem fn_bytes:FnOk Tryz.prog 184 [.int .u64] [.own (.int .u8)] noG (fun _=>True) (fun (n,_)=>(byo n,())):=by
 have hsp:SpecsOk Tryz.prog (sps []):=snl
 refine fn_of_tr (sp:=sps []) ent_bytes (by decide) (by decide) (by kernel_rfl) ?_
 rintro w M0 ⟨n,⟨⟩⟩
 revert n
 intro (n:Int) _ _
 show Tr _ _ _ _ _ _ _
 refine tr_cut hsp mixed 3 (byS n (0,List.replicate 8 0)) True ?_ (fun _=>?_)
 ·refine vcx (X:=(((0:Int)<=(8:Int)/\(8:Int)<=(8:Int)/\(↑(1:Nat):Int)*(8:Int)<=(281474976710656:Int)/\(8:Int)<=(9223372036854775807:Int))/\(byS n ((0:Int),List.replicate (8:Nat) (0:Int))).triv True)) (by kernel_rfl) ?_
  exact⟨⟨by decide,by decide,by decide,by decide⟩,tvi trivial⟩
 refine tr_while hsp mixed noSw (fun σ=>(rdS (.int .i64) 8 σ,rdR (.int .u8) 8 σ)) (byS n) (fun g=>∃ k:Nat,k<=8/\g.1=(k:Int)/\g.2=byK n k) (fun g=>8-g.1.toNat)
  (fun σ=>(rdS (.int .i64) 8 σ,rdR (.int .u8) 8 σ)) (byS n) (fun g=>g.2=byK n 8) (0,List.replicate 8 0) (c:=nthC (codeOf Tryz.f184) 3) (by kernel_rfl) (by kernel_rfl) (le_of_proj (by kernel_rfl) (by kernel_rfl) ?_) ?_ ?_
 ·exact⟨0,by decide,rfl,rfl⟩
 ·rintro⟨i,l⟩ hj
  revert i l
  intro (i:Int) (l:List Int) ⟨k,hk,ei,el⟩
  have ei:i=(k:Int):=ei
  have kl:l=byK n k:=el
  subst ei
  refine vcx (X:=((decide ((↑k:Int)<(8:Int))=true->(0:Int)<=IntKind.i64.wrap ((56:Int)-IntKind.i64.wrap ((8:Int)*(↑k:Int)))/\((0:Int)<=(↑k:Int)/\(↑k:Int)<(↑(8:Nat):Int))/\(↑k:Int).toNat<(8:Nat)/\(byS n (IntKind.i64.wrap ((↑k:Int)+(1:Int)),l.set (↑k:Int).toNat (IntKind.u8.wrap (n.fdiv ((2:Int)^min (IntKind.i64.wrap ((56:Int)-IntKind.i64.wrap ((8:Int)*(↑k:Int)))).toNat IntKind.u64.bits))))).triv ((∃ k_1,k_1<=(8:Nat)/\IntKind.i64.wrap ((↑k:Int)+(1:Int))=(↑k_1:Int)/\l.set (↑k:Int).toNat (IntKind.u8.wrap (n.fdiv ((2:Int)^min (IntKind.i64.wrap ((56:Int)-IntKind.i64.wrap ((8:Int)*(↑k:Int)))).toNat IntKind.u64.bits)))=byK n k_1)/\(8:Nat)-(IntKind.i64.wrap ((↑k:Int)+(1:Int))).toNat<(8:Nat)-(↑k:Int).toNat))/\(decide ((↑k:Int)<(8:Int))=false->(byS n ((↑k:Int),l)).triv (l=byK n (8:Nat))))) (by kernel_rfl) ?_
  refine⟨fun h=>?_,fun h=>tvi ?_⟩
  ·have h8:k<8:=by have:=of_decide_eq_true h;omega
   have e0:IntKind.i64.wrap (56-IntKind.i64.wrap (8*(k:Int)))=((56-8*k:Nat):Int):=by
    rw[wrap_i64' (a:=8*(k:Int)) (by omega) (by omega),wrap_i64' (by omega) (by omega)];omega
   have hm:min (56-8*k) IntKind.u64.bits=56-8*k:=Nat.min_eq_left (show 56-8*k<=64 by omega)
   rw[e0,wrap_succ (by omega)]
   simp only[Int.toNat_natCast]
   rw[hm]
   exact⟨by omega,⟨by omega,by omega⟩,h8,tvi ⟨⟨k+1,h8,rfl,by rw[kl];exact byK_set n k h8⟩,by omega⟩⟩
  ·have h8:k=8:=by have:=of_decide_eq_false h;omega
   rw[kl,h8]
 rintro⟨i,l⟩ hl
 revert i l
 intro (i:Int) (l:List Int) (hl:l=byK n 8)
 refine tr_vc hsp mixed _ _ ?_
 refine vcx (X:=(0+8<=8/\(List.take 8 l,())=(byo n,()))) (by kernel_rfl) ?_
 refine⟨by decide,?_⟩
 rw[hl,byo,opq_eq,List.take_of_length_le (by rw[byK_len n 8 (by decide)];decide)]
def spBytes:Nat × Eng.Spec:=(184,fnSpec [.int .u64] [.own (.int .u8)] (fun _=>True) (fun (n,_)=>(byo n,())))
theorem wrap_u8' (x:Int):IntKind.u8.wrap x=x%256:=by
 simp only[IntKind.wrap,IntKind.signed,IntKind.bits]
 simp
theorem byo_Bs (n:Int):Bs (byo n):=by
 intro x hx
 rw[byo,opq_eq,byK] at hx
 simp only[Nat.sub_self,List.replicate_zero,List.append_nil,List.mem_map] at hx
 obtain⟨i,_,rfl⟩:=hx
 rw[byE,wrap_u8']
 omega
def frb (x:F12):F12:=opq (tower.frobF x)
def cjo (x:F12):F12:=opq (conj12 x)
def ivo (x:F12):F12:=opq (Fd.inv x)
theorem fo_frob:FnOk Tryz.prog 183 [f12k] [.val f12k] noG (fun _=>True) (fun (x,_)=>(frb x,())):=tower.fn_frob.out (by rintro⟨x,⟨⟩⟩;show (frb x,())=(tower.frobF x,());rw[frb,opq_eq])
theorem fo_conj:FnOk Tryz.prog 180 [f12k] [.val f12k] noG (fun _=>True) (fun (x,_)=>(cjo x,())):=tower.fn_conj.out (by rintro⟨x,⟨⟩⟩;show (cjo x,())=(conj12 x,());rw[cjo,opq_eq])
theorem fo_inv:FnOk Tryz.prog 182 [f12k] [.val f12k] noG (fun _=>True) (fun (x,_)=>(ivo x,())):=tower.fn_inv.out (by rintro⟨x,⟨⟩⟩;show (ivo x,())=(Fd.inv (x:F12),());rw[ivo,opq_eq])
def soFrob:Nat × Eng.Spec:=(183,fnSpec [f12k] [.val f12k] (fun _=>True) (fun (x,_)=>(frb x,())))
def soConj:Nat × Eng.Spec:=(180,fnSpec [f12k] [.val f12k] (fun _=>True) (fun (x,_)=>(cjo x,())))
def soInv:Nat × Eng.Spec:=(182,fnSpec [f12k] [.val f12k] (fun _=>True) (fun (x,_)=>(ivo x,())))
def finE (f:F12):F12:=frb (frb (cjo f*ivo f))*(cjo f*ivo f)
def pw8 (x:F12) (n:Int):F12:=pwo x (num (byo n)).toNat
def finA (f:F12):F12:=pw8 (pw8 f 15132376222941642753) 15132376222941642753
def finB (a:F12):F12:=cjo (pw8 a 15132376222941642752)*frb a
def finC (b:F12):F12:=pw8 (pw8 b 15132376222941642752) 15132376222941642752*frb (frb b)*cjo b
def finF (f:F12):F12:=finC (finB (finA (finE f)))*(finE f*finE f)*finE f
def fino (f:F12):F12:=opq (finF f)
theorem ent_finish:enters Tryz.prog 143 Tryz.f143:=ek
theorem fn_finish:FnOk Tryz.prog 143 [f12k] [.val f12k] noG (fun _=>True) (fun (f,_)=>(fino f,())):=by
 refine fn_of_vc (sp:=sps [soConj,soInv,tower.spMul,soFrob,spBytes,tower.spPower,tower.spSquare]) (spk (fok fo_conj) (spk (fok fo_inv) (spk (fok tower.fn_mul) (spk (fok fo_frob) (spk (fok fn_bytes) (spk (fok tower.fn_power) (spk (fok tower.fn_square) snl))))))) mixed ent_finish (by decide) (by decide) ?_
 rintro w M0 ⟨f,⟨⟩⟩
 revert f
 intro (f:F12) _ _
 refine vcx (X:=(True/\True/\True/\True/\True/\True/\True/\True/\(0:Nat)+(byo (15132376222941642753:Int)).length<=(byo (15132376222941642753:Int)).length/\prePow (frb (frb (cjo f*ivo f))*(cjo f*ivo f),List.take (byo (15132376222941642753:Int)).length (byo (15132376222941642753:Int)),())/\(0:Nat)+(byo (15132376222941642753:Int)).length<=(byo (15132376222941642753:Int)).length/\prePow (pwo (frb (frb (cjo f*ivo f))*(cjo f*ivo f)) (num (List.take (byo (15132376222941642753:Int)).length (byo (15132376222941642753:Int)))).toNat,List.take (byo (15132376222941642753:Int)).length (byo (15132376222941642753:Int)),())/\(0:Nat)+(byo (15132376222941642752:Int)).length<=(byo (15132376222941642752:Int)).length/\prePow (pwo (pwo (frb (frb (cjo f*ivo f))*(cjo f*ivo f)) (num (List.take (byo (15132376222941642753:Int)).length (byo (15132376222941642753:Int)))).toNat) (num (List.take (byo (15132376222941642753:Int)).length (byo (15132376222941642753:Int)))).toNat,List.take (byo (15132376222941642752:Int)).length (byo (15132376222941642752:Int)),())/\True/\True/\True/\(0:Nat)+(byo (15132376222941642752:Int)).length<=(byo (15132376222941642752:Int)).length/\prePow (cjo (pwo (pwo (pwo (frb (frb (cjo f*ivo f))*(cjo f*ivo f)) (num (List.take (byo (15132376222941642753:Int)).length (byo (15132376222941642753:Int)))).toNat) (num (List.take (byo (15132376222941642753:Int)).length (byo (15132376222941642753:Int)))).toNat) (num (List.take (byo (15132376222941642752:Int)).length (byo (15132376222941642752:Int)))).toNat)*frb (pwo (pwo (frb (frb (cjo f*ivo f))*(cjo f*ivo f)) (num (List.take (byo (15132376222941642753:Int)).length (byo (15132376222941642753:Int)))).toNat) (num (List.take (byo (15132376222941642753:Int)).length (byo (15132376222941642753:Int)))).toNat),List.take (byo (15132376222941642752:Int)).length (byo (15132376222941642752:Int)),())/\(0:Nat)+(byo (15132376222941642752:Int)).length<=(byo (15132376222941642752:Int)).length/\prePow (pwo (cjo (pwo (pwo (pwo (frb (frb (cjo f*ivo f))*(cjo f*ivo f)) (num (List.take (byo (15132376222941642753:Int)).length (byo (15132376222941642753:Int)))).toNat) (num (List.take (byo (15132376222941642753:Int)).length (byo (15132376222941642753:Int)))).toNat) (num (List.take (byo (15132376222941642752:Int)).length (byo (15132376222941642752:Int)))).toNat)*frb (pwo (pwo (frb (frb (cjo f*ivo f))*(cjo f*ivo f)) (num (List.take (byo (15132376222941642753:Int)).length (byo (15132376222941642753:Int)))).toNat) (num (List.take (byo (15132376222941642753:Int)).length (byo (15132376222941642753:Int)))).toNat)) (num (List.take (byo (15132376222941642752:Int)).length (byo (15132376222941642752:Int)))).toNat,List.take (byo (15132376222941642752:Int)).length (byo (15132376222941642752:Int)),())/\True/\True/\True/\True/\True/\True/\True/\True/\(pwo (pwo (cjo (pwo (pwo (pwo (frb (frb (cjo f*ivo f))*(cjo f*ivo f)) (num (List.take (byo (15132376222941642753:Int)).length (byo (15132376222941642753:Int)))).toNat) (num (List.take (byo (15132376222941642753:Int)).length (byo (15132376222941642753:Int)))).toNat) (num (List.take (byo (15132376222941642752:Int)).length (byo (15132376222941642752:Int)))).toNat)*frb (pwo (pwo (frb (frb (cjo f*ivo f))*(cjo f*ivo f)) (num (List.take (byo (15132376222941642753:Int)).length (byo (15132376222941642753:Int)))).toNat) (num (List.take (byo (15132376222941642753:Int)).length (byo (15132376222941642753:Int)))).toNat)) (num (List.take (byo (15132376222941642752:Int)).length (byo (15132376222941642752:Int)))).toNat) (num (List.take (byo (15132376222941642752:Int)).length (byo (15132376222941642752:Int)))).toNat*frb (frb (cjo (pwo (pwo (pwo (frb (frb (cjo f*ivo f))*(cjo f*ivo f)) (num (List.take (byo (15132376222941642753:Int)).length (byo (15132376222941642753:Int)))).toNat) (num (List.take (byo (15132376222941642753:Int)).length (byo (15132376222941642753:Int)))).toNat) (num (List.take (byo (15132376222941642752:Int)).length (byo (15132376222941642752:Int)))).toNat)*frb (pwo (pwo (frb (frb (cjo f*ivo f))*(cjo f*ivo f)) (num (List.take (byo (15132376222941642753:Int)).length (byo (15132376222941642753:Int)))).toNat) (num (List.take (byo (15132376222941642753:Int)).length (byo (15132376222941642753:Int)))).toNat)))*cjo (cjo (pwo (pwo (pwo (frb (frb (cjo f*ivo f))*(cjo f*ivo f)) (num (List.take (byo (15132376222941642753:Int)).length (byo (15132376222941642753:Int)))).toNat) (num (List.take (byo (15132376222941642753:Int)).length (byo (15132376222941642753:Int)))).toNat) (num (List.take (byo (15132376222941642752:Int)).length (byo (15132376222941642752:Int)))).toNat)*frb (pwo (pwo (frb (frb (cjo f*ivo f))*(cjo f*ivo f)) (num (List.take (byo (15132376222941642753:Int)).length (byo (15132376222941642753:Int)))).toNat) (num (List.take (byo (15132376222941642753:Int)).length (byo (15132376222941642753:Int)))).toNat))*(frb (frb (cjo f*ivo f))*(cjo f*ivo f)*(frb (frb (cjo f*ivo f))*(cjo f*ivo f)))*(frb (frb (cjo f*ivo f))*(cjo f*ivo f)),())=(fino f,()))) (by kernel_rfl) ?_
 have l1:=byo_len 15132376222941642753
 have l2:=byo_len 15132376222941642752
 have b1:=byo_Bs 15132376222941642753
 have b2:=byo_Bs 15132376222941642752
 have p1:∀ x:F12,prePow (x,byo 15132376222941642753,()):=fun _=>⟨b1,by show (byo 15132376222941642753).length<=_;omega⟩
 have p2:∀ x:F12,prePow (x,byo 15132376222941642752,()):=fun _=>⟨b2,by show (byo 15132376222941642752).length<=_;omega⟩
 rw[List.take_length,List.take_length]
 repeat first|refine⟨trivial,?_⟩|refine⟨p1 _,?_⟩|refine⟨p2 _,?_⟩|refine⟨by omega,?_⟩
 rw[fino,opq_eq]
 rfl
def spFinish:Nat × Eng.Spec:=(143,fnSpec [f12k] [.val f12k] (fun _=>True) (fun (f,_)=>(fino f,())))
end
end Go.Proofs.YtbeeaekepmnfhaaGreatDoor.pairing
namespace Go.Proofs.YtbeeaekepmnfhaaGreatDoor.pairing
open Go Go.Eng Go.RowKit Cr fp2 tower
def balPrn0:ByteArray:=(ByteArray.mk ((([(0:UInt8),(1:UInt8),(2:UInt8),(2:UInt8),(3:UInt8),(3:UInt8),(3:UInt8),(3:UInt8),(4:UInt8),(4:UInt8),(4:UInt8),(4:UInt8),(4:UInt8),(4:UInt8),(4:UInt8),(4:UInt8),(5:UInt8),(5:UInt8),(5:UInt8),(5:UInt8),(5:UInt8),(5:UInt8),(5:UInt8),(5:UInt8),(5:UInt8),(5:UInt8),(5:UInt8),(5:UInt8),(5:UInt8),(5:UInt8),(5:UInt8),(5:UInt8),(6:UInt8),(6:UInt8),(6:UInt8),(6:UInt8),(6:UInt8),(6:UInt8),(6:UInt8),(6:UInt8),(6:UInt8),(6:UInt8),(6:UInt8),(6:UInt8),(6:UInt8),(6:UInt8),(6:UInt8),(6:UInt8),(6:UInt8),(6:UInt8),(6:UInt8),(6:UInt8),(6:UInt8),(6:UInt8),(6:UInt8),(6:UInt8),(6:UInt8),(6:UInt8),(6:UInt8),(6:UInt8),(6:UInt8),(6:UInt8),(6:UInt8),(6:UInt8)].append [(7:UInt8),(7:UInt8),(7:UInt8),(7:UInt8),(7:UInt8),(7:UInt8),(7:UInt8),(7:UInt8),(7:UInt8),(7:UInt8),(7:UInt8),(7:UInt8),(7:UInt8),(7:UInt8),(7:UInt8),(7:UInt8),(7:UInt8),(7:UInt8),(7:UInt8),(7:UInt8),(7:UInt8),(7:UInt8),(7:UInt8),(7:UInt8),(7:UInt8),(7:UInt8),(7:UInt8),(7:UInt8),(7:UInt8),(7:UInt8),(7:UInt8),(7:UInt8),(7:UInt8),(7:UInt8),(7:UInt8),(7:UInt8),(7:UInt8),(7:UInt8),(7:UInt8),(7:UInt8),(7:UInt8),(7:UInt8),(7:UInt8),(7:UInt8),(7:UInt8),(7:UInt8),(7:UInt8),(7:UInt8),(7:UInt8),(7:UInt8),(7:UInt8),(7:UInt8),(7:UInt8),(7:UInt8),(7:UInt8),(7:UInt8),(7:UInt8),(7:UInt8),(7:UInt8),(7:UInt8),(7:UInt8),(7:UInt8),(7:UInt8),(7:UInt8)]).append ([(8:UInt8),(8:UInt8),(8:UInt8),(8:UInt8),(8:UInt8),(8:UInt8),(8:UInt8),(8:UInt8),(8:UInt8),(8:UInt8),(8:UInt8),(8:UInt8),(8:UInt8),(8:UInt8),(8:UInt8),(8:UInt8),(8:UInt8),(8:UInt8),(8:UInt8),(8:UInt8),(8:UInt8),(8:UInt8),(8:UInt8),(8:UInt8),(8:UInt8),(8:UInt8),(8:UInt8),(8:UInt8),(8:UInt8),(8:UInt8),(8:UInt8),(8:UInt8),(8:UInt8),(8:UInt8),(8:UInt8),(8:UInt8),(8:UInt8),(8:UInt8),(8:UInt8),(8:UInt8),(8:UInt8),(8:UInt8),(8:UInt8),(8:UInt8),(8:UInt8),(8:UInt8),(8:UInt8),(8:UInt8),(8:UInt8),(8:UInt8),(8:UInt8),(8:UInt8),(8:UInt8),(8:UInt8),(8:UInt8),(8:UInt8),(8:UInt8),(8:UInt8),(8:UInt8),(8:UInt8),(8:UInt8),(8:UInt8),(8:UInt8),(8:UInt8)].append [(8:UInt8),(8:UInt8),(8:UInt8),(8:UInt8),(8:UInt8),(8:UInt8),(8:UInt8),(8:UInt8),(8:UInt8),(8:UInt8),(8:UInt8),(8:UInt8),(8:UInt8),(8:UInt8),(8:UInt8),(8:UInt8),(8:UInt8),(8:UInt8),(8:UInt8),(8:UInt8),(8:UInt8),(8:UInt8),(8:UInt8),(8:UInt8),(8:UInt8),(8:UInt8),(8:UInt8),(8:UInt8),(8:UInt8),(8:UInt8),(8:UInt8),(8:UInt8),(8:UInt8),(8:UInt8),(8:UInt8),(8:UInt8),(8:UInt8),(8:UInt8),(8:UInt8),(8:UInt8),(8:UInt8),(8:UInt8),(8:UInt8),(8:UInt8),(8:UInt8),(8:UInt8),(8:UInt8),(8:UInt8),(8:UInt8),(8:UInt8),(8:UInt8),(8:UInt8),(8:UInt8),(8:UInt8),(8:UInt8),(8:UInt8),(8:UInt8),(8:UInt8),(8:UInt8),(8:UInt8),(8:UInt8),(8:UInt8),(8:UInt8),(8:UInt8)])).toArray ))
theorem ent_len64:enters Tryz.prog 138 Tryz.f138:=ek
theorem fn_len64:FnOk Tryz.prog 138 [.int .u64] [.val (.int .i64)] noG (fun (n,_)=>n=(15132376222941642752:Int)) (fun _=>((64:Int),())):=by
 refine fn_of_vc (sp:=sps []) snl mixed ent_len64 (by decide) (by decide) ?_
 rintro w M0 ⟨n,⟨⟩⟩
 revert n
 intro (n:Int) _ hn
 have hn:n=(15132376222941642752:Int):=hn
 subst hn
 refine vcx (X:=((decide ((15132376222941642752:Int)>=(4294967296:Int))=true->(0:Int)<=(32:Int)/\(decide (Int.fdiv (15132376222941642752:Int) ((2:Int)^min (32:Nat) IntKind.u64.bits)>=(65536:Int))=true->(0:Int)<=(16:Int)/\(decide ((Int.fdiv (15132376222941642752:Int) ((2:Int)^min (32:Nat) IntKind.u64.bits)).fdiv ((2:Int)^min (16:Nat) IntKind.u64.bits)>=(256:Int))=true->(0:Int)<=(8:Int)/\((0:Int)<=IntKind.u8.wrap (((Int.fdiv (15132376222941642752:Int) ((2:Int)^min (32:Nat) IntKind.u64.bits)).fdiv ((2:Int)^min (16:Nat) IntKind.u64.bits)).fdiv ((2:Int)^min (8:Nat) IntKind.u64.bits))/\IntKind.u8.wrap (((Int.fdiv (15132376222941642752:Int) ((2:Int)^min (32:Nat) IntKind.u64.bits)).fdiv ((2:Int)^min (16:Nat) IntKind.u64.bits)).fdiv ((2:Int)^min (8:Nat) IntKind.u64.bits))<(↑balPrn0.size:Int))/\(IntKind.i64.wrap (IntKind.i64.wrap (IntKind.i64.wrap ((32:Int)+(16:Int))+(8:Int))+IntKind.i64.wrap (↑(UInt8.toNat (8:UInt8)):Int)),())=((64:Int),()))/\(decide ((Int.fdiv (15132376222941642752:Int) ((2:Int)^min (32:Nat) IntKind.u64.bits)).fdiv ((2:Int)^min (16:Nat) IntKind.u64.bits)>=(256:Int))=false->((0:Int)<=IntKind.u8.wrap ((Int.fdiv (15132376222941642752:Int) ((2:Int)^min (32:Nat) IntKind.u64.bits)).fdiv ((2:Int)^min (16:Nat) IntKind.u64.bits))/\IntKind.u8.wrap ((Int.fdiv (15132376222941642752:Int) ((2:Int)^min (32:Nat) IntKind.u64.bits)).fdiv ((2:Int)^min (16:Nat) IntKind.u64.bits))<(↑balPrn0.size:Int))/\(IntKind.i64.wrap (IntKind.i64.wrap ((32:Int)+(16:Int))+IntKind.i64.wrap (↑(UInt8.toNat (1:UInt8)):Int)),())=((64:Int),())))/\(decide (Int.fdiv (15132376222941642752:Int) ((2:Int)^min (32:Nat) IntKind.u64.bits)>=(65536:Int))=false->(decide (Int.fdiv (15132376222941642752:Int) ((2:Int)^min (32:Nat) IntKind.u64.bits)>=(256:Int))=true->(0:Int)<=(8:Int)/\((0:Int)<=IntKind.u8.wrap ((Int.fdiv (15132376222941642752:Int) ((2:Int)^min (32:Nat) IntKind.u64.bits)).fdiv ((2:Int)^min (8:Nat) IntKind.u64.bits))/\IntKind.u8.wrap ((Int.fdiv (15132376222941642752:Int) ((2:Int)^min (32:Nat) IntKind.u64.bits)).fdiv ((2:Int)^min (8:Nat) IntKind.u64.bits))<(↑balPrn0.size:Int))/\(IntKind.i64.wrap (IntKind.i64.wrap ((32:Int)+(8:Int))+IntKind.i64.wrap (↑(UInt8.toNat (0:UInt8)):Int)),())=((64:Int),()))/\(decide (Int.fdiv (15132376222941642752:Int) ((2:Int)^min (32:Nat) IntKind.u64.bits)>=(256:Int))=false->((0:Int)<=IntKind.u8.wrap (Int.fdiv (15132376222941642752:Int) ((2:Int)^min (32:Nat) IntKind.u64.bits))/\IntKind.u8.wrap (Int.fdiv (15132376222941642752:Int) ((2:Int)^min (32:Nat) IntKind.u64.bits))<(↑balPrn0.size:Int))/\(IntKind.i64.wrap ((32:Int)+IntKind.i64.wrap (↑(UInt8.toNat (0:UInt8)):Int)),())=((64:Int),()))))/\(decide ((15132376222941642752:Int)>=(4294967296:Int))=false->(decide ((15132376222941642752:Int)>=(65536:Int))=true->(0:Int)<=(16:Int)/\(decide (Int.fdiv (15132376222941642752:Int) ((2:Int)^min (16:Nat) IntKind.u64.bits)>=(256:Int))=true->(0:Int)<=(8:Int)/\((0:Int)<=IntKind.u8.wrap ((Int.fdiv (15132376222941642752:Int) ((2:Int)^min (16:Nat) IntKind.u64.bits)).fdiv ((2:Int)^min (8:Nat) IntKind.u64.bits))/\IntKind.u8.wrap ((Int.fdiv (15132376222941642752:Int) ((2:Int)^min (16:Nat) IntKind.u64.bits)).fdiv ((2:Int)^min (8:Nat) IntKind.u64.bits))<(↑balPrn0.size:Int))/\(IntKind.i64.wrap (IntKind.i64.wrap (IntKind.i64.wrap ((0:Int)+(16:Int))+(8:Int))+IntKind.i64.wrap (↑(UInt8.toNat (0:UInt8)):Int)),())=((64:Int),()))/\(decide (Int.fdiv (15132376222941642752:Int) ((2:Int)^min (16:Nat) IntKind.u64.bits)>=(256:Int))=false->((0:Int)<=IntKind.u8.wrap (Int.fdiv (15132376222941642752:Int) ((2:Int)^min (16:Nat) IntKind.u64.bits))/\IntKind.u8.wrap (Int.fdiv (15132376222941642752:Int) ((2:Int)^min (16:Nat) IntKind.u64.bits))<(↑balPrn0.size:Int))/\(IntKind.i64.wrap (IntKind.i64.wrap ((0:Int)+(16:Int))+IntKind.i64.wrap (↑(UInt8.toNat (1:UInt8)):Int)),())=((64:Int),())))/\(decide ((15132376222941642752:Int)>=(65536:Int))=false->(decide ((15132376222941642752:Int)>=(256:Int))=true->(0:Int)<=(8:Int)/\((0:Int)<=IntKind.u8.wrap (Int.fdiv (15132376222941642752:Int) ((2:Int)^min (8:Nat) IntKind.u64.bits))/\IntKind.u8.wrap (Int.fdiv (15132376222941642752:Int) ((2:Int)^min (8:Nat) IntKind.u64.bits))<(↑balPrn0.size:Int))/\(IntKind.i64.wrap (IntKind.i64.wrap ((0:Int)+(8:Int))+IntKind.i64.wrap (↑(UInt8.toNat (0:UInt8)):Int)),())=((64:Int),()))/\(decide ((15132376222941642752:Int)>=(256:Int))=false->((0:Int)<=IntKind.u8.wrap (15132376222941642752:Int)/\IntKind.u8.wrap (15132376222941642752:Int)<(↑balPrn0.size:Int))/\(IntKind.i64.wrap ((0:Int)+IntKind.i64.wrap (↑(UInt8.toNat (0:UInt8)):Int)),())=((64:Int),())))))) (by kernel_rfl) ?_
 refine⟨fun _=>⟨by decide,fun _=>⟨by decide,fun _=>⟨by decide,⟨by decide,by decide⟩,?_⟩,fun h=>absurd h (by decide)⟩,fun h=>absurd h (by decide)⟩,fun h=>absurd h (by decide)⟩
 decide
noncomputable def spLen64:Nat × Eng.Spec:=(138,fnSpec [.int .u64] [.val (.int .i64)] (fun (n,_)=>n=(15132376222941642752:Int)) (fun _=>((64:Int),())))
end Go.Proofs.YtbeeaekepmnfhaaGreatDoor.pairing
namespace Go.Proofs.YtbeeaekepmnfhaaGreatDoor.pairing
noncomputable section
open Go Go.Eng Go.RowKit Cr fp2 tower
abbrev zzPrl:(Fp × Fp) × (F2 × F2) × (F2 × F2 × F2):=(((0:Fp),(0:Fp)),(((0:Fp),(0:Fp)),(0:Fp),(0:Fp)),((0:Fp),(0:Fp)),((0:Fp),(0:Fp)),(0:Fp),(0:Fp))
abbrev prk:Kd:=.pair pt1 (.pair pt2 plk)
abbrev Pr:=(Fp × Fp) × ((F2 × F2) × (F2 × F2 × F2))
def pr1 (p:Fp × Fp) (q:F2 × F2) (l:List Pr):List Pr:=match !eqC pt1 p ((0:Fp),(0:Fp)),!eqC pt2 q (((0:Fp),(0:Fp)),(0:Fp),(0:Fp)) with
 | true,true=>l++[(p,(q,(q.1,q.2,(1:F2))))]
 | _,_=>l
def prs (ps:List (Fp × Fp)) (qs:List (F2 × F2)) (k:Nat):List Pr:=it (fun i l=>pr1 (ps.getD i ((0:Fp),(0:Fp))) (qs.getD i (((0:Fp),(0:Fp)),(0:Fp),(0:Fp))) l) [] k
theorem pr1_len (p:Fp × Fp) (q:F2 × F2) (l:List Pr):(pr1 p q l).length<=l.length+1:=by
 unfold pr1
 split
 ·simp
 ·omega
theorem prs_len (ps:List (Fp × Fp)) (qs:List (F2 × F2)):∀ k,(prs ps qs k).length<=k
 | 0=>Nat.zero_le _
 | k+1=>Nat.le_trans (pr1_len _ _ _) (Nat.succ_le_succ (prs_len ps qs k))
theorem ent_lines:enters Tryz.prog 144 Tryz.f144:=ek
abbrev preLin:HL [.sl pt1,.sl pt2]->Prop:=fun (ps,qs,_)=>List.length ps<=List.length qs/\List.length ps<=1048576
def liA (o:F2) (ps:List (Fp × Fp)) (qs:List (F2 × F2)) (g:Int × Nat × Nat × List Pr):St:=mkSt Tryz.f144.ntmps 88 [(1,.is (.one (.ro pt2 qs))),(4,.is (.one (.ptr 0 0))),(5,.is (.one (.ptr 16 0))),(6,.is (.one (.sl 48 0 0 g.2.1 72))),(19,.is (.one (.ro pt1 ps))),(20,sI .i64 ps.length),(21,sI .i64 g.1)] [(48,[.row prk g.2.2.1 g.2.2.2]),(16,cellsOf f2 o),(0,cellsOf f12k (0:F12))]
def liO (g:Nat × Nat × List Pr):St:=mkSt Tryz.f144.ntmps 88 [(4,.is (.one (.ptr 0 0))),(6,.is (.one (.sl 48 0 0 g.1 72)))] [(48,[.row prk g.2.1 g.2.2]),(0,cellsOf f12k (0:F12))]
def pbit (b:Int):Bool:=bitOp .and .u64 (Int.fdiv 15132376222941642752 (2^min b.toNat IntKind.u64.bits)) 1==1
def stF (b:Bool) (f:F12) (k:Pr):F12 × Pr:=match b with
 | false=>(f*line12 (two k.2.2 k.1).2.1 (two k.2.2 k.1).2.2.1 (two k.2.2 k.1).2.2.2,(k.1,(k.2.1,(two k.2.2 k.1).1)))
 | true=>(f*line12 (two k.2.2 k.1).2.1 (two k.2.2 k.1).2.2.1 (two k.2.2 k.1).2.2.2*line12 (plo (two k.2.2 k.1).1 k.2.1 k.1).2.1 (plo (two k.2.2 k.1).1 k.2.1 k.1).2.2.1 (plo (two k.2.2 k.1).1 k.2.1 k.1).2.2.2,(k.1,(k.2.1,(plo (two k.2.2 k.1).1 k.2.1 k.1).1)))
def inK (b:Bool) (s:F12 × List Pr) (i:Nat):F12 × List Pr:=it (fun i s=>((stF b s.1 (s.2.getD i (zeroOf prk))).1,s.2.set i (stF b s.1 (s.2.getD i (zeroOf prk))).2)) s i
theorem inK_len (b:Bool) (s:F12 × List Pr):∀ i,(inK b s i).2.length=s.2.length
 | 0=>rfl
 | i+1=>by show (List.set _ _ _).length=_;rw[List.length_set];exact inK_len b s i
def ouK (l:List Pr) (j:Nat):F12 × List Pr:=it (fun j s=>inK (pbit (62-(j:Int))) (s.1*s.1,s.2) l.length) (1,l) j
theorem ouK_len (l:List Pr):∀ j,(ouK l j).2.length=l.length
 | 0=>rfl
 | j+1=>by show (inK _ _ _).2.length=_;rw[inK_len];exact ouK_len l j
def liM (L N:Nat) (g:Int × F12 × List Pr):St:=mkSt Tryz.f144.ntmps 160 [(4,.is (.one (.ptr 0 0))),(6,.is (.one (.sl 48 0 0 L 72))),(10,.is (.one (.ptr 96 0))),(11,sI .i64 g.1)] [(48,[.row prk N g.2.2]),(96,c12 g.2.1),(0,cellsOf f12k (0:F12))]
def liN (L N:Nat) (b:Int) (g:Int × F12 × List Pr):St:=mkSt Tryz.f144.ntmps 160 [(4,.is (.one (.ptr 0 0))),(6,.is (.one (.sl 48 0 0 L 72))),(10,.is (.one (.ptr 96 0))),(11,sI .i64 b),(65,sI .i64 L),(66,sI .i64 g.1)] [(48,[.row prk N g.2.2]),(96,c12 g.2.1),(0,cellsOf f12k (0:F12))]
def liF (ps:List (Fp × Fp)) (qs:List (F2 × F2)):F12:=match (prs ps qs ps.length).length with
 | 0=>1
 | _+1=>cjo (ouK (prs ps qs ps.length) 63).1
def lino (ps:List (Fp × Fp)) (qs:List (F2 × F2)):F12:=opq (liF ps qs)
theorem fn_lines:FnOk Tryz.prog 144 [.sl pt1,.sl pt2] [.val f12k] noG preLin (fun (ps,qs,_)=>(lino ps qs,())):=by
 have hsp:SpecsOk Tryz.prog (sps [fp2.spSmall,tower.spOne,spLen64,tower.spSquare,spTwice,spPlus,tower.spLine,soConj]):=spk (fok fp2.fn_small) (spk (fok tower.fn_one) (spk (fok fn_len64) (spk (fok tower.fn_square) (spk (fok fn_twice) (spk (fok fn_plus) (spk (fok tower.fn_line) (spk (fok fo_conj) snl)))))))
 refine fn_of_tr (sp:=sps [fp2.spSmall,tower.spOne,spLen64,tower.spSquare,spTwice,spPlus,tower.spLine,soConj]) ent_lines (by decide) (by decide) (by kernel_rfl) ?_
 rintro w M0 ⟨ps,qs,⟨⟩⟩
 revert ps qs
 intro (ps:List (Fp × Fp)) (qs:List (F2 × F2)) _ hp
 have hpq:ps.length<=qs.length:=hp.1
 have hpl:ps.length<=1048576:=hp.2
 show Tr _ _ _ _ _ _ _
 refine tr_cutF hsp mixed 4 (fun σ=>(rdB f2 16 σ,rdN 48 σ,rdR prk 48 σ)) (fun g=>liA g.1 ps qs (0,0,g.2.1,g.2.2)) (fun g=>g.1=(1:F2)) ?_ ?_
 ·refine vcx (X:=((U64 (1:Int)/\U64 (0:Int))/\((0:Int)<=(0:Int)/\(0:Int)<=(↑ps.length:Int)/\(↑(576:Nat):Int)*(↑ps.length:Int)<=(281474976710656:Int)/\(↑ps.length:Int)<=(9223372036854775807:Int))/\(liA ((zmp (1:Int),zmp (0:Int)),(↑ps.length:Int).toNat,List.replicate (↑ps.length:Int).toNat zzPrl).fst ps qs ((0:Int),(0:Nat),((zmp (1:Int),zmp (0:Int)),(↑ps.length:Int).toNat,List.replicate (↑ps.length:Int).toNat zzPrl).snd.fst,((zmp (1:Int),zmp (0:Int)),(↑ps.length:Int).toNat,List.replicate (↑ps.length:Int).toNat zzPrl).snd.snd)).triv ((zmp (1:Int),zmp (0:Int))=(1:F2)))) (by kernel_rfl) ?_
  refine⟨⟨⟨by decide,by decide⟩,⟨by decide,by decide⟩⟩,⟨by decide,by omega,by omega,by omega⟩,tvi ?_⟩
  have h1:zmp 1=(1:Fp):=Zm.ext (by decide)
  have h0:zmp 0=(0:Fp):=Zm.ext (by decide)
  rw[h1,h0];rfl
 rintro⟨o,N0,x0⟩ ho
 revert o x0
 intro (o:F2) (x0:List Pr) (ho:o=(1:F2))
 refine tr_while hsp mixed (fun σ=>[(48,rdI 6 σ)]) (fun σ=>(rdS (.int .i64) 21 σ,rdL 6 σ,rdN 48 σ,rdR prk 48 σ)) (liA o ps qs) (fun g=>∃ k:Nat,k<=ps.length/\g.1=(k:Int)/\g.2.1<=g.2.2.1/\g.2.2.2.take g.2.1=prs ps qs k/\g.2.1=(prs ps qs k).length) (fun g=>ps.length-g.1.toNat)
  (fun σ=>(rdL 6 σ,rdN 48 σ,rdR prk 48 σ)) liO (fun g=>g.1<=g.2.1/\g.2.2.take g.1=prs ps qs ps.length/\g.1=(prs ps qs ps.length).length) (0,0,N0,x0) (c:=nthC (codeOf Tryz.f144) 4) (by kernel_rfl) (by kernel_rfl) (le_of_proj (by kernel_rfl) (by kernel_rfl) ?_) ?_ ?_
 ·exact⟨0,Nat.zero_le _,rfl,Nat.zero_le _,rfl,rfl⟩
 ·rintro⟨i,L,N,xs⟩ hj
  revert i xs
  intro (i:Int) (xs:List Pr) ⟨k,hk,ei,hLN,hx,hL⟩
  have ei:i=(k:Int):=ei
  subst ei
  have hLN:L<=N:=hLN
  have hx:xs.take L=prs ps qs k:=hx
  have hL:L=(prs ps qs k).length:=hL
  refine vcx (X:=((decide ((↑k:Int)<(↑ps.length:Int))=true->((0:Int)<=(↑k:Int)/\(↑k:Int)<(↑ps.length:Int))/\(↑k:Int).toNat<ps.length/\((0:Int)<=(↑k:Int)/\(↑k:Int)<(↑qs.length:Int))/\(↑k:Int).toNat<qs.length/\((!eqC (Kd.fp.pair Kd.fp) (ps.getD (↑k:Int).toNat ((0:Fp),(0:Fp))) ((0:Fp),(0:Fp)))=true->((!eqC ((Kd.fp.pair Kd.fp).pair (Kd.fp.pair Kd.fp)) (qs.getD (↑k:Int).toNat (((0:Fp),(0:Fp)),(0:Fp),(0:Fp))) (((0:Fp),(0:Fp)),(0:Fp),(0:Fp)))=true->0+1<=1/\L<=N/\(L+(1:Nat))*(576:Nat)<=(140737488355328:Nat)/\L+(1:Nat)<=(4611686018427387904:Nat)/\(liA o ps qs (IntKind.i64.wrap ((↑k:Int)+(1:Int)),L+(1:Nat),L+(1:Nat),List.take L xs++List.take 1 [(ps.getD (↑k:Int).toNat ((0:Fp),(0:Fp)),qs.getD (↑k:Int).toNat (((0:Fp),(0:Fp)),(0:Fp),(0:Fp)),(qs.getD (↑k:Int).toNat (((0:Fp),(0:Fp)),(0:Fp),(0:Fp))).fst,(qs.getD (↑k:Int).toNat (((0:Fp),(0:Fp)),(0:Fp),(0:Fp))).snd,o)])).triv ((∃ k_1,k_1<=ps.length/\IntKind.i64.wrap ((↑k:Int)+(1:Int))=(↑k_1:Int)/\L+(1:Nat)<=L+(1:Nat)/\List.take (L+(1:Nat)) (List.take L xs++List.take 1 [(ps.getD (↑k:Int).toNat ((0:Fp),(0:Fp)),qs.getD (↑k:Int).toNat (((0:Fp),(0:Fp)),(0:Fp),(0:Fp)),(qs.getD (↑k:Int).toNat (((0:Fp),(0:Fp)),(0:Fp),(0:Fp))).fst,(qs.getD (↑k:Int).toNat (((0:Fp),(0:Fp)),(0:Fp),(0:Fp))).snd,o)])=prs ps qs k_1/\L+(1:Nat)=(prs ps qs k_1).length)/\ps.length-(IntKind.i64.wrap ((↑k:Int)+(1:Int))).toNat<ps.length-(↑k:Int).toNat))/\((!eqC ((Kd.fp.pair Kd.fp).pair (Kd.fp.pair Kd.fp)) (qs.getD (↑k:Int).toNat (((0:Fp),(0:Fp)),(0:Fp),(0:Fp))) (((0:Fp),(0:Fp)),(0:Fp),(0:Fp)))=false->(liA o ps qs (IntKind.i64.wrap ((↑k:Int)+(1:Int)),L,N,xs)).triv ((∃ k_1,k_1<=ps.length/\IntKind.i64.wrap ((↑k:Int)+(1:Int))=(↑k_1:Int)/\L<=N/\List.take L xs=prs ps qs k_1/\L=(prs ps qs k_1).length)/\ps.length-(IntKind.i64.wrap ((↑k:Int)+(1:Int))).toNat<ps.length-(↑k:Int).toNat)))/\((!eqC (Kd.fp.pair Kd.fp) (ps.getD (↑k:Int).toNat ((0:Fp),(0:Fp))) ((0:Fp),(0:Fp)))=false->(liA o ps qs (IntKind.i64.wrap ((↑k:Int)+(1:Int)),L,N,xs)).triv ((∃ k_1,k_1<=ps.length/\IntKind.i64.wrap ((↑k:Int)+(1:Int))=(↑k_1:Int)/\L<=N/\List.take L xs=prs ps qs k_1/\L=(prs ps qs k_1).length)/\ps.length-(IntKind.i64.wrap ((↑k:Int)+(1:Int))).toNat<ps.length-(↑k:Int).toNat)))/\(decide ((↑k:Int)<(↑ps.length:Int))=false->(liO (L,N,xs)).triv (L<=N/\List.take L xs=prs ps qs ps.length/\L=(prs ps qs ps.length).length)))) (by kernel_rfl) ?_
  have hstep:prs ps qs (k+1)=pr1 (ps.getD k ((0:Fp),(0:Fp))) (qs.getD k (((0:Fp),(0:Fp)),(0:Fp),(0:Fp))) (prs ps qs k):=rfl
  have hle:=prs_len ps qs k
  refine⟨fun h=>?_,fun h=>tvi ?_⟩
  ·have hlt:k<ps.length:=by have:=of_decide_eq_true h;omega
   rw[wrap_succ (by omega)]
   simp only[Int.toNat_natCast]
   refine⟨⟨by omega,by omega⟩,hlt,⟨by omega,by omega⟩,by omega,fun h1=>⟨fun h2=>⟨by decide,hLN,by omega,by omega,tvi ⟨⟨k+1,hlt,rfl,Nat.le_refl _,?_,?_⟩,by omega⟩⟩,fun h2=>tvi ⟨⟨k+1,hlt,rfl,hLN,?_,?_⟩,by omega⟩⟩,fun h1=>tvi ⟨⟨k+1,hlt,rfl,hLN,?_,?_⟩,by omega⟩⟩
   ·rw[hstep,pr1,h1,h2,hx,List.take_of_length_le (by rw[List.length_append,<- hL];exact Nat.le_refl _),ho];rfl
   ·rw[hstep,pr1,h1,h2]
    show L+1=(prs ps qs k++[_]).length
    rw[List.length_append,<- hL];rfl
   ·rw[hstep,pr1,h1,h2,hx]
   ·rw[hstep,pr1,h1,h2,hL]
   ·rw[hstep,pr1,h1,hx]
   ·rw[hstep,pr1,h1,hL]
  ·have hk2:k=ps.length:=by have:=of_decide_eq_false h;omega
   rw[hk2] at hx hL
   exact⟨hLN,hx,hL⟩
 rintro⟨L,N,xs⟩ hj
 revert xs
 intro (xs:List Pr) ⟨hLN,hx,hL⟩
 have hLN:L<=N:=hLN
 have hx:xs.take L=prs ps qs ps.length:=hx
 have hL:L=(prs ps qs ps.length).length:=hL
 refine tr_cutF hsp mixed 4 (fun σ=>rdB f12k 96 σ) (fun f=>liM L N (62,f,xs)) (fun f=>f=(1:F12)/\0<L) ?_ ?_
 ·refine vcx (X:=(True/\(((↑L:Int)==(0:Int))=true->(((((1:Fp),(0:Fp)),((0:Fp),(0:Fp)),(0:Fp),(0:Fp)),((0:Fp),(0:Fp)),((0:Fp),(0:Fp)),(0:Fp),(0:Fp)),())=(lino ps qs,()))/\(((↑L:Int)==(0:Int))=false->(15132376222941642752:Int)=(15132376222941642752:Int)/\(liM L N ((62:Int),((((1:Fp),(0:Fp)),((0:Fp),(0:Fp)),(0:Fp),(0:Fp)),((0:Fp),(0:Fp)),((0:Fp),(0:Fp)),(0:Fp),(0:Fp)),xs)).triv (((((1:Fp),(0:Fp)),((0:Fp),(0:Fp)),(0:Fp),(0:Fp)),((0:Fp),(0:Fp)),((0:Fp),(0:Fp)),(0:Fp),(0:Fp))=(1:F12)/\(0:Nat)<L)))) (by kernel_rfl) ?_
  refine⟨trivial,fun h=>?_,fun h=>⟨rfl,tvi ⟨rfl,?_⟩⟩⟩
  ·have h0:L=0:=by have:(L:Int)=0:=by simpa using h
                   omega
   rw[lino,opq_eq,liF,<- hL,h0];rfl
  ·have h0:¬ (L:Int)=0:=by simpa using h
   omega
 rintro f0 ⟨hf0,hL0⟩
 revert f0
 intro (f0:F12) (hf0:f0=1)
 refine tr_whileT noSw (fun σ=>(rdS (.int .i64) 11 σ,rdB f12k 96 σ,rdR prk 48 σ)) (liM L N) (fun g=>∃ j:Nat,j<=63/\g.1=62-(j:Int)/\(g.2.1,g.2.2.take L)=ouK (prs ps qs ps.length) j) (fun g=>(g.1+1).toNat)
  (fun σ=>(rdS (.int .i64) 11 σ,rdB f12k 96 σ,rdR prk 48 σ)) (liM L N) (fun g=>g.2.1=(ouK (prs ps qs ps.length) 63).1) (62,f0,xs) (c:=nthC (codeOf Tryz.f144) 9) (by kernel_rfl) (by kernel_rfl) (le_of_proj (by kernel_rfl) (by kernel_rfl) ?_) ?_ ?_
 ·refine⟨0,by decide,rfl,?_⟩
  show (f0,xs.take L)=(1,prs ps qs ps.length)
  rw[hf0,hx]
 ·rintro⟨b,f,ys⟩ hj
  revert b f ys
  intro (b:Int) (f:F12) (ys:List Pr) ⟨j,hj,eb,es⟩
  have hj:j<=63:=hj
  have eb:b=62-(j:Int):=eb
  have es:(f,ys.take L)=ouK (prs ps qs ps.length) j:=es
  refine tr_cut hsp mixed 2 (liM L N (b,f,ys)) (j<63) ?_ (fun hj63=>?_)
  ·refine vcx (X:=((decide (b>=(0:Int))=true->(liM L N (b,f,ys)).triv (j<(63:Nat)))/\(decide (b>=(0:Int))=false->(liM L N (b,f,ys)).triv (f=(ouK (prs ps qs ps.length) (63:Nat)).fst)))) (by kernel_rfl) ?_
   refine⟨fun h=>tvi (by have h:b>=0:=of_decide_eq_true h
                         omega),fun h=>tvi ?_⟩
   have h:¬ b>=0:=of_decide_eq_false h
   have ej:j=63:=by omega
   rw[<- ej,<- es]
  refine tr_block (c:=nthC (loopOf (nthC (codeOf Tryz.f144) 9)) 2) (by kernel_rfl) (by kernel_rfl) ?_
  refine tr_cutF hsp mixed 2 (fun σ=>rdB f12k 96 σ) (fun f2=>liN L N b (0,f2,ys)) (fun f2=>f2=f*f) ?_ ?_
  ·refine vcx (X:=(True/\(liN L N b ((0:Int),f*f,ys)).triv (f*f=f*f))) (by kernel_rfl) ?_
   exact⟨trivial,tvi (by first|exact trivial|rfl)⟩
  intro (f2:F12) (hf2:f2=f*f)
  refine tr_while hsp mixed noSw (fun σ=>(rdS (.int .i64) 66 σ,rdB f12k 96 σ,rdR prk 48 σ)) (liN L N b) (fun g=>∃ i:Nat,i<=L/\g.1=(i:Int)/\(g.2.1,g.2.2.take L)=inK (pbit b) (f*f,ys.take L) i) (fun g=>L-g.1.toNat)
   (fun σ=>(rdB f12k 96 σ,rdR prk 48 σ)) (fun g=>liM L N (b,g.1,g.2)) (fun g=>(g.1,g.2.take L)=inK (pbit b) (f*f,ys.take L) L) (0,f2,ys) (c:=nthC (bodyOf (nthC (loopOf (nthC (codeOf Tryz.f144) 9)) 2)) 2) (by kernel_rfl) (by kernel_rfl) (le_of_proj (by kernel_rfl) (by kernel_rfl) ?_) ?_ ?_
  ·exact⟨0,Nat.zero_le _,rfl,by rw[hf2];rfl⟩
  ·rintro⟨i,f3,zs⟩ hi
   revert i f3 zs
   intro (i:Int) (f3:F12) (zs:List Pr) ⟨t,ht,ei,es3⟩
   have ei:i=(t:Int):=ei
   subst ei
   have ht:t<=L:=ht
   have es3:(f3,zs.take L)=inK (pbit b) (f*f,ys.take L) t:=es3
   refine vcx (X:=((decide ((↑t:Int)<(↑L:Int))=true->((0:Int)<=(↑t:Int)/\(↑t:Int)<(↑L:Int))/\(↑t:Int).toNat<N/\(↑t:Int).toNat<N/\True/\(↑t:Int).toNat<N/\True/\(0:Int)<=b/\((bitOp BinOp.and IntKind.u64 (Int.fdiv (15132376222941642752:Int) ((2:Int)^min b.toNat IntKind.u64.bits)) (1:Int)==(1:Int))=true->(↑t:Int).toNat<N/\(↑t:Int).toNat<N/\(↑t:Int).toNat<N/\True/\(↑t:Int).toNat<N/\True/\(liN L N b (IntKind.i64.wrap ((↑t:Int)+(1:Int)),f3*line12 (two (zs.getD (↑t:Int).toNat zzPrl).snd.snd (zs.getD (↑t:Int).toNat zzPrl).fst).snd.fst (two (zs.getD (↑t:Int).toNat zzPrl).snd.snd (zs.getD (↑t:Int).toNat zzPrl).fst).snd.snd.fst (two (zs.getD (↑t:Int).toNat zzPrl).snd.snd (zs.getD (↑t:Int).toNat zzPrl).fst).snd.snd.snd*line12 (plo ((zs.set (↑t:Int).toNat ((zs.getD (↑t:Int).toNat zzPrl).fst,(zs.getD (↑t:Int).toNat zzPrl).snd.fst,(two (zs.getD (↑t:Int).toNat zzPrl).snd.snd (zs.getD (↑t:Int).toNat zzPrl).fst).fst)).getD (↑t:Int).toNat zzPrl).snd.snd ((zs.set (↑t:Int).toNat ((zs.getD (↑t:Int).toNat zzPrl).fst,(zs.getD (↑t:Int).toNat zzPrl).snd.fst,(two (zs.getD (↑t:Int).toNat zzPrl).snd.snd (zs.getD (↑t:Int).toNat zzPrl).fst).fst)).getD (↑t:Int).toNat zzPrl).snd.fst ((zs.set (↑t:Int).toNat ((zs.getD (↑t:Int).toNat zzPrl).fst,(zs.getD (↑t:Int).toNat zzPrl).snd.fst,(two (zs.getD (↑t:Int).toNat zzPrl).snd.snd (zs.getD (↑t:Int).toNat zzPrl).fst).fst)).getD (↑t:Int).toNat zzPrl).fst).snd.fst (plo ((zs.set (↑t:Int).toNat ((zs.getD (↑t:Int).toNat zzPrl).fst,(zs.getD (↑t:Int).toNat zzPrl).snd.fst,(two (zs.getD (↑t:Int).toNat zzPrl).snd.snd (zs.getD (↑t:Int).toNat zzPrl).fst).fst)).getD (↑t:Int).toNat zzPrl).snd.snd ((zs.set (↑t:Int).toNat ((zs.getD (↑t:Int).toNat zzPrl).fst,(zs.getD (↑t:Int).toNat zzPrl).snd.fst,(two (zs.getD (↑t:Int).toNat zzPrl).snd.snd (zs.getD (↑t:Int).toNat zzPrl).fst).fst)).getD (↑t:Int).toNat zzPrl).snd.fst ((zs.set (↑t:Int).toNat ((zs.getD (↑t:Int).toNat zzPrl).fst,(zs.getD (↑t:Int).toNat zzPrl).snd.fst,(two (zs.getD (↑t:Int).toNat zzPrl).snd.snd (zs.getD (↑t:Int).toNat zzPrl).fst).fst)).getD (↑t:Int).toNat zzPrl).fst).snd.snd.fst (plo ((zs.set (↑t:Int).toNat ((zs.getD (↑t:Int).toNat zzPrl).fst,(zs.getD (↑t:Int).toNat zzPrl).snd.fst,(two (zs.getD (↑t:Int).toNat zzPrl).snd.snd (zs.getD (↑t:Int).toNat zzPrl).fst).fst)).getD (↑t:Int).toNat zzPrl).snd.snd ((zs.set (↑t:Int).toNat ((zs.getD (↑t:Int).toNat zzPrl).fst,(zs.getD (↑t:Int).toNat zzPrl).snd.fst,(two (zs.getD (↑t:Int).toNat zzPrl).snd.snd (zs.getD (↑t:Int).toNat zzPrl).fst).fst)).getD (↑t:Int).toNat zzPrl).snd.fst ((zs.set (↑t:Int).toNat ((zs.getD (↑t:Int).toNat zzPrl).fst,(zs.getD (↑t:Int).toNat zzPrl).snd.fst,(two (zs.getD (↑t:Int).toNat zzPrl).snd.snd (zs.getD (↑t:Int).toNat zzPrl).fst).fst)).getD (↑t:Int).toNat zzPrl).fst).snd.snd.snd,(zs.set (↑t:Int).toNat ((zs.getD (↑t:Int).toNat zzPrl).fst,(zs.getD (↑t:Int).toNat zzPrl).snd.fst,(two (zs.getD (↑t:Int).toNat zzPrl).snd.snd (zs.getD (↑t:Int).toNat zzPrl).fst).fst)).set (↑t:Int).toNat (((zs.set (↑t:Int).toNat ((zs.getD (↑t:Int).toNat zzPrl).fst,(zs.getD (↑t:Int).toNat zzPrl).snd.fst,(two (zs.getD (↑t:Int).toNat zzPrl).snd.snd (zs.getD (↑t:Int).toNat zzPrl).fst).fst)).getD (↑t:Int).toNat zzPrl).fst,((zs.set (↑t:Int).toNat ((zs.getD (↑t:Int).toNat zzPrl).fst,(zs.getD (↑t:Int).toNat zzPrl).snd.fst,(two (zs.getD (↑t:Int).toNat zzPrl).snd.snd (zs.getD (↑t:Int).toNat zzPrl).fst).fst)).getD (↑t:Int).toNat zzPrl).snd.fst,(plo ((zs.set (↑t:Int).toNat ((zs.getD (↑t:Int).toNat zzPrl).fst,(zs.getD (↑t:Int).toNat zzPrl).snd.fst,(two (zs.getD (↑t:Int).toNat zzPrl).snd.snd (zs.getD (↑t:Int).toNat zzPrl).fst).fst)).getD (↑t:Int).toNat zzPrl).snd.snd ((zs.set (↑t:Int).toNat ((zs.getD (↑t:Int).toNat zzPrl).fst,(zs.getD (↑t:Int).toNat zzPrl).snd.fst,(two (zs.getD (↑t:Int).toNat zzPrl).snd.snd (zs.getD (↑t:Int).toNat zzPrl).fst).fst)).getD (↑t:Int).toNat zzPrl).snd.fst ((zs.set (↑t:Int).toNat ((zs.getD (↑t:Int).toNat zzPrl).fst,(zs.getD (↑t:Int).toNat zzPrl).snd.fst,(two (zs.getD (↑t:Int).toNat zzPrl).snd.snd (zs.getD (↑t:Int).toNat zzPrl).fst).fst)).getD (↑t:Int).toNat zzPrl).fst).fst))).triv ((∃ i,i<=L/\IntKind.i64.wrap ((↑t:Int)+(1:Int))=(↑i:Int)/\(f3*line12 (two (zs.getD (↑t:Int).toNat zzPrl).snd.snd (zs.getD (↑t:Int).toNat zzPrl).fst).snd.fst (two (zs.getD (↑t:Int).toNat zzPrl).snd.snd (zs.getD (↑t:Int).toNat zzPrl).fst).snd.snd.fst (two (zs.getD (↑t:Int).toNat zzPrl).snd.snd (zs.getD (↑t:Int).toNat zzPrl).fst).snd.snd.snd*line12 (plo ((zs.set (↑t:Int).toNat ((zs.getD (↑t:Int).toNat zzPrl).fst,(zs.getD (↑t:Int).toNat zzPrl).snd.fst,(two (zs.getD (↑t:Int).toNat zzPrl).snd.snd (zs.getD (↑t:Int).toNat zzPrl).fst).fst)).getD (↑t:Int).toNat zzPrl).snd.snd ((zs.set (↑t:Int).toNat ((zs.getD (↑t:Int).toNat zzPrl).fst,(zs.getD (↑t:Int).toNat zzPrl).snd.fst,(two (zs.getD (↑t:Int).toNat zzPrl).snd.snd (zs.getD (↑t:Int).toNat zzPrl).fst).fst)).getD (↑t:Int).toNat zzPrl).snd.fst ((zs.set (↑t:Int).toNat ((zs.getD (↑t:Int).toNat zzPrl).fst,(zs.getD (↑t:Int).toNat zzPrl).snd.fst,(two (zs.getD (↑t:Int).toNat zzPrl).snd.snd (zs.getD (↑t:Int).toNat zzPrl).fst).fst)).getD (↑t:Int).toNat zzPrl).fst).snd.fst (plo ((zs.set (↑t:Int).toNat ((zs.getD (↑t:Int).toNat zzPrl).fst,(zs.getD (↑t:Int).toNat zzPrl).snd.fst,(two (zs.getD (↑t:Int).toNat zzPrl).snd.snd (zs.getD (↑t:Int).toNat zzPrl).fst).fst)).getD (↑t:Int).toNat zzPrl).snd.snd ((zs.set (↑t:Int).toNat ((zs.getD (↑t:Int).toNat zzPrl).fst,(zs.getD (↑t:Int).toNat zzPrl).snd.fst,(two (zs.getD (↑t:Int).toNat zzPrl).snd.snd (zs.getD (↑t:Int).toNat zzPrl).fst).fst)).getD (↑t:Int).toNat zzPrl).snd.fst ((zs.set (↑t:Int).toNat ((zs.getD (↑t:Int).toNat zzPrl).fst,(zs.getD (↑t:Int).toNat zzPrl).snd.fst,(two (zs.getD (↑t:Int).toNat zzPrl).snd.snd (zs.getD (↑t:Int).toNat zzPrl).fst).fst)).getD (↑t:Int).toNat zzPrl).fst).snd.snd.fst (plo ((zs.set (↑t:Int).toNat ((zs.getD (↑t:Int).toNat zzPrl).fst,(zs.getD (↑t:Int).toNat zzPrl).snd.fst,(two (zs.getD (↑t:Int).toNat zzPrl).snd.snd (zs.getD (↑t:Int).toNat zzPrl).fst).fst)).getD (↑t:Int).toNat zzPrl).snd.snd ((zs.set (↑t:Int).toNat ((zs.getD (↑t:Int).toNat zzPrl).fst,(zs.getD (↑t:Int).toNat zzPrl).snd.fst,(two (zs.getD (↑t:Int).toNat zzPrl).snd.snd (zs.getD (↑t:Int).toNat zzPrl).fst).fst)).getD (↑t:Int).toNat zzPrl).snd.fst ((zs.set (↑t:Int).toNat ((zs.getD (↑t:Int).toNat zzPrl).fst,(zs.getD (↑t:Int).toNat zzPrl).snd.fst,(two (zs.getD (↑t:Int).toNat zzPrl).snd.snd (zs.getD (↑t:Int).toNat zzPrl).fst).fst)).getD (↑t:Int).toNat zzPrl).fst).snd.snd.snd,List.take L ((zs.set (↑t:Int).toNat ((zs.getD (↑t:Int).toNat zzPrl).fst,(zs.getD (↑t:Int).toNat zzPrl).snd.fst,(two (zs.getD (↑t:Int).toNat zzPrl).snd.snd (zs.getD (↑t:Int).toNat zzPrl).fst).fst)).set (↑t:Int).toNat (((zs.set (↑t:Int).toNat ((zs.getD (↑t:Int).toNat zzPrl).fst,(zs.getD (↑t:Int).toNat zzPrl).snd.fst,(two (zs.getD (↑t:Int).toNat zzPrl).snd.snd (zs.getD (↑t:Int).toNat zzPrl).fst).fst)).getD (↑t:Int).toNat zzPrl).fst,((zs.set (↑t:Int).toNat ((zs.getD (↑t:Int).toNat zzPrl).fst,(zs.getD (↑t:Int).toNat zzPrl).snd.fst,(two (zs.getD (↑t:Int).toNat zzPrl).snd.snd (zs.getD (↑t:Int).toNat zzPrl).fst).fst)).getD (↑t:Int).toNat zzPrl).snd.fst,(plo ((zs.set (↑t:Int).toNat ((zs.getD (↑t:Int).toNat zzPrl).fst,(zs.getD (↑t:Int).toNat zzPrl).snd.fst,(two (zs.getD (↑t:Int).toNat zzPrl).snd.snd (zs.getD (↑t:Int).toNat zzPrl).fst).fst)).getD (↑t:Int).toNat zzPrl).snd.snd ((zs.set (↑t:Int).toNat ((zs.getD (↑t:Int).toNat zzPrl).fst,(zs.getD (↑t:Int).toNat zzPrl).snd.fst,(two (zs.getD (↑t:Int).toNat zzPrl).snd.snd (zs.getD (↑t:Int).toNat zzPrl).fst).fst)).getD (↑t:Int).toNat zzPrl).snd.fst ((zs.set (↑t:Int).toNat ((zs.getD (↑t:Int).toNat zzPrl).fst,(zs.getD (↑t:Int).toNat zzPrl).snd.fst,(two (zs.getD (↑t:Int).toNat zzPrl).snd.snd (zs.getD (↑t:Int).toNat zzPrl).fst).fst)).getD (↑t:Int).toNat zzPrl).fst).fst)))=inK (pbit b) (f*f,List.take L ys) i)/\L-(IntKind.i64.wrap ((↑t:Int)+(1:Int))).toNat<L-(↑t:Int).toNat))/\((bitOp BinOp.and IntKind.u64 (Int.fdiv (15132376222941642752:Int) ((2:Int)^min b.toNat IntKind.u64.bits)) (1:Int)==(1:Int))=false->(liN L N b (IntKind.i64.wrap ((↑t:Int)+(1:Int)),f3*line12 (two (zs.getD (↑t:Int).toNat zzPrl).snd.snd (zs.getD (↑t:Int).toNat zzPrl).fst).snd.fst (two (zs.getD (↑t:Int).toNat zzPrl).snd.snd (zs.getD (↑t:Int).toNat zzPrl).fst).snd.snd.fst (two (zs.getD (↑t:Int).toNat zzPrl).snd.snd (zs.getD (↑t:Int).toNat zzPrl).fst).snd.snd.snd,zs.set (↑t:Int).toNat ((zs.getD (↑t:Int).toNat zzPrl).fst,(zs.getD (↑t:Int).toNat zzPrl).snd.fst,(two (zs.getD (↑t:Int).toNat zzPrl).snd.snd (zs.getD (↑t:Int).toNat zzPrl).fst).fst))).triv ((∃ i,i<=L/\IntKind.i64.wrap ((↑t:Int)+(1:Int))=(↑i:Int)/\(f3*line12 (two (zs.getD (↑t:Int).toNat zzPrl).snd.snd (zs.getD (↑t:Int).toNat zzPrl).fst).snd.fst (two (zs.getD (↑t:Int).toNat zzPrl).snd.snd (zs.getD (↑t:Int).toNat zzPrl).fst).snd.snd.fst (two (zs.getD (↑t:Int).toNat zzPrl).snd.snd (zs.getD (↑t:Int).toNat zzPrl).fst).snd.snd.snd,List.take L (zs.set (↑t:Int).toNat ((zs.getD (↑t:Int).toNat zzPrl).fst,(zs.getD (↑t:Int).toNat zzPrl).snd.fst,(two (zs.getD (↑t:Int).toNat zzPrl).snd.snd (zs.getD (↑t:Int).toNat zzPrl).fst).fst)))=inK (pbit b) (f*f,List.take L ys) i)/\L-(IntKind.i64.wrap ((↑t:Int)+(1:Int))).toNat<L-(↑t:Int).toNat)))/\(decide ((↑t:Int)<(↑L:Int))=false->(liM L N (b,(f3,zs).fst,(f3,zs).snd)).triv ((f3,List.take L zs)=inK (pbit b) (f*f,List.take L ys) L)))) (by kernel_rfl) ?_
   have hkl:(zs.take L).length=L:=by
    have h1:=congrArg (fun s:F12 × List Pr=>s.2.length) es3
    have h2:=congrArg (fun s:F12 × List Pr=>s.2.length) es
    simp only[inK_len,ouK_len] at h1 h2
    rw[h1,h2,<- hL]
   have hzL:L<=zs.length:=by rw[List.length_take] at hkl;omega
   refine⟨fun h=>?_,fun h=>tvi ?_⟩
   ·have htL:t<L:=by have:=of_decide_eq_true h;omega
    have hd:zs.getD t (zeroOf prk)=(zs.take L).getD t (zeroOf prk):=by
     simp only[List.getD_eq_getElem?_getD,List.getElem?_take,htL,if_true]
    obtain⟨Z,hZ⟩:∃ Z,Z=zs.getD t (zeroOf prk):=⟨_,rfl⟩
    have hZ1:zs.getD t zzPrl=Z:=hZ.symm
    have hs:∀ v:Pr,(zs.set t v).getD t zzPrl=v:=fun v=>by
     simp[show t<zs.length by omega]
    have hT:∀ v:Pr,(zs.set t v).take L=(zs.take L).set t v:=fun v=>by rw[List.take_set]
    have hb0:0<=b:=by omega
    have hLp:=prs_len ps qs ps.length
    have hLb:L<=1048576:=by omega
    have hin:inK (pbit b) (f*f,ys.take L) (t+1)=((stF (pbit b) f3 Z).1,(zs.take L).set t (stF (pbit b) f3 Z).2):=by
     show ((stF (pbit b) (inK (pbit b) (f*f,ys.take L) t).1 ((inK (pbit b) (f*f,ys.take L) t).2.getD t (zeroOf prk))).1,(inK (pbit b) (f*f,ys.take L) t).2.set t (stF (pbit b) (inK (pbit b) (f*f,ys.take L) t).1 ((inK (pbit b) (f*f,ys.take L) t).2.getD t (zeroOf prk))).2)=_
     rw[<- es3,hZ,hd]
    rw[wrap_succ (by omega)]
    simp only[Int.toNat_natCast]
    rw[hZ1]
    simp only[hs,List.set_set]
    have htN:t<N:=by omega
    refine⟨⟨by omega,by omega⟩,htN,htN,trivial,htN,trivial,hb0,fun h1=>?_,fun h1=>?_⟩
    ·have hp1:pbit b=true:=h1
     refine⟨htN,htN,htN,trivial,htN,trivial,tvi ⟨⟨t+1,htL,rfl,?_⟩,by omega⟩⟩
     rw[hin,hp1,<- hT];rfl
    ·have hp1:pbit b=false:=h1
     refine tvi ⟨⟨t+1,htL,rfl,?_⟩,by omega⟩
     rw[hin,hp1,<- hT];rfl
   ·have htL:t=L:=by have:=of_decide_eq_false h;omega
    rw[htL] at es3
    exact es3
  rintro⟨f4,zs⟩ h4
  revert f4 zs
  intro (f4:F12) (zs:List Pr) (h4:(f4,zs.take L)=inK (pbit b) (f*f,ys.take L) L)
  refine tr_nil ?_
  refine tr_vc hsp mixed _ _ ?_
  refine vcx (X:=((liM L N (IntKind.i64.wrap (b-(1:Int)),f4,zs)).triv ((∃ j,j<=(63:Nat)/\IntKind.i64.wrap (b-(1:Int))=(62:Car (Kd.int IntKind.i64))-(↑j:Int)/\(f4,List.take L zs)=ouK (prs ps qs ps.length) j)/\Int.toNat (IntKind.i64.wrap (b-(1:Int))+(1:Car (Kd.int IntKind.i64)))<Int.toNat (b+(1:Car (Kd.int IntKind.i64)))))) (by kernel_rfl) ?_
  have hw:IntKind.i64.wrap (b-1)=b-1:=wrap_i64' (by omega) (by omega)
  refine tvi ⟨⟨j+1,hj63,?_,?_⟩,?_⟩
  ·show IntKind.i64.wrap (b-1)=62-((j+1:Nat):Int)
   rw[hw];omega
  ·show (f4,zs.take L)=inK (pbit (62-(j:Int))) ((ouK (prs ps qs ps.length) j).1*(ouK (prs ps qs ps.length) j).1,(ouK (prs ps qs ps.length) j).2) (prs ps qs ps.length).length
   rw[<- es,<- hL,<- eb];exact h4
  ·show (IntKind.i64.wrap (b-1)+1).toNat<(b+1).toNat
   rw[hw];omega
 rintro⟨b,f,ys⟩ hf
 revert b f ys
 intro (b:Int) (f:F12) (ys:List Pr) (hf:f=(ouK (prs ps qs ps.length) 63).1)
 refine tr_vc hsp mixed _ _ ?_
 refine vcx (X:=(True/\(cjo f,())=(lino ps qs,()))) (by kernel_rfl) ?_
 refine⟨trivial,?_⟩
 obtain⟨m,hm⟩:∃ m,L=m+1:=⟨L-1,by omega⟩
 rw[lino,opq_eq,liF,<- hL,hm,hf]
def spLines:Nat × Eng.Spec:=(144,fnSpec [.sl pt1,.sl pt2] [.val f12k] preLin (fun (ps,qs,_)=>(lino ps qs,())))
end
end Go.Proofs.YtbeeaekepmnfhaaGreatDoor.pairing
namespace Go.Proofs.YtbeeaekepmnfhaaGreatDoor.pairing
open Go Go.Eng Go.RowKit Cr fp2 tower
theorem ent_check:enters Tryz.prog 97 Tryz.f97:=ek
noncomputable def chkF (ps:List (Fp × Fp)) (qs:List (F2 × F2)):Bool:=match decide (ps.length=qs.length) with
 | true=>eqC f12k (fino (lino ps qs)) (1:F12)
 | false=>false
noncomputable def cnt (ps:List (Fp × Fp)):Nat:=opq ps.length
abbrev preChk:HL [.sl pt1,.sl pt2]->Prop:=fun (ps,_)=>cnt ps<=1048576
theorem fn_check:FnOk Tryz.prog 97 [.sl pt1,.sl pt2] [.val .bool] noG preChk (fun (ps,qs,_)=>(chkF ps qs,())):=by
 refine fn_of_vc (sp:=sps [spLines,spFinish,tower.spOne]) (spk (fok fn_lines) (spk (fok fn_finish) (spk (fok tower.fn_one) snl))) mixed ent_check (by decide) (by decide) ?_
 rintro w M0 ⟨ps,qs,⟨⟩⟩
 revert ps qs
 intro (ps:List (Fp × Fp)) (qs:List (F2 × F2)) _ hp
 have hp:cnt ps<=1048576:=hp
 rw[cnt,opq_eq] at hp
 refine vcx (X:=((((↑ps.length:Int) != (↑qs.length:Int))=true->(false,())=(chkF ps qs,()))/\(((↑ps.length:Int) != (↑qs.length:Int))=false->preLin (ps,qs,())/\True/\True/\(eqC (((Kd.fp.pair Kd.fp).pair ((Kd.fp.pair Kd.fp).pair (Kd.fp.pair Kd.fp))).pair ((Kd.fp.pair Kd.fp).pair ((Kd.fp.pair Kd.fp).pair (Kd.fp.pair Kd.fp)))) (fino (lino ps qs)) ((((1:Fp),(0:Fp)),((0:Fp),(0:Fp)),(0:Fp),(0:Fp)),((0:Fp),(0:Fp)),((0:Fp),(0:Fp)),(0:Fp),(0:Fp)),())=(chkF ps qs,())))) (by kernel_rfl) ?_
 refine⟨fun h=>?_,fun h=>?_⟩
 ·have h1:¬ ps.length=qs.length:=by simp at h;omega
  rw[chkF,decide_eq_false h1]
 ·have h1:ps.length=qs.length:=by simp at h;omega
  refine⟨⟨by show ps.length<=qs.length;omega,hp⟩,trivial,trivial,?_⟩
  rw[chkF,decide_eq_true h1];rfl
noncomputable def spCheck:Nat × Eng.Spec:=(97,fnSpec [.sl pt1,.sl pt2] [.val .bool] preChk (fun (ps,qs,_)=>(chkF ps qs,())))
end Go.Proofs.YtbeeaekepmnfhaaGreatDoor.pairing
namespace Go.Proofs.YtbeeaekepmnfhaaGreatDoor.tower
open Go Go.Eng Go.RowKit Cr Go.Proofs.YtbeeaekepmnfhaaGreatDoor Go.Proofs.YtbeeaekepmnfhaaGreatDoor.fp2
theorem rt1_eq {q:Nat} (hq:q=fpP/6):rt1=pwn xi q:=by
 obtain⟨m,hm⟩:∃ m,m=(num rBs/12).toNat:=⟨_,rfl⟩
 have hm2:m=fpP/12:=hm.trans (of_decide_eq_true (by kernel_rfl))
 have h1:q=2*m+1:=by rw[hq,hm2];exact of_decide_eq_true (by kernel_rfl)
 have h2:m=2*(2*(fpP/48))+2+1:=hm2.trans (of_decide_eq_true (by kernel_rfl))
 rw[xi_pw h1 h2,<- zpow_pwn]
 show (zpow _ _,-zpow _ _)=_
 rw[<- hm]
theorem frobF_eq {p:Nat} (hp:p=fpP) (x:F12):frobF x=pwn x p:=by
 have hq:p=6*(fpP/6)+1:=hp.trans (of_decide_eq_true (by kernel_rfl))
 rw[pw_f12 hp hq,<- rt1_eq rfl];rfl
end Go.Proofs.YtbeeaekepmnfhaaGreatDoor.tower
namespace Go.Proofs.YtbeeaekepmnfhaaGreatDoor.pairing
open Go Go.Eng Go.RowKit Cr Go.Proofs.YtbeeaekepmnfhaaGreatDoor Go.Proofs.YtbeeaekepmnfhaaGreatDoor.fp2 Go.Proofs.YtbeeaekepmnfhaaGreatDoor.tower
theorem frb_eq {p:Nat} (hp:p=fpP) (x:F12):frb x=pwn x p:=by rw[frb,opq_eq,frobF_eq hp]
theorem cjo_eq {p:Nat} (hp:p=fpP) (x:F12):cjo x=pwn x (p^6):=by rw[cjo,opq_eq,pw_6 hp];rfl
theorem finE_eq {p n:Nat} (hp:p=fpP) (h6:p^6=n+1) {f:F12} (hf:f≠0):finE f=pwn f (n*(p*p+1)):=by
 have h1:cjo f*ivo f=pwn f n:=by
  rw[cjo_eq hp,ivo,opq_eq,h6]
  show pwn f n*f*Fd.inv f=_
  rw[Rg.mul_assoc,Fd.mul_inv _ hf,Rg.mul_one]
 rw[finE,h1,frb_eq hp,frb_eq hp,pwn_mul f n,pwn_add _ (p*p) 1,pwn_mul _ p p,pw_1]
theorem pw8_1 {v:Nat} (hv:v=15132376222941642753) (x:F12):pw8 x 15132376222941642753=pwn x v:=by
 have h:(num (byo 15132376222941642753)).toNat=v:=by rw[hv,byo,opq_eq];exact of_decide_eq_true (by kernel_rfl)
 rw[pw8,pwo,opq_eq,h]
theorem pw8_2 {v:Nat} (hv:v=15132376222941642752) (x:F12):pw8 x 15132376222941642752=pwn x v:=by
 have h:(num (byo 15132376222941642752)).toNat=v:=by rw[hv,byo,opq_eq];exact of_decide_eq_true (by kernel_rfl)
 rw[pw8,pwo,opq_eq,h]
def finN (p n v u:Nat):Nat:=n*(p*p+1)*(v*v*(u*p^6+p)*(u*u+p*p+p^6)+2+1)
theorem fino_eq {p n v u:Nat} (hp:p=fpP) (h6:p^6=n+1) (hv:v=15132376222941642753) (hu:u=15132376222941642752) {f:F12} (hf:f≠0):fino f=pwn f (finN p n v u):=by
 have hA:∀ x,finA x=pwn x (v*v):=fun x=>by rw[finA,pw8_1 hv,pw8_1 hv,pwn_mul]
 have hB:∀ x,finB x=pwn x (u*p^6+p):=fun x=>by rw[finB,cjo_eq hp,frb_eq hp,pw8_2 hu,pwn_add,pwn_mul]
 have hC:∀ x,finC x=pwn x (u*u+p*p+p^6):=fun x=>by rw[finC,cjo_eq hp,frb_eq hp,frb_eq hp,pw8_2 hu,pw8_2 hu,pwn_add,pwn_add,pwn_mul,pwn_mul]
 rw[fino,opq_eq,finF,hA,hB,hC,finE_eq hp h6 hf]
 obtain⟨g,hg⟩:∃ g,g=pwn f (n*(p*p+1)):=⟨_,rfl⟩
 rw[finN,pwn_mul f (n*(p*p+1)),<- hg,pwn_add g _ 1,pwn_add g _ 2,pwn_mul,pwn_mul,pw_1]
 show _=_*(1*g*g)*g
 rw[Rg.one_mul,pwn_mul g (v*v),pwn_mul g v v]
theorem kill6 {p n v u:Nat} (hp:p=fpP) (h6:p^6=n+1) {x:F12} (hx:x≠0) (h2:x.2=0):pwn x (finN p n v u)=1:=by
 have h1:pwn x (n+1)=x:=by rw[<- h6,pw_6 hp,h2,neg_z,<- h2]
 have h3:pwn x n*x=x:=h1
 have h4:pwn x n*(x*Fd.inv x)=x*Fd.inv x:=by rw[<- Rg.mul_assoc,h3]
 rw[Fd.mul_inv _ hx,Rg.mul_one] at h4
 rw[finN,Nat.mul_assoc,pwn_mul,h4,pwn_one]
theorem fin_r {p n v u r m:Nat} (hm:r*finN p n v u=m*(fpP^12-1)) {x:F12} (hx:x≠0):pwn (pwn x (finN p n v u)) r=1:=by
 obtain⟨k,hk⟩:∃ k,k=fpP^12-1:=⟨_,rfl⟩
 have h1:fpP^12=k+1:=by rw[hk];exact of_decide_eq_true (by kernel_rfl)
 rw[<- pwn_mul,Nat.mul_comm,hm,<- hk,Nat.mul_comm,pwn_mul,pw_one h1 hx,pwn_one]
def rrN:Nat:=52435875175126190479447740508185965837690552500527637822603658699938581184513
theorem fin_mul:∃ m,rrN*finN fpP (fpP^6-1) 15132376222941642753 15132376222941642752=m*(fpP^12-1):=⟨rrN*finN fpP (fpP^6-1) 15132376222941642753 15132376222941642752/(fpP^12-1),of_decide_eq_true (by kernel_rfl)⟩
end Go.Proofs.YtbeeaekepmnfhaaGreatDoor.pairing
namespace Cr
open Rg Fd Go.Eng
def bst (n:Nat):Bool->Nat
 | false=>n+n
 | true=>n+n+1
def bval (l:List Bool) (m:Nat):Nat:=l.foldl bst m
theorem bval_le (l:List Bool):∀ m,m<=bval l m:=by
 induction l with
 | nil=>exact fun m=>Nat.le_refl m
 | cons x l ih =>
  intro m
  refine Nat.le_trans ?_ (ih (bst m x))
  cases x
  ·show m<=m+m;omega
  ·show m<=m+m+1;omega
section
variable {F:Type} [Fd F] {b:F}
theorem pw_val (x:F) (l:List Bool):∀ m,l.foldl (mpwS x) (pwn x m)=pwn x (bval l m):=by
 induction l with
 | nil=>exact fun m=>rfl
 | cons y l ih =>
  intro m
  have e:mpwS x (pwn x m) y=pwn x (bst m y):=by
   cases y
   ·show pwn x m*pwn x m=pwn x (m+m);rw[pwn_add]
   ·show pwn x m*pwn x m*x=pwn x (m+m)*x;rw[pwn_add]
  show l.foldl (mpwS x) (mpwS x (pwn x m) y)=pwn x (bval l (bst m y))
  rw[e];exact ih _
theorem pw_eq (x:F) (l:List Bool):mpw x l=pwn x (bval l 1):=by
 rw[<- pw_val]
 show l.foldl (mpwS x) x=l.foldl (mpwS x) (1*x)
 rw[one_mul]
variable (hb:b≠0)
include hb
theorem ml_val {Q:F × F} (oQ:OnP b Q) (R:F × F) (l:List Bool):∀ f m,(l.foldl (mlS Q R) (f,nmul Q m)).2=nmul Q (bval l m):=by
 induction l with
 | nil=>exact fun f m=>rfl
 | cons y l ih =>
  intro f m
  obtain⟨g,hg⟩:∃ g,mlS Q R (f,nmul Q m) y=(g,nmul Q (bst m y)):=by
   cases y
   ·refine⟨_,Prod.ext rfl ?_⟩
    show padd (nmul Q m) (nmul Q m)=nmul Q (m+m)
    rw[nmul_add hb oQ]
   ·refine⟨_,Prod.ext rfl ?_⟩
    show padd (padd (nmul Q m) (nmul Q m)) Q=padd (nmul Q (m+m)) Q
    rw[nmul_add hb oQ]
  show (l.foldl (mlS Q R) (mlS Q R (f,nmul Q m) y)).2=nmul Q (bval l (bst m y))
  rw[hg];exact ih _ _
theorem ml_pnt {Q:F × F} (oQ:OnP b Q) (R:F × F) (l:List Bool):(ml Q R l).2=nmul Q (bval l 1):=by
 rw[<- ml_val hb oQ R l 1 1,nmul_one];rfl
theorem okc_val {Q:F × F} (oQ:OnP b Q) (l:List Bool):∀ m,0<m->(∀ k,0<k->k<=bval l m->nmul Q k≠O2)->okc Q l (nmul Q m):=by
 induction l with
 | nil=>exact fun m _ _=>trivial
 | cons y l ih =>
  intro m hm hk
  have hle:=bval_le l (bst m y)
  have hk:∀ k,0<k->k<=bval l (bst m y)->nmul Q k≠O2:=hk
  cases y
  ·have hle:m+m<=bval l (bst m false):=hle
   refine⟨?_,?_⟩
   ·rw[<- nmul_add hb oQ];exact hk _ (by omega) hle
   ·rw[<- nmul_add hb oQ];exact ih (m+m) (by omega) hk
  ·have hle:m+m+1<=bval l (bst m true):=hle
   refine⟨?_,?_,?_⟩
   ·rw[<- nmul_add hb oQ];exact hk _ (by omega) (by omega)
   ·rw[<- nmul_add hb oQ];exact hk (m+m+1) (by omega) hle
   ·rw[<- nmul_add hb oQ];exact ih (m+m+1) (by omega) hk
omit hb in
theorem ml_O (R:F × F) (l:List Bool):ml O2 R l=(1,O2):=by
 have key:∀ l:List Bool,l.foldl (mlS O2 R) ((1:F),O2)=(1,O2):=by
  intro l
  induction l with
  | nil=>rfl
  | cons y l ih =>
   have e:mlS O2 R ((1:F),O2) y=(1,O2):=by
    cases y
    ·show ((1:F)*1*Lt O2 O2 R,padd O2 O2)=_
     rw[Lt_O,Vt_O,one_mul,one_mul,O_add]
    ·show ((1:F)*1*Lt O2 O2 R*Lt (padd O2 O2) O2 R,padd (padd O2 O2) O2)=_
     rw[O_add,Lt_O,Vt_O,one_mul,one_mul,one_mul,O_add]
   show l.foldl (mlS O2 R) (mlS O2 R (1,O2) y)=_
   rw[e];exact ih
 exact key l
end
section
variable {N p u r:Nat} (L:LastP N p u r) {b1:Fp} {b2:F2} (hb1:b1≠0) (hb2:b2≠0) (hns:∀ y:F2,y*y=b2->False) (he:b2=e0 b1*xi)
structure GQ (p u r:Nat) (b2:F2) (Q:F2 × F2):Prop where
 on:OnP b2 Q
 fro:hmp (fro p) (tws e2 wi Q)=pneg (tws e2 wi (nmul Q u))
 ord:nmul Q r=O2
 small:Q=O2\/∀ k,0<k->k<=u->nmul Q k≠O2
noncomputable def ev0 (L:LastP N p u r) (bl:List Bool) (P:Fp × Fp) (Q:F2 × F2):F12:=(kil L).χ (ml (tws e2 wi Q) (hmp e1 P) bl).1
include hb1 hb2 hns he
theorem up_lt {P:Fp × Fp} (oP:OnP b1 P) (nP:P≠O2) {A B:F2 × F2} (hA:GQ p u r b2 A) (hB:GQ p u r b2 B) :
  (kil L).χ (Lt (tws e2 wi (nmul A u)) (tws e2 wi (nmul B u)) (hmp e1 P))=pwn ((kil L).χ (Lt (tws e2 wi A) (tws e2 wi B) (hmp e1 P))) u/\(kil L).χ (Lt (tws e2 wi A) (tws e2 wi B) (hmp e1 P))≠0:=by
 have g:=grp12 L hb1 hb2 hns he oP nP
 have hB12:=bb_ne hb1
 have oR:OnF (e1 b1) (hmp e1 P):=hmp_on hm_e1 rfl (oP.resolve_left nP)
 have sA:SS b2 (tws e2 wi A):=⟨A,hA.on,rfl⟩
 have sB:SS b2 (tws e2 wi B):=⟨B,hB.on,rfl⟩
 have sA':SS b2 (tws e2 wi (nmul A u)):=⟨_,nmul_on hb2 hA.on u,rfl⟩
 have sB':SS b2 (tws e2 wi (nmul B u)):=⟨_,nmul_on hb2 hB.on u,rfl⟩
 have h1:=la_neg (kil L) hB12 oR g sA sB
 have h2:=la_neg (kil L) hB12 oR g sA' sB'
 rw[<- hA.fro,<- hB.fro] at h2
 have hf:=hmp_Lt (f:=fro p) (b':=e1 b1) (hm_fro L.pp) (fro_e1 L.pp b1).symm hB12 hB12 (g.on _ sA) (g.on _ sB) (hmp e1 P)
 rw[hmp_fro L.pp] at hf
 rw[hf,kil_fro] at h2
 have n0:Lt (tws e2 wi A) (tws e2 wi B) (hmp e1 P)≠0:=kil_ne L h1
 have h3:=kil_up L n0
 obtain⟨c,hc⟩:∃ c,c=(kil L).χ (Lt (tws e2 wi A) (tws e2 wi B) (hmp e1 P)):=⟨_,rfl⟩
 obtain⟨d,hd⟩:∃ d,d=(kil L).χ (Lt (tws e2 wi (nmul A u)) (tws e2 wi (nmul B u)) (hmp e1 P)):=⟨_,rfl⟩
 rw[<- hc] at h1 h2 h3 ⊢
 rw[<- hd] at h2 ⊢
 refine⟨?_,?_⟩
 ·have h4:d*(pwn c u*pwn c p)=pwn c u*(d*pwn c p):=by rw[<- mul_assoc,mul_comm d,mul_assoc]
  rw[h3,h2,mul_one,mul_one] at h4
  exact h4
 ·rintro rfl
  rw[zero_mul] at h1
  exact one_ne h1.symm
variable {bl:List Bool} (hbl:bval bl 1=u)
include hbl
theorem ev0_Q {P:Fp × Fp} (oP:OnP b1 P) (nP:P≠O2) {A B:F2 × F2} (hA:GQ p u r b2 A) (hB:GQ p u r b2 B):ev0 L bl P (padd A B)=ev0 L bl P A*ev0 L bl P B:=by
 have g:=grp12 L hb1 hb2 hns he oP nP
 have hB12:=bb_ne hb1
 have oR:OnF (e1 b1) (hmp e1 P):=hmp_on hm_e1 rfl (oP.resolve_left nP)
 have sA:SS b2 (tws e2 wi A):=⟨A,hA.on,rfl⟩
 have sB:SS b2 (tws e2 wi B):=⟨B,hB.on,rfl⟩
 obtain⟨_,_,_,h⟩:=ml_sumQ (kil L) hB12 oR g sA sB bl
 obtain⟨k,n0⟩:=up_lt L hb1 hb2 hns he oP nP hA hB
 rw[ml_pnt hB12 (g.on _ sA),ml_pnt hB12 (g.on _ sB),hbl,<- tws_nmul hm_e2 (bb_2 he) hb2 hB12 hA.on,<- tws_nmul hm_e2 (bb_2 he) hb2 hB12 hB.on,k,pw_eq,hbl,<- tws_add hm_e2 (bb_2 he) hb2 hB12 hA.on hB.on] at h
 have n1:=pwn_ne n0 u
 rw[mul_comm,mul_comm ((kil L).χ _*(kil L).χ _)] at h
 exact mul_left n1 h
omit hb1 hb2 hns he hbl in
theorem ev0_O (P:Fp × Fp):ev0 L bl P O2=1:=by
 rw[ev0,tws_O hm_e2,ml_O];exact (kil L).one
omit hns in
theorem okc_12 {A:F2 × F2} (hA:GQ p u r b2 A) (nA:A≠O2):okc (tws e2 wi A) bl (tws e2 wi A):=by
 have hB12:=bb_ne hb1
 have h:=okc_val hB12 (tws_onP hm_e2 (bb_2 he) hA.on) bl 1 Nat.one_pos
 rw[nmul_one] at h
 refine h fun k h0 h1=>?_
 rw[<- tws_nmul hm_e2 (bb_2 he) hb2 hB12 hA.on]
 rw[hbl] at h1
 exact tws_ne hm_e2 wi_ne ((hA.small.resolve_left nA) k h0 h1)
theorem ev0_P {P P':Fp × Fp} (oP:OnP b1 P) (oP':OnP b1 P') (nP:P≠O2) (nP':P'≠O2) (nS:padd P P'≠O2) {A:F2 × F2} (hA:GQ p u r b2 A) (nA:A≠O2) (hu:0<u):ev0 L bl (padd P P') A=ev0 L bl P A*ev0 L bl P' A:=by
 have g:=two12 L hb1 hb2 hns he
 have hB12:=bb_ne hb1
 have sA:SS b2 (tws e2 wi A):=⟨A,hA.on,rfl⟩
 have sU:SS b2 (tws e2 wi (nmul A u)):=⟨_,nmul_on hb2 hA.on u,rfl⟩
 have nA':=tws_ne hm_e2 wi_ne nA
 have nU:tws e2 wi (nmul A u)≠O2:=tws_ne hm_e2 wi_ne ((hA.small.resolve_left nA) u hu (Nat.le_refl u))
 have tP:TT b1 (hmp e1 P):=⟨P,oP,rfl⟩
 have tP':TT b1 (hmp e1 P'):=⟨P',oP',rfl⟩
 have ne1:∀ {P:Fp × Fp},P≠O2->hmp e1 P≠O2:=fun h=>by rw[<- tws_1];exact tws_ne hm_e1 one_ne h
 have eS:hmp e1 (padd P P')=padd (hmp e1 P) (hmp e1 P'):=hmp_add hm_e1 rfl hb1 hB12 oP oP'
 have nS':padd (hmp e1 P) (hmp e1 P')≠O2:=by rw[<- eS];exact ne1 nS
 obtain⟨_,_,_,h⟩:=ml_sumP (kil L) hB12 g sA nA' tP tP' (ne1 nP) (ne1 nP') nS' bl (okc_12 hb1 hb2 he hbl hA nA)
 have g':Two (e1 b1) (kil L) (TT b1) (SS b2):=⟨g.onT,g.addT,g.onS,g.addS,fun X Y hX hY nX nY=>g.vt' (kil L) hY hX nY nX⟩
 have m1:=la_mirror (kil L) hB12 g' tP tP' sA (ne1 nP) (ne1 nP') nS' nA'
 have m2:=la_mirror (kil L) hB12 g' tP tP' sU (ne1 nP) (ne1 nP') nS' nU
 have hf:=hmp_Lt (f:=fro p) (b':=e1 b1) (hm_fro L.pp) (fro_e1 L.pp b1).symm hB12 hB12 (g.onT _ tP) (g.onT _ tP') (tws e2 wi A)
 rw[hmp_fro L.pp,hmp_fro L.pp,hA.fro] at hf
 rw[hf,kil_fro] at m2
 have n0:=kil_ne L m1
 have h3:=kil_up L n0
 rw[ml_pnt hB12 (g.onS _ sA),hbl,<- tws_nmul hm_e2 (bb_2 he) hb2 hB12 hA.on,pw_eq,hbl,<- eS] at h
 obtain⟨c,hc⟩:∃ c,c=(kil L).χ (Lt (hmp e1 P) (hmp e1 P') (tws e2 wi A)):=⟨_,rfl⟩
 obtain⟨d,hd⟩:∃ d,d=(kil L).χ (Lt (hmp e1 P) (hmp e1 P') (tws e2 wi (nmul A u))):=⟨_,rfl⟩
 rw[<- hc] at m1 m2 h3 h
 rw[<- hd] at m2 h
 have k:d=pwn c u:=by
  have h4:d*(pwn c u*pwn c p)=pwn c u*(d*pwn c p):=by rw[<- mul_assoc,mul_comm d,mul_assoc]
  rw[h3,m2,mul_one,mul_one] at h4
  exact h4
 have n1:c≠0:=by
  rintro rfl
  rw[zero_mul] at m1
  exact one_ne m1.symm
 rw[k,mul_comm,mul_comm ((kil L).χ (ml _ (hmp e1 (padd P P')) bl).1)] at h
 exact (mul_left (pwn_ne n1 u) h).symm
theorem ev0_neg {P:Fp × Fp} (oP:OnP b1 P) (nP:P≠O2) {A:F2 × F2} (hA:GQ p u r b2 A) (nA:A≠O2):ev0 L bl P A*ev0 L bl (pneg P) A=1:=by
 have g:=two12 L hb1 hb2 hns he
 have hB12:=bb_ne hb1
 have h:=ml_negP (kil L) hB12 g (A:=tws e2 wi A) (P:=hmp e1 P) ⟨A,hA.on,rfl⟩ (tws_ne hm_e2 wi_ne nA) ⟨P,oP,rfl⟩ (by rw[<- tws_1];exact tws_ne hm_e1 one_ne nP) bl (okc_12 hb1 hb2 he hbl hA nA)
 rw[<- hmp_neg hm_e1] at h
 exact h
omit hb1 hb2 hns he hbl in
noncomputable def ev (L:LastP N p u r) (bl:List Bool) (P:Fp × Fp) (Q:F2 × F2):F12:=if P=O2 then 1 else ev0 L bl P Q
theorem ev_addQ {P:Fp × Fp} (oP:OnP b1 P) {A B:F2 × F2} (hA:GQ p u r b2 A) (hB:GQ p u r b2 B):ev L bl P (padd A B)=ev L bl P A*ev L bl P B:=by
 unfold ev
 split
 ·rw[mul_one]
 ·rename_i h;exact ev0_Q L hb1 hb2 hns he hbl oP h hA hB
omit hb1 hb2 hns he hbl in
theorem ev_OP (Q:F2 × F2):ev L bl O2 Q=1:=by unfold ev;rw[if_pos rfl]
omit hb1 hb2 hns he hbl in
theorem ev_OQ (P:Fp × Fp):ev L bl P O2=1:=by
 unfold ev
 split
 ·rfl
 ·exact ev0_O L P
theorem ev_addP {P P':Fp × Fp} (oP:OnP b1 P) (oP':OnP b1 P') {A:F2 × F2} (hA:GQ p u r b2 A) (hu:0<u):ev L bl (padd P P') A=ev L bl P A*ev L bl P' A:=by
 by_cases nA:A=O2
 ·rw[nA,ev_OQ L,ev_OQ L,ev_OQ L,mul_one]
 by_cases nP:P=O2
 ·rw[nP,O_add,ev_OP,one_mul]
 by_cases nP':P'=O2
 ·rw[nP',add_O,ev_OP,mul_one]
 by_cases nS:padd P P'=O2
 ·have e:P'=pneg P:=by
   have h:=cancel hb1 oP oP'
   rw[nS,add_O] at h
   exact h.symm
  rw[nS,ev_OP]
  unfold ev
  rw[if_neg nP,if_neg nP',e]
  exact (ev0_neg L hb1 hb2 hns he hbl oP nP hA nA).symm
 ·unfold ev
  rw[if_neg nS,if_neg nP,if_neg nP']
  exact ev0_P L hb1 hb2 hns he hbl oP oP' nP nP' nS hA nA hu
include L in
theorem ev_ne {P:Fp × Fp} (oP:OnP b1 P) (nP:P≠O2) {A:F2 × F2} (hA:GQ p u r b2 A) (nA:A≠O2):(ml (tws e2 wi A) (hmp e1 P) bl).1≠0:=kil_ne L (ev0_neg L hb1 hb2 hns he hbl oP nP hA nA)
theorem ev_r {P:Fp × Fp} (oP:OnP b1 P) {A:F2 × F2} (hA:GQ p u r b2 A):pwn (ev L bl P A) r=1:=by
 by_cases nA:A=O2
 ·rw[nA,ev_OQ L,pwn_one]
 unfold ev
 split
 ·exact pwn_one r
 ·rename_i nP;exact L.ord _ (ev_ne L hb1 hb2 hns he hbl oP nP hA nA)
theorem ev_mulP {P:Fp × Fp} (oP:OnP b1 P) {A:F2 × F2} (hA:GQ p u r b2 A) (hu:0<u):∀ n,ev L bl (nmul P n) A=pwn (ev L bl P A) n
 | 0=>ev_OP L A
 | n+1=>by
  show ev L bl (padd (nmul P n) P) A=pwn (ev L bl P A) n*ev L bl P A
  rw[ev_addP L hb1 hb2 hns he hbl (nmul_on hb1 oP n) oP hA hu,ev_mulP oP hA hu n]
end
end Cr
namespace Cr
open Rg
theorem tl_a {F:Type} [Rg F] (x y z l:F):(x*(z*z)*(x*(z*z))+x*(z*z)*(x*(z*z))+x*(z*z)*(x*(z*z)))*(x*(z*z))-(y*(z*(z*z))*(y*(z*(z*z)))+y*(z*(z*z))*(y*(z*(z*z))))-(y*(z*(z*z))*z+y*(z*(z*z))*z)*(z*z)*(l*x-y)=(-(z*z*z*z*z*z*x))*(l*(y+y)-(x*x+x*x+x*x)) :=
 rid [x,y,z,l] ((fun (x y z l:PE)=>((x*(z*z)*(x*(z*z))+x*(z*z)*(x*(z*z))+x*(z*z)*(x*(z*z)))*(x*(z*z))-(y*(z*(z*z))*(y*(z*(z*z)))+y*(z*(z*z))*(y*(z*(z*z))))-(y*(z*(z*z))*z+y*(z*(z*z))*z)*(z*z)*(l*x-y))) (.v 0) (.v 1) (.v 2) (.v 3)) ((fun (x y z l:PE)=>((-(z*z*z*z*z*z*x))*(l*(y+y)-(x*x+x*x+x*x)))) (.v 0) (.v 1) (.v 2) (.v 3)) (by kernel_rfl)
theorem tl_b {F:Type} [Rg F] (x y z l:F):(x*(z*z)*(x*(z*z))+x*(z*z)*(x*(z*z))+x*(z*z)*(x*(z*z)))*(z*z)-(y*(z*(z*z))*z+y*(z*(z*z))*z)*(z*z)*l=(-(z*z*z*z*z*z))*(l*(y+y)-(x*x+x*x+x*x)) :=
 rid [x,y,z,l] ((fun (x y z l:PE)=>((x*(z*z)*(x*(z*z))+x*(z*z)*(x*(z*z))+x*(z*z)*(x*(z*z)))*(z*z)-(y*(z*(z*z))*z+y*(z*(z*z))*z)*(z*z)*l)) (.v 0) (.v 1) (.v 2) (.v 3)) ((fun (x y z l:PE)=>((-(z*z*z*z*z*z))*(l*(y+y)-(x*x+x*x+x*x)))) (.v 0) (.v 1) (.v 2) (.v 3)) (by kernel_rfl)
theorem cl_b {F:Type} [Rg F] (x y z u v l:F):v*(z*z*z)-y*(z*(z*z))-z*(u*(z*z)-x*(z*z))*l=(-(z*z*z))*(l*(u-x)-(v-y)) :=
 rid [x,y,z,u,v,l] ((fun (x y z u v l:PE)=>(v*(z*z*z)-y*(z*(z*z))-z*(u*(z*z)-x*(z*z))*l)) (.v 0) (.v 1) (.v 2) (.v 3) (.v 4) (.v 5)) ((fun (x y z u v l:PE)=>((-(z*z*z))*(l*(u-x)-(v-y)))) (.v 0) (.v 1) (.v 2) (.v 3) (.v 4) (.v 5)) (by kernel_rfl)
theorem cl_a {F:Type} [Rg F] (d l u v:F):d*l*u-d*v=d*(l*u-v) :=
 rid [d,l,u,v] ((fun (d l u v:PE)=>(d*l*u-d*v)) (.v 0) (.v 1) (.v 2) (.v 3)) ((fun (d l u v:PE)=>(d*(l*u-v))) (.v 0) (.v 1) (.v 2) (.v 3)) (by kernel_rfl)
theorem cl_w {F:Type} [Rg F] (x u z:F):u*(z*z)-x*(z*z)=(u-x)*(z*z) :=
 rid [x,u,z] ((fun (x u z:PE)=>(u*(z*z)-x*(z*z))) (.v 0) (.v 1) (.v 2)) ((fun (x u z:PE)=>((u-x)*(z*z))) (.v 0) (.v 1) (.v 2)) (by kernel_rfl)
theorem tj_x {F:Type} [Rg F] (x y s:F):s*s-(x*(y*y)+x*(y*y)+(x*(y*y)+x*(y*y))+(x*(y*y)+x*(y*y)+(x*(y*y)+x*(y*y))))=s*s-(x*(y*y)+x*(y*y)+(x*(y*y)+x*(y*y)))-(x*(y*y)+x*(y*y)+(x*(y*y)+x*(y*y))) :=
 rid [x,y,s] ((fun (x y s:PE)=>(s*s-(x*(y*y)+x*(y*y)+(x*(y*y)+x*(y*y))+(x*(y*y)+x*(y*y)+(x*(y*y)+x*(y*y)))))) (.v 0) (.v 1) (.v 2)) ((fun (x y s:PE)=>(s*s-(x*(y*y)+x*(y*y)+(x*(y*y)+x*(y*y)))-(x*(y*y)+x*(y*y)+(x*(y*y)+x*(y*y))))) (.v 0) (.v 1) (.v 2)) (by kernel_rfl)
theorem tj_y {F:Type} [Rg F] (y s f x:F):s*(f-x)-(y*y*(y*y)+y*y*(y*y)+(y*y*(y*y)+y*y*(y*y))+(y*y*(y*y)+y*y*(y*y)+(y*y*(y*y)+y*y*(y*y))))=s*(f-x)-(y*y+y*y)*(y*y+y*y)-(y*y+y*y)*(y*y+y*y) :=
 rid [y,s,f,x] ((fun (y s f x:PE)=>(s*(f-x)-(y*y*(y*y)+y*y*(y*y)+(y*y*(y*y)+y*y*(y*y))+(y*y*(y*y)+y*y*(y*y)+(y*y*(y*y)+y*y*(y*y)))))) (.v 0) (.v 1) (.v 2) (.v 3)) ((fun (y s f x:PE)=>(s*(f-x)-(y*y+y*y)*(y*y+y*y)-(y*y+y*y)*(y*y+y*y))) (.v 0) (.v 1) (.v 2) (.v 3)) (by kernel_rfl)
theorem pj_w {F:Type} [Rg F] (q x z:F):q*(z*z)-x*(1*1)=q*(z*z)-x :=
 rid [q,x,z] ((fun (q x z:PE)=>(q*(z*z)-x*(1*1))) (.v 0) (.v 1) (.v 2)) ((fun (q x z:PE)=>(q*(z*z)-x)) (.v 0) (.v 1) (.v 2)) (by kernel_rfl)
theorem pj_h {F:Type} [Rg F] (q y z:F):q*(z*z)*z-y*(1*1)*1=q*(z*z*z)-y :=
 rid [q,y,z] ((fun (q y z:PE)=>(q*(z*z)*z-y*(1*1)*1)) (.v 0) (.v 1) (.v 2)) ((fun (q y z:PE)=>(q*(z*z*z)-y)) (.v 0) (.v 1) (.v 2)) (by kernel_rfl)
theorem pj_x {F:Type} [Rg F] (h w x:F):h*h-w*w*w-x*(1*1)*(w*w)-x*(1*1)*(w*w)=h*h-w*w*w-(x*(w*w)+x*(w*w)) :=
 rid [h,w,x] ((fun (h w x:PE)=>(h*h-w*w*w-x*(1*1)*(w*w)-x*(1*1)*(w*w))) (.v 0) (.v 1) (.v 2)) ((fun (h w x:PE)=>(h*h-w*w*w-(x*(w*w)+x*(w*w)))) (.v 0) (.v 1) (.v 2)) (by kernel_rfl)
theorem pj_y {F:Type} [Rg F] (h w x y t:F):h*(x*(1*1)*(w*w)-t)-y*(1*1)*1*(w*w*w)=h*(x*(w*w)-t)-y*(w*w*w) :=
 rid [h,w,x,y,t] ((fun (h w x y t:PE)=>(h*(x*(1*1)*(w*w)-t)-y*(1*1)*1*(w*w*w))) (.v 0) (.v 1) (.v 2) (.v 3) (.v 4)) ((fun (h w x y t:PE)=>(h*(x*(w*w)-t)-y*(w*w*w))) (.v 0) (.v 1) (.v 2) (.v 3) (.v 4)) (by kernel_rfl)
theorem pj_z {F:Type} [Rg F] (z w:F):z*1*w=z*w :=
 rid [z,w] ((fun (z w:PE)=>(z*1*w)) (.v 0) (.v 1)) ((fun (z w:PE)=>(z*w)) (.v 0) (.v 1)) (by kernel_rfl)
theorem up_l1 {F:Type} [Rg F] (D w i y l px py x:F):D*(w*(w*w))*(py-(y*(i*i*i)+l*i*(px-x*(i*i))))=D*py*(w*w*w)-D*y*(w*i*(w*i)*(w*i))-D*l*(w*i)*(w*w)*px+D*l*x*(w*i*(w*i)*(w*i)) :=
 rid [D,w,i,y,l,px,py,x] ((fun (D w i y l px py x:PE)=>(D*(w*(w*w))*(py-(y*(i*i*i)+l*i*(px-x*(i*i)))))) (.v 0) (.v 1) (.v 2) (.v 3) (.v 4) (.v 5) (.v 6) (.v 7)) ((fun (D w i y l px py x:PE)=>(D*py*(w*w*w)-D*y*(w*i*(w*i)*(w*i))-D*l*(w*i)*(w*w)*px+D*l*x*(w*i*(w*i)*(w*i)))) (.v 0) (.v 1) (.v 2) (.v 3) (.v 4) (.v 5) (.v 6) (.v 7)) (by kernel_rfl)
theorem up_l2 {F:Type} [Rg F] (D w y l px py x:F):D*(l*x-y)+w*(w*(-(D*l*px)+w*(D*py)))=D*py*(w*w*w)-D*y*(1*1*1)-D*l*1*(w*w)*px+D*l*x*(1*1*1) :=
 rid [D,w,y,l,px,py,x] ((fun (D w y l px py x:PE)=>(D*(l*x-y)+w*(w*(-(D*l*px)+w*(D*py))))) (.v 0) (.v 1) (.v 2) (.v 3) (.v 4) (.v 5) (.v 6)) ((fun (D w y l px py x:PE)=>(D*py*(w*w*w)-D*y*(1*1*1)-D*l*1*(w*w)*px+D*l*x*(1*1*1))) (.v 0) (.v 1) (.v 2) (.v 3) (.v 4) (.v 5) (.v 6)) (by kernel_rfl)
theorem pm_1 {F:Type} [Rg F] (a b c d:F):a*b*(c*d)=a*c*(b*d) :=
 rid [a,b,c,d] ((fun (a b c d:PE)=>(a*b*(c*d))) (.v 0) (.v 1) (.v 2) (.v 3)) ((fun (a b c d:PE)=>(a*c*(b*d))) (.v 0) (.v 1) (.v 2) (.v 3)) (by kernel_rfl)
theorem pm_2 {F:Type} [Rg F] (f a b:F):f*a*b=f*(a*b) :=
 rid [f,a,b] ((fun (f a b:PE)=>(f*a*b)) (.v 0) (.v 1) (.v 2)) ((fun (f a b:PE)=>(f*(a*b))) (.v 0) (.v 1) (.v 2)) (by kernel_rfl)
end Cr
namespace Go.Proofs.YtbeeaekepmnfhaaGreatDoor.pairing
open Go Go.Eng Go.RowKit Cr Go.Proofs.YtbeeaekepmnfhaaGreatDoor Go.Proofs.YtbeeaekepmnfhaaGreatDoor.fp2 Go.Proofs.YtbeeaekepmnfhaaGreatDoor.tower
theorem sk_e0 (x:F2) (k:Fp):sk x k=x*e0 k:=by
 rw[F2.mul_def]
 refine F2.ext ?_ ?_
 ·show x.1*k=x.1*k-x.2*0
  rw[Rg.mul_zero,sub_z]
 ·show x.2*k=x.1*0+x.2*k
  rw[Rg.mul_zero,Rg.zero_add]
theorem ln12 (D l x y:F2) (P:Fp × Fp):line12 (D*(l*x-y)) (-(sk (D*l) P.1)) (sk D P.2)=e2 D*(ww*(ww*ww))*lv (tws e2 wi (x,y)) (e2 l*wi) (hmp e1 P):=by
 rw[line12_ww,sk_e0,sk_e0,hm_e2.mul,hm_e2.sub,hm_e2.mul,hm_e2.neg,hm_e2.mul,hm_e2.mul,hm_e2.mul]
 show e2 D*(e2 l*e2 x-e2 y)+ww*(ww*(-(e2 D*e2 l*e1 P.1)+ww*(e2 D*e1 P.2)))=e2 D*(ww*(ww*ww))*(e1 P.2-(e2 y*(wi*wi*wi)+e2 l*wi*(e1 P.1-e2 x*(wi*wi))))
 rw[up_l1,ww_wi]
 exact up_l2 _ _ _ _ _ _ _
section
variable {b:F2} (hb:b≠0)
include hb
theorem tw_rep {T:F2 × F2 × F2} {t:F2 × F2} (h:Rep b T t) (hz:T.2.2≠0) (P:Fp × Fp):Rep b (twF T P).1 (padd t t):=by
 have e:(twF T P).1=jdbl T:=by
  unfold jdbl
  rw[if_neg hz]
  unfold jdbN jdX
  refine Prod.ext ?_ (Prod.ext ?_ rfl)
  ·exact tj_x T.1 T.2.1 _
  ·refine Eq.trans ?_ (tj_y T.2.1 _ _ _)
   show _*(_-(_-_))-_=_
   rw[tj_x T.1 T.2.1]
 rw[e];exact rep_dbl hb h
theorem pl_rep {T:F2 × F2 × F2} {t q:F2 × F2} (h:Rep b T t) (hz:T.2.2≠0) (oq:OnF b q) (hw:q.1*(T.2.2*T.2.2)-T.1≠0) (P:Fp × Fp):Rep b (plF T q P).1 (padd t q):=by
 have k:Rep b ((q.1,q.2,(1:F2)):Jc F2) q:=.inr ⟨Fd.one_ne,by show q.1=q.1*(1*1);rw[Rg.mul_one,Rg.mul_one],by show q.2=q.2*(1*(1*1));rw[Rg.mul_one,Rg.mul_one,Rg.mul_one],oq⟩
 have e:(plF T q P).1=jadd T (q.1,q.2,1):=by
  unfold jadd
  rw[if_neg hz,if_neg (show ¬ (1:F2)=0 from Fd.one_ne)]
  show _=(if q.1*(T.2.2*T.2.2)-T.1*(1*1)=0 then _ else jfin (q.1*(T.2.2*T.2.2)-T.1*(1*1)) (q.2*(T.2.2*T.2.2)*T.2.2-T.2.1*(1*1)*1) (T.1*(1*1)) (T.2.1*(1*1)*1) T.2.2 1)
  rw[pj_w,pj_h,if_neg hw]
  unfold jfin jaX
  refine Prod.ext (pj_x _ _ _).symm (Prod.ext ?_ (pj_z _ _).symm)
  rw[pj_x,pj_y];rfl
 rw[e];exact rep_add hb h k
omit hb in
theorem tw_ln {T:F2 × F2 × F2} {t:F2 × F2} (h:Rep b T t) (hz:T.2.2≠0) {l:F2} (hl:LnP t t l) (P:Fp × Fp) :
  line12 (twF T P).2.1 (twF T P).2.2.1 (twF T P).2.2.2=e2 ((T.2.1*T.2.2+T.2.1*T.2.2)*(T.2.2*T.2.2))*(ww*(ww*ww))*lv (tws e2 wi t) (e2 l*wi) (hmp e1 P):=by
 obtain⟨_,e1',e2',_⟩:=h.resolve_left (fun e=>hz e.1)
 obtain⟨X,Y,Z⟩:=T
 obtain⟨x,y⟩:=t
 simp only at e1' e2' ⊢
 subst e1' e2'
 have h1:=lc1 _ (tl_a x y Z l) hl.2
 have h2:=lc1 _ (tl_b x y Z l) hl.2
 rw[<- ln12,<- h1,<- h2];rfl
omit hb in
theorem pl_ln {T:F2 × F2 × F2} {t q:F2 × F2} (h:Rep b T t) (hz:T.2.2≠0) {l:F2} (hl:LnP t q l) (P:Fp × Fp) :
  line12 (plF T q P).2.1 (plF T q P).2.2.1 (plF T q P).2.2.2=e2 (T.2.2*(q.1*(T.2.2*T.2.2)-T.1))*(ww*(ww*ww))*lv (tws e2 wi t) (e2 l*wi) (hmp e1 P):=by
 obtain⟨_,e1',e2',_⟩:=h.resolve_left (fun e=>hz e.1)
 obtain⟨X,Y,Z⟩:=T
 obtain⟨x,y⟩:=t
 obtain⟨u,v⟩:=q
 simp only at e1' e2' ⊢
 subst e1' e2'
 have h2:=lc1 _ (cl_b x y Z u v l) hl.1
 have h3:lv (tws e2 wi (x,y)) (e2 l*wi) (hmp e1 P)=lv (tws e2 wi (u,v)) (e2 l*wi) (hmp e1 P):=lv_symm (tws_ln hm_e2 hl) _
 rw[h3,<- ln12,<- cl_a,<- h2];rfl
end
noncomputable def sgS (b:Bool) (s:F12 × Pr):F12 × Pr:=(s.1*s.1*(stF b 1 s.2).1,(stF b 1 s.2).2)
noncomputable def sg (k:Pr) (l:List Bool):F12 × Pr:=l.foldl (fun s b=>sgS b s) (1,k)
section
variable {N p u r:Nat} (L:LastP N p u r) {b1:Fp} {b2:F2} (hb1:b1≠0) (hb2:b2≠0) (hns:∀ y:F2,y*y=b2->False) (he:b2=e0 b1*xi)
theorem kil_line {c:F2} (hc:c≠0) (x:F12):(kil L).χ (e2 c*(ww*(ww*ww))*x)=(kil L).χ x:=by rw[(kil L).mul,kil_fac L hc,Rg.one_mul]
include hb1 hb2 he
theorem sg_key {P:Fp × Fp} {Q:F2 × F2} (oQ:OnF b2 Q) (l:List Bool):∀ m,0<m->(∀ k,0<k->k<=bval l m->nmul Q k≠O2)->∀ (f:F12) (T:F2 × F2 × F2) (g:F12),Rep b2 T (nmul Q m)->(kil L).χ f=(kil L).χ g ->
  (kil L).χ (l.foldl (fun s b=>sgS b s) (f,(P,(Q,T)))).1=(kil L).χ (l.foldl (mlS (tws e2 wi Q) (hmp e1 P)) (g,tws e2 wi (nmul Q m))).1:=by
 have hB12:=bb_ne hb1
 have oQ':OnP b2 Q:=.inr oQ
 have on':=tws_on hm_e2 (bb_2 he) (A:=Q) oQ
 -- the tangent
 have dbl:∀ (m:Nat),0<m->nmul Q m≠O2->nmul Q (m+m)≠O2->∀ (f:F12) (T:F2 × F2 × F2) (g:F12),Rep b2 T (nmul Q m)->(kil L).χ f=(kil L).χ g ->
   Rep b2 (twF T P).1 (nmul Q (m+m))/\(kil L).χ (f*f*line12 (twF T P).2.1 (twF T P).2.2.1 (twF T P).2.2.2)=(kil L).χ (g*g*Lt (tws e2 wi (nmul Q m)) (tws e2 wi (nmul Q m)) (hmp e1 P)):=by
  intro m hm n1 n2 f T g hT hf
  have hz:T.2.2≠0:=by
   rcases hT with ⟨_,e⟩|⟨h,_⟩
   ·exact absurd e n1
   ·exact h
  have ot:OnF b2 (nmul Q m):=(nmul_on hb2 oQ' m).resolve_left n1
  have hd:nmul Q (m+m)=padd (nmul Q m) (nmul Q m):=nmul_add hb2 oQ' m m
  have hr:=tw_rep hb2 hT hz P
  rw[<- hd] at hr
  refine⟨hr,?_⟩
  have hnn:¬ nmul Q m=pneg (nmul Q m):=by
   intro e
   refine n2 ?_
   have h0:=add_neg_self (nmul Q m)
   rw[<- e] at h0
   rw[hd];exact h0
  obtain⟨l,hl⟩:=(ln_or ot ot).resolve_left hnn
  have hz2:(twF T P).1.2.2≠0:=by
   rcases hr with ⟨_,e⟩|⟨h,_⟩
   ·exact absurd e n2
   ·exact h
  have hD:(T.2.1*T.2.2+T.2.1*T.2.2)*(T.2.2*T.2.2)≠0:=Fd.mul_ne hz2 (Fd.mul_ne hz hz)
  have oA:=tws_on hm_e2 (bb_2 he) ot
  rw[tw_ln hT hz hl P,Lt_ln hB12 oA oA (tws_ln hm_e2 hl),(kil L).mul (f*f),kil_line L hD,(kil L).mul (g*g),(kil L).mul f f,(kil L).mul g g,hf]
 have add:∀ (m:Nat),0<m->nmul Q m≠O2->nmul Q (m+1)≠O2->nmul Q m≠Q->∀ (f:F12) (T:F2 × F2 × F2) (g:F12),Rep b2 T (nmul Q m)->(kil L).χ f=(kil L).χ g ->
   Rep b2 (plF T Q P).1 (nmul Q (m+1))/\(kil L).χ (f*line12 (plF T Q P).2.1 (plF T Q P).2.2.1 (plF T Q P).2.2.2)=(kil L).χ (g*Lt (tws e2 wi (nmul Q m)) (tws e2 wi Q) (hmp e1 P)):=by
  intro m hm n1 n2 n3 f T g hT hf
  have hz:T.2.2≠0:=by
   rcases hT with ⟨_,e⟩|⟨h,_⟩
   ·exact absurd e n1
   ·exact h
  have ot:OnF b2 (nmul Q m):=(nmul_on hb2 oQ' m).resolve_left n1
  have n4:Q≠pneg (nmul Q m):=by
   intro e
   refine n2 ?_
   have h0:=add_neg_self (nmul Q m)
   rw[<- e] at h0
   exact h0
  have hx:Q.1≠(nmul Q m).1:=x_ne ot oQ (fun e=>n3 e.symm) n4
  have hw:Q.1*(T.2.2*T.2.2)-T.1≠0:=by
   obtain⟨_,e,_⟩:=hT.resolve_left (fun e=>hz e.1)
   rw[e,cl_w]
   exact Fd.mul_ne (Fd.sub_ne hx) (Fd.mul_ne hz hz)
  refine⟨pl_rep hb2 hT hz oQ hw P,?_⟩
  obtain⟨l,hl⟩:=(ln_or ot oQ).resolve_left n4
  have hD:T.2.2*(Q.1*(T.2.2*T.2.2)-T.1)≠0:=Fd.mul_ne hz hw
  rw[pl_ln hT hz hl P,Lt_ln hB12 (tws_on hm_e2 (bb_2 he) ot) on' (tws_ln hm_e2 hl),(kil L).mul f,kil_line L hD,(kil L).mul g,hf]
 induction l with
 | nil=>intro m hm hk f T g hT hf;exact hf
 | cons y l ih =>
  intro m hm hk f T g hT hf
  have hle:=bval_le l (bst m y)
  have hk:∀ k,0<k->k<=bval l (bst m y)->nmul Q k≠O2:=hk
  have ea:=tws_add hm_e2 (bb_2 he) hb2 hB12 (nmul_on hb2 oQ' m) (nmul_on hb2 oQ' m)
  rw[<- nmul_add hb2 oQ'] at ea
  cases y
  ·have hle:m+m<=bval l (bst m false):=hle
   obtain⟨h1,h2⟩:=dbl m hm (hk m hm (by omega)) (hk (m+m) (by omega) (by omega)) f T g hT hf
   have i:=ih (m+m) (by omega) hk _ _ _ h1 h2
   have e1:sgS false (f,(P,(Q,T)))=(f*f*line12 (twF T P).2.1 (twF T P).2.2.1 (twF T P).2.2.2,(P,(Q,(twF T P).1))):=by
    show (f*f*(1*line12 (two T P).2.1 (two T P).2.2.1 (two T P).2.2.2),(P,(Q,(two T P).1)))=_
    rw[Rg.one_mul,two,opq_eq]
   have e2:mlS (tws Cr.e2 wi Q) (hmp Cr.e1 P) (g,tws Cr.e2 wi (nmul Q m)) false=(g*g*Lt (tws Cr.e2 wi (nmul Q m)) (tws Cr.e2 wi (nmul Q m)) (hmp Cr.e1 P),tws Cr.e2 wi (nmul Q (m+m))):=by
    rw[ea];rfl
   rw[List.foldl_cons,List.foldl_cons,e1,e2]
   exact i
  ·have hle:m+m+1<=bval l (bst m true):=hle
   obtain⟨h1,h2⟩:=dbl m hm (hk m hm (by omega)) (hk (m+m) (by omega) (by omega)) f T g hT hf
   have n3:nmul Q (m+m)≠Q:=fun e=>by
    obtain⟨j,hj⟩:∃ j,m+m=j+1:=⟨m+m-1,by omega⟩
    have h0:=hk j (by omega) (by omega)
    have oj:=nmul_on hb2 oQ' j
    rw[hj] at e
    have e:padd (nmul Q j) Q=Q:=e
    have c:=cancel' hb2 oj oQ'
    rw[e,add_neg_self] at c
    exact h0 c.symm
   obtain⟨h3,h4⟩:=add (m+m) (by omega) (hk (m+m) (by omega) (by omega)) (hk (m+m+1) (by omega) hle) n3 _ _ _ h1 h2
   have i:=ih (m+m+1) (by omega) hk _ _ _ h3 h4
   have eb:=tws_add hm_e2 (bb_2 he) hb2 hB12 (nmul_on hb2 oQ' (m+m)) oQ'
   have eb:tws Cr.e2 wi (nmul Q (m+m+1))=padd (tws Cr.e2 wi (nmul Q (m+m))) (tws Cr.e2 wi Q):=eb
   have e1:sgS true (f,(P,(Q,T)))=(f*f*line12 (twF T P).2.1 (twF T P).2.2.1 (twF T P).2.2.2*line12 (plF (twF T P).1 Q P).2.1 (plF (twF T P).1 Q P).2.2.1 (plF (twF T P).1 Q P).2.2.2,(P,(Q,(plF (twF T P).1 Q P).1))):=by
    show (f*f*(1*line12 (two T P).2.1 (two T P).2.2.1 (two T P).2.2.2*line12 (plo (two T P).1 Q P).2.1 (plo (two T P).1 Q P).2.2.1 (plo (two T P).1 Q P).2.2.2),(P,(Q,(plo (two T P).1 Q P).1)))=_
    rw[Rg.one_mul,two,opq_eq,plo,opq_eq,<- Rg.mul_assoc]
   have e2:mlS (tws Cr.e2 wi Q) (hmp Cr.e1 P) (g,tws Cr.e2 wi (nmul Q m)) true=(g*g*Lt (tws Cr.e2 wi (nmul Q m)) (tws Cr.e2 wi (nmul Q m)) (hmp Cr.e1 P)*Lt (tws Cr.e2 wi (nmul Q (m+m))) (tws Cr.e2 wi Q) (hmp Cr.e1 P),tws Cr.e2 wi (nmul Q (m+m+1))):=by
    rw[eb,ea];rfl
   rw[List.foldl_cons,List.foldl_cons,e1,e2]
   exact i
end
end Go.Proofs.YtbeeaekepmnfhaaGreatDoor.pairing
namespace Go.Proofs.YtbeeaekepmnfhaaGreatDoor.pairing
open Go Go.Eng Go.RowKit Cr fp2 tower
noncomputable def prodl:List F12->F12
 | []=>1
 | x::l=>x*prodl l
theorem prodl_snoc (x:F12):∀ l,prodl (l++[x])=prodl l*x
 | []=>by show x*1=1*x;rw[Rg.mul_one,Rg.one_mul]
 | y::l=>by show y*prodl (l++[x])=y*prodl l*x;rw[prodl_snoc x l,Rg.mul_assoc]
theorem prodl_sq {α:Type} (X A:α->F12):∀ l:List α,prodl (l.map X)*prodl (l.map X)*prodl (l.map A)=prodl (l.map fun k=>X k*X k*A k)
 | []=>by show (1:F12)*1*1=1;rw[Rg.one_mul,Rg.one_mul]
 | k::l=>by
  show X k*prodl (l.map X)*(X k*prodl (l.map X))*(A k*prodl (l.map A))=X k*X k*A k*prodl (l.map fun k=>X k*X k*A k)
  rw[<- prodl_sq X A l,pm_1 (X k),pm_1 (X k*X k)]
theorem stF_mul (b:Bool) (f:F12) (k:Pr):stF b f k=(f*(stF b 1 k).1,(stF b 1 k).2):=by
 cases b
 ·refine Prod.ext ?_ rfl
  show f*_=f*(1*_)
  rw[Rg.one_mul]
 ·refine Prod.ext ?_ rfl
  show f*_*_=f*(1*_*_)
  rw[Rg.one_mul,pm_2]
theorem set_mid {α:Type} (A B:List α) (x y d:α):(A++x::B).getD A.length d=x/\(A++x::B).set A.length y=A++y::B:=by
 constructor
 ·simp[List.getD_eq_getElem?_getD]
 ·simp
theorem inK_eq (b:Bool) (f:F12) (l:List Pr):∀ i,i<=l.length->inK b (f,l) i=(f*prodl ((l.take i).map fun k=>(stF b 1 k).1),(l.take i).map (fun k=>(stF b 1 k).2)++l.drop i)
 | 0,_=>by
  show (f,l)=(f*1,l)
  rw[Rg.mul_one]
 | i+1,hi=>by
  show ((stF b (inK b (f,l) i).1 ((inK b (f,l) i).2.getD i (zeroOf prk))).1,(inK b (f,l) i).2.set i (stF b (inK b (f,l) i).1 ((inK b (f,l) i).2.getD i (zeroOf prk))).2)=_
  rw[inK_eq b f l i (by omega)]
  have hi:i<l.length:=hi
  have hd:l.drop i=l[i]::l.drop (i+1):=List.drop_eq_getElem_cons hi
  have ht:l.take (i+1)=l.take i++[l[i]]:=List.take_succ_eq_append_getElem hi
  have hl:((l.take i).map (fun k=>(stF b 1 k).2)).length=i:=by rw[List.length_map,List.length_take];omega
  obtain⟨A,hA⟩:∃ A,A=(l.take i).map (fun k=>(stF b 1 k).2):=⟨_,rfl⟩
  rw[<- hA] at hl ⊢
  have hg:∀ d:Pr,(A++l[i]::l.drop (i+1)).getD i d=l[i]:=fun d=>by
   have:=(set_mid A (l.drop (i+1)) l[i] l[i] d).1
   rwa [hl] at this
  have hs:∀ y:Pr,(A++l[i]::l.drop (i+1)).set i y=A++y::l.drop (i+1):=fun y=>by
   have:=(set_mid A (l.drop (i+1)) l[i] y y).2
   rwa [hl] at this
  simp only
  rw[hd,hg,hs,stF_mul,ht,List.map_append,List.map_append,<- hA,List.map_cons,List.map_cons,List.map_nil,List.map_nil,prodl_snoc,Rg.mul_assoc,List.append_assoc];rfl
def bls (j:Nat):List Bool:=(List.range j).map fun (j:Nat)=>pbit (62-(j:Int))
theorem sg_succ (k:Pr) (j:Nat):sg k (bls (j+1))=sgS (pbit (62-(j:Int))) (sg k (bls j)):=by
 unfold sg bls
 rw[List.range_succ,List.map_append,List.foldl_append];rfl
theorem ouK_eq (l:List Pr):∀ j,ouK l j=(prodl (l.map fun k=>(sg k (bls j)).1),l.map fun k=>(sg k (bls j)).2)
 | 0=>by
  have h1:∀ l:List Pr,prodl (l.map fun k=>(sg k (bls 0)).1)=1:=by
   intro l
   induction l with
   | nil=>rfl
   | cons k l ih=>show 1*prodl _=1;rw[Rg.one_mul];exact ih
  have h2:(l.map fun k=>(sg k (bls 0)).2)=l:=List.map_id l
  rw[h1,h2];rfl
 | j+1=>by
  show inK (pbit (62-(j:Int))) ((ouK l j).1*(ouK l j).1,(ouK l j).2) l.length=_
  rw[ouK_eq l j]
  obtain⟨M,hM⟩:∃ M,M=(l.map fun k=>(sg k (bls j)).2):=⟨_,rfl⟩
  have hl:l.length=M.length:=by rw[hM,List.length_map]
  rw[<- hM,hl,inK_eq _ _ _ _ (Nat.le_refl _),List.take_length,List.drop_length,List.append_nil,hM,List.map_map,List.map_map,prodl_sq]
  refine Prod.ext ?_ ?_
  ·refine congrArg prodl (List.map_congr_left fun k _=>?_)
   rw[sg_succ];rfl
  ·refine List.map_congr_left fun k _=>?_
   rw[sg_succ];rfl
theorem conj_one:conj12 (1:F12)=1:=F12.ext rfl neg_z
theorem liF_eq (ps:List (Fp × Fp)) (qs:List (F2 × F2)):liF ps qs=cjo (prodl ((prs ps qs ps.length).map fun k=>(sg k (bls 63)).1)):=by
 rw[liF]
 cases h:prs ps qs ps.length with
 | nil=>show (1:F12)=cjo 1;rw[cjo,opq_eq,conj_one]
 | cons k l =>
  show cjo (ouK (k::l) 63).1=_
  rw[ouK_eq]
section
variable {N p u r:Nat} (L:LastP N p u r) {b1:Fp} {b2:F2} (hb1:b1≠0) (hb2:b2≠0) (hns:∀ y:F2,y*y=b2->False) (he:b2=e0 b1*xi)
noncomputable def evl (L:LastP N p u r) (bl:List Bool) (ps:List (Fp × Fp)) (qs:List (F2 × F2)) (k:Nat):F12:=it (fun i x=>x*ev L bl (ps.getD i ((0:Fp),(0:Fp))) (qs.getD i (((0:Fp),(0:Fp)),(0:Fp),(0:Fp)))) 1 k
variable (hu:0<u) (hbl:bval (bls 63) 1=u)
include hb1 hb2 hns he hu hbl
omit hns hu in
theorem sg_ev {P:Fp × Fp} {Q:F2 × F2} (nP:P≠O2) (nQ:Q≠O2) (hQ:GQ p u r b2 Q):(kil L).χ (sg (P,(Q,(Q.1,Q.2,(1:F2)))) (bls 63)).1=ev L (bls 63) P Q:=by
 have oQ:OnF b2 Q:=hQ.on.resolve_left nQ
 have k:Rep b2 ((Q.1,Q.2,(1:F2)):Jc F2) (nmul Q 1):=by
  rw[nmul_one]
  exact .inr ⟨Fd.one_ne,by show Q.1=Q.1*(1*1);rw[Rg.mul_one,Rg.mul_one],by show Q.2=Q.2*(1*(1*1));rw[Rg.mul_one,Rg.mul_one,Rg.mul_one],oQ⟩
 have h:=sg_key L hb1 hb2 he (P:=P) oQ (bls 63) 1 Nat.one_pos (fun j h0 h1=>(hQ.small.resolve_left nQ) j h0 (by rw[hbl] at h1;exact h1)) 1 (Q.1,Q.2,(1:F2)) 1 k rfl
 rw[nmul_one] at h
 unfold ev
 rw[if_neg nP]
 exact h
omit hns in
omit hu in
theorem evl_key {ps:List (Fp × Fp)} {qs:List (F2 × F2)}:∀ k,(∀ i,i<k->OnP b1 (ps.getD i ((0:Fp),(0:Fp))))->(∀ i,i<k->GQ p u r b2 (qs.getD i (((0:Fp),(0:Fp)),(0:Fp),(0:Fp)))) ->
  (kil L).χ (prodl ((prs ps qs k).map fun k=>(sg k (bls 63)).1))=evl L (bls 63) ps qs k
 | 0,_,_=>(kil L).one
 | k+1,h1,h2=>by
  have ih:=evl_key (ps:=ps) (qs:=qs) k (fun i hi=>h1 i (by omega)) (fun i hi=>h2 i (by omega))
  have hP:=h1 k (by omega)
  have hQ:=h2 k (by omega)
  show (kil L).χ (prodl ((pr1 (ps.getD k ((0:Fp),(0:Fp))) (qs.getD k (((0:Fp),(0:Fp)),(0:Fp),(0:Fp))) (prs ps qs k)).map fun k=>(sg k (bls 63)).1))=evl L (bls 63) ps qs k*ev L (bls 63) (ps.getD k ((0:Fp),(0:Fp))) (qs.getD k (((0:Fp),(0:Fp)),(0:Fp),(0:Fp)))
  obtain⟨P,eP⟩:∃ P,P=ps.getD k ((0:Fp),(0:Fp)):=⟨_,rfl⟩
  obtain⟨Q,eQ⟩:∃ Q,Q=qs.getD k (((0:Fp),(0:Fp)),(0:Fp),(0:Fp)):=⟨_,rfl⟩
  rw[<- eP] at hP ⊢
  rw[<- eQ] at hQ ⊢
  unfold pr1
  by_cases nP:P=O2
  ·rw[(eqC_iff (e:=pt1) P ((0:Fp),(0:Fp))).2 nP,nP,ev_OP,Rg.mul_one];exact ih
  by_cases nQ:Q=O2
  ·rw[(eqC_iff (e:=pt2) Q (((0:Fp),(0:Fp)),(0:Fp),(0:Fp))).2 nQ,nQ,ev_OQ L,Rg.mul_one]
   split
   ·rename_i h;cases h
   ·exact ih
  ·have c1:eqC pt1 P ((0:Fp),(0:Fp))=false:=Bool.eq_false_iff.2 fun h=>nP ((eqC_iff (e:=pt1) _ _).1 h)
   have c2:eqC pt2 Q (((0:Fp),(0:Fp)),(0:Fp),(0:Fp))=false:=Bool.eq_false_iff.2 fun h=>nQ ((eqC_iff (e:=pt2) _ _).1 h)
   rw[c1,c2]
   show (kil L).χ (prodl ((prs ps qs k++[(P,(Q,(Q.1,Q.2,(1:F2))))]).map fun k=>(sg k (bls 63)).1))=_
   rw[List.map_append,List.map_cons,List.map_nil,prodl_snoc,(kil L).mul,ih,sg_ev L hb1 hb2 he hbl nP nQ hQ]
omit hu in
theorem evl_r {ps:List (Fp × Fp)} {qs:List (F2 × F2)}:∀ k,(∀ i,i<k->OnP b1 (ps.getD i ((0:Fp),(0:Fp))))->(∀ i,i<k->GQ p u r b2 (qs.getD i (((0:Fp),(0:Fp)),(0:Fp),(0:Fp))))->pwn (evl L (bls 63) ps qs k) r=1
 | 0,_,_=>pwn_one r
 | k+1,h1,h2=>by
  show pwn (evl L (bls 63) ps qs k*ev L (bls 63) _ _) r=1
  rw[pwn_prod,evl_r k (fun i hi=>h1 i (by omega)) (fun i hi=>h2 i (by omega)),ev_r L hb1 hb2 hns he hbl (h1 k (by omega)) (h2 k (by omega)),Rg.one_mul]
omit hu in
theorem fino_lino {n:Nat} (hr:0<r) (h6:p^6=n+1) {v:Nat} (hN:N=finN p n v u) (hv:v=15132376222941642753) (hu2:u=15132376222941642752) {ps:List (Fp × Fp)} {qs:List (F2 × F2)} (h1:∀ i,i<ps.length->OnP b1 (ps.getD i ((0:Fp),(0:Fp)))) (h2:∀ i,i<ps.length->GQ p u r b2 (qs.getD i (((0:Fp),(0:Fp)),(0:Fp),(0:Fp)))) :
  fino (lino ps qs)=cjo (evl L (bls 63) ps qs ps.length):=by
 have k:=evl_key L hb1 hb2 he hbl ps.length h1 h2
 have kr:=evl_r L hb1 hb2 hns he hbl ps.length h1 h2
 rw[lino,opq_eq,liF_eq]
 obtain⟨X,hX⟩:∃ X,X=prodl ((prs ps qs ps.length).map fun k=>(sg k (bls 63)).1):=⟨_,rfl⟩
 rw[<- hX] at k ⊢
 have nX:X≠0:=by
  intro e
  rw[<- k,e] at kr
  have h0:pwn (pwn (0:F12) N) r=1:=kr
  rw[pwn_zr L.pos,pwn_zr hr] at h0
  exact Fd.one_ne h0.symm
 have nC:cjo X≠0:=by rw[cjo_eq L.pp];exact pwn_ne nX _
 rw[fino_eq L.pp h6 hv hu2 nC,<- hN,<- k,cjo_eq L.pp,cjo_eq L.pp]
 show pwn (pwn X (p^6)) N=pwn (pwn X N) (p^6)
 rw[<- pwn_mul,<- pwn_mul,Nat.mul_comm]
end
end Go.Proofs.YtbeeaekepmnfhaaGreatDoor.pairing
namespace Go.Proofs.YtbeeaekepmnfhaaGreatDoor.pairing
open Go Go.Eng Go.RowKit Cr fp2 tower
def rtN:Nat:=3850754370037169011952147076051364057158807420970682438676050522613628423219637725072182697113062777891589506424760
theorem q12_fr {r:V2} (hr:q2 r=rt1) (x:V12):q12 (v12fr r x)=frobF (q12 x):=by
 simp only[v12fr,fo2_eq,q12,q6,q2_mul,q2_cj,hr];rfl
def vsk (a:V2) (k:Nat):V2:=(mulN2 a.1 k,mulN2 a.2 k)
theorem q2_sk (a:V2) (k:Nat):q2 (vsk a k)=sk (q2 a) (zm (k:Int)):=by
 show (zm ((mulN2 a.1 k:Nat):Int),zm ((mulN2 a.2 k:Nat):Int))=_
 rw[mulN2_φ,mulN2_φ];rfl
abbrev V3:=V2 × V2 × V2
noncomputable def q3 (t:V3):F2 × F2 × F2:=(q2 t.1,q2 t.2.1,q2 t.2.2)
def vtw (t:V3) (px py:Nat):V3 × V3 :=
 fo2 (vmul t.1 t.1) fun xx=>fo2 (vmul t.2.1 t.2.1) fun yy=>fo2 (vmul t.2.2 t.2.2) fun zz=>fo2 (vadd (vadd xx xx) xx) fun sl =>
 fo2 (vmul yy yy) fun d0=>fo2 (vadd d0 d0) fun d1=>fo2 (vadd d1 d1) fun d2=>fo2 (vadd d2 d2) fun e8 =>
 fo2 (vmul t.1 yy) fun f0=>fo2 (vadd f0 f0) fun f1=>fo2 (vadd f1 f1) fun f4 =>
 fo2 (vsub (vmul sl sl) (vadd f4 f4)) fun x=>fo2 (vsub f4 x) fun fx=>fo2 (vsub (vmul sl fx) e8) fun y=>fo2 (vmul t.2.1 t.2.2) fun z1=>fo2 (vadd z1 z1) fun z =>
 fo2 (vsub (vmul sl t.1) (vadd yy yy)) fun a=>fo2 (vmul sl zz) fun b1=>fo2 (vneg (vsk b1 px)) fun b=>fo2 (vmul z zz) fun c1=>fo2 (vsk c1 py) fun c =>
 ((x,y,z),(a,b,c))
theorem q_vtw (t:V3) (px py:Nat):(q3 (vtw t px py).1,q3 (vtw t px py).2)=twF (q3 t) (zm (px:Int),zm (py:Int)):=by
 simp only[vtw,fo2_eq,q3,q2_mul,q2_add,q2_sub,q2_neg,q2_sk];rfl
def vpl (t:V3) (q:V2 × V2) (px py:Nat):V3 × V3 :=
 fo2 (vmul t.2.2 t.2.2) fun zz=>fo2 (vsub (vmul q.1 zz) t.1) fun wide=>fo2 (vmul zz t.2.2) fun z3=>fo2 (vsub (vmul q.2 z3) t.2.1) fun high =>
 fo2 (vmul wide wide) fun square=>fo2 (vmul square wide) fun cube=>fo2 (vmul t.1 square) fun part =>
 fo2 (vsub (vsub (vmul high high) cube) (vadd part part)) fun x=>fo2 (vsub part x) fun fx=>fo2 (vsub (vmul high fx) (vmul t.2.1 cube)) fun y=>fo2 (vmul t.2.2 wide) fun z =>
 fo2 (vsub (vmul high q.1) (vmul z q.2)) fun a=>fo2 (vneg (vsk high px)) fun b=>fo2 (vsk z py) fun c =>
 ((x,y,z),(a,b,c))
theorem q_vpl (t:V3) (q:V2 × V2) (px py:Nat):(q3 (vpl t q px py).1,q3 (vpl t q px py).2)=plF (q3 t) (q2 q.1,q2 q.2) (zm (px:Int),zm (py:Int)):=by
 simp only[vpl,fo2_eq,q3,q2_mul,q2_add,q2_sub,q2_neg,q2_sk];rfl
def vln (l:V3):V12:=((l.1,l.2.1,(0,0)),((0,0),l.2.2,(0,0)))
theorem q_vln (l:V3):q12 (vln l)=line12 (q2 l.1) (q2 l.2.1) (q2 l.2.2):=rfl
def fo3 {α:Type} (a:V12 × V3) (k:V12->V3->α):α:=fo12 a.1 fun f=>fo6 a.2 fun t=>k f t
theorem fo3_eq {α:Type} (a:V12 × V3) (k:V12->V3->α):fo3 a k=k a.1 a.2:=by rw[fo3,fo12_eq,fo6_eq]
def vst (q:V2 × V2) (px py:Nat) (s:V12 × V3):Bool->V12 × V3
 | false=>fo12 (v12sq s.1) fun f=>fo6 (vtw s.2 px py).1 fun t=>fo6 (vtw s.2 px py).2 fun l=>fo12 (v12mul f (vln l)) fun g=>(g,t)
 | true=>fo12 (v12sq s.1) fun f=>fo6 (vtw s.2 px py).1 fun t=>fo6 (vtw s.2 px py).2 fun l=>fo12 (v12mul f (vln l)) fun g =>
  fo6 (vpl t q px py).1 fun t2=>fo6 (vpl t q px py).2 fun l2=>fo12 (v12mul g (vln l2)) fun g2=>(g2,t2)
def vlp (q:V2 × V2) (px py:Nat):List Bool->V12->V3->V12
 | [],f,_=>f
 | b::l,f,t=>fo3 (vst q px py (f,t) b) fun f t=>vlp q px py l f t
theorem q_vst (q:V2 × V2) (px py:Nat) (f:V12) (t:V3) (b:Bool):sgS b (q12 f,((zm (px:Int),zm (py:Int)),((q2 q.1,q2 q.2),q3 t)))=(q12 (vst q px py (f,t) b).1,((zm (px:Int),zm (py:Int)),((q2 q.1,q2 q.2),q3 (vst q px py (f,t) b).2))):=by
 have h1:=q_vtw t px py
 have h1a:=congrArg Prod.fst h1
 have h1b:=congrArg Prod.snd h1
 simp only at h1a h1b
 cases b
 ·show (q12 f*q12 f*(1*line12 (two (q3 t) (zm (px:Int),zm (py:Int))).2.1 (two (q3 t) (zm (px:Int),zm (py:Int))).2.2.1 (two (q3 t) (zm (px:Int),zm (py:Int))).2.2.2),(_,(_,(two (q3 t) (zm (px:Int),zm (py:Int))).1)))=_
  rw[Rg.one_mul,two,opq_eq,<- h1a,<- h1b]
  simp only[vst,fo12_eq,fo6_eq,q12_mul,q12_sq,q_vln];rfl
 ·have h2:=q_vpl (vtw t px py).1 q px py
  rw[h1a] at h2
  have h2a:=congrArg Prod.fst h2
  have h2b:=congrArg Prod.snd h2
  simp only at h2a h2b
  show (q12 f*q12 f*(1*line12 (two (q3 t) (zm (px:Int),zm (py:Int))).2.1 (two (q3 t) (zm (px:Int),zm (py:Int))).2.2.1 (two (q3 t) (zm (px:Int),zm (py:Int))).2.2.2*line12 (plo (two (q3 t) (zm (px:Int),zm (py:Int))).1 (q2 q.1,q2 q.2) (zm (px:Int),zm (py:Int))).2.1 (plo (two (q3 t) (zm (px:Int),zm (py:Int))).1 (q2 q.1,q2 q.2) (zm (px:Int),zm (py:Int))).2.2.1 (plo (two (q3 t) (zm (px:Int),zm (py:Int))).1 (q2 q.1,q2 q.2) (zm (px:Int),zm (py:Int))).2.2.2),(_,(_,(plo (two (q3 t) (zm (px:Int),zm (py:Int))).1 (q2 q.1,q2 q.2) (zm (px:Int),zm (py:Int))).1)))=_
  rw[Rg.one_mul,two,opq_eq,plo,opq_eq,<- h2a,<- h2b,<- h1b,<- Rg.mul_assoc]
  simp only[vst,fo12_eq,fo6_eq,q12_mul,q12_sq,q_vln];rfl
theorem q_vlp (q:V2 × V2) (px py:Nat):∀ (l:List Bool) (f:V12) (t:V3),(l.foldl (fun s b=>sgS b s) (q12 f,((zm (px:Int),zm (py:Int)),((q2 q.1,q2 q.2),q3 t)))).1=q12 (vlp q px py l f t)
 | [],f,t=>rfl
 | b::l,f,t=>by
  show (l.foldl (fun s b=>sgS b s) (sgS b (q12 f,_))).1=q12 (fo3 (vst q px py (f,t) b) fun f t=>vlp q px py l f t)
  rw[q_vst,fo3_eq,q_vlp q px py l]
def vfin (r:V2) (x:V12):V12 :=
 fo12 (v12fr r x) fun x1=>fo12 (v12fr r x1) fun x2=>fo12 (v12mul x2 x) fun g =>
 fo12 (v12pw g 64 15132376222941642753) fun a1=>fo12 (v12pw a1 64 15132376222941642753) fun a =>
 fo12 (v12pw a 64 15132376222941642752) fun b1=>fo12 (v12fr r a) fun b2=>fo12 (v12cj b1) fun b3=>fo12 (v12mul b3 b2) fun b =>
 fo12 (v12pw b 64 15132376222941642752) fun c1=>fo12 (v12pw c1 64 15132376222941642752) fun c2=>fo12 (v12fr r b) fun c3=>fo12 (v12fr r c3) fun c4=>fo12 (v12mul c2 c4) fun c5=>fo12 (v12cj b) fun c6=>fo12 (v12mul c5 c6) fun c =>
 fo12 (v12sq g) fun g2=>fo12 (v12mul c g2) fun d=>v12mul d g
theorem q_vfin {r:V2} (hr:q2 r=rt1) {p v u:Nat} (hp:p=fpP) (hv:v=15132376222941642753) (hu:u=15132376222941642752) (x:V12):q12 (vfin r x)=pwn (q12 x) ((p*p+1)*(v*v*(u*p^6+p)*(u*u+p*p+p^6)+2+1)):=by
 have hV:v<2^64:=by rw[hv];exact of_decide_eq_true (by kernel_rfl)
 have hU:u<2^64:=by rw[hu];exact of_decide_eq_true (by kernel_rfl)
 have hc:∀ x:F12,conj12 x=pwn x (p^6):=fun x=>(pw_6 hp x).symm
 unfold vfin
 rw[<- hv,<- hu]
 simp only[fo12_eq,q12_mul,q12_sq,q12_cj,q12_fr hr,q12_pw _ 64 v hV,q12_pw _ 64 u hU,frobF_eq hp,hc]
 obtain⟨X,hX⟩:∃ X,X=q12 x:=⟨_,rfl⟩
 rw[<- hX]
 have e1:pwn (pwn X p) p*X=pwn X (p*p+1):=by rw[<- pwn_mul];rfl
 rw[e1,pwn_mul X (p*p+1)]
 obtain⟨g,hg⟩:∃ g,g=pwn X (p*p+1):=⟨_,rfl⟩
 rw[<- hg,pwn_add g _ 1,pwn_add g _ 2,pwn_mul g _ (u*u+p*p+p^6),pwn_mul g (v*v),pwn_mul g v v,pw_1]
 show _=_*(1*g*g)*g
 rw[Rg.one_mul]
 obtain⟨a,ha⟩:∃ a,a=pwn (pwn g v) v:=⟨_,rfl⟩
 rw[<- ha,pwn_add a,pwn_mul a]
 obtain⟨b,hb⟩:∃ b,b=pwn (pwn a u) (p^6)*pwn a p:=⟨_,rfl⟩
 rw[<- hb,pwn_add b,pwn_add b,pwn_mul b u u,pwn_mul b p p]
end Go.Proofs.YtbeeaekepmnfhaaGreatDoor.pairing
namespace Go.Proofs.YtbeeaekepmnfhaaGreatDoor.pairing
noncomputable section
open Go Go.Eng Go.RowKit Cr fp2 tower
abbrev b1:Fp:=g1.b4
abbrev b2:F2:=g2.b4
theorem b2_eq:b2=e0 b1*xi:=by
 rw[F2.mul_def]
 refine F2.ext ?_ ?_
 ·show (zm 4:Fp)=zm 4*1-0*1
  rw[Rg.mul_one,Rg.mul_one,sub_z]
 ·show (zm 4:Fp)=zm 4*1+0*1
  rw[Rg.mul_one,Rg.mul_one,Rg.add_zero]
theorem b2_ns (y:F2) (h:y*y=b2):False:=by
 obtain⟨i,hi⟩:∃ i:F2,(1+1)*i=1:=⟨_,Fd.mul_inv _ Fd.two_ne⟩
 have h4:e0 b1=(1+1)*(1+1):=by
  have h2:((1+1:Fp)*(1+1))=zm 4:=Zm.ext (by decide)
  have h3:e0 ((1+1:Fp)*(1+1))=(1+1)*(1+1):=by rw[hm_e0.mul,hm_e0.add,hm_e0.one]
  rw[<- h3,h2];rfl
 refine xi_sq (s:=y*i) ?_
 have e:y*i*(y*i)=y*y*(i*i):=pm_1 _ _ _ _
 have e2:(1+1:F2)*(1+1)*xi*(i*i)=(1+1)*i*((1+1)*i)*xi:=by ac_rfl
 rw[e,h,b2_eq,h4,e2,hi,Rg.one_mul,Rg.one_mul]
def pp:Nat:=opq fpP
def uu:Nat:=opq 15132376222941642752
def vu:Nat:=opq 15132376222941642753
def nn:Nat:=opq (fpP^6-1)
def NN:Nat:=opq (finN pp nn vu uu)
abbrev rN:Nat:=g1.rN
theorem pp_eq:pp=fpP:=opq_eq _
theorem uu_eq:uu=15132376222941642752:=opq_eq _
theorem vu_eq:vu=15132376222941642753:=opq_eq _
theorem nn_eq:pp^6=nn+1:=by
 rw[pp_eq,nn,opq_eq];exact of_decide_eq_true (by kernel_rfl)
theorem NN_eq:NN=finN pp nn vu uu:=opq_eq _
theorem NN_six {x:F12} (hx:x≠0) (h2:x.2=0):pwn x NN=1:=by
 rw[NN_eq];exact kill6 pp_eq nn_eq hx h2
theorem NN_form:∃ t,NN=nn*(2*t):=by
 obtain⟨M,hM⟩:∃ M,M=vu*vu*(uu*pp^6+pp)*(uu*uu+pp*pp+pp^6)+2+1:=⟨_,rfl⟩
 have h:∃ k,pp*pp+1=2*k:=by
  rw[pp_eq];exact⟨(fpP*fpP+1)/2,of_decide_eq_true (by kernel_rfl)⟩
 obtain⟨k,hk⟩:=h
 refine⟨k*M,?_⟩
 rw[NN_eq,finN,<- hM,hk,Nat.mul_assoc,Nat.mul_assoc]
theorem NN_odd {x:F12} (hx:x≠0) (h1:x.1=0):pwn x NN=1:=by
 obtain⟨t,ht⟩:=NN_form
 have h3:pwn x nn*x=-x:=by
  have h:=pw_6 pp_eq x
  rw[nn_eq] at h
  have h4:pwn x nn*x=(x.1,-x.2):=h
  rw[h4,F12.neg_def,h1]
  exact F12.ext neg_z.symm rfl
 have h5:pwn x nn=-1:=by
  have h6:pwn x nn*(x*Fd.inv x)=-(x*Fd.inv x):=by rw[<- Rg.mul_assoc,h3,Rg.neg_mul]
  rwa [Fd.mul_inv _ hx,Rg.mul_one] at h6
 rw[ht,pwn_mul,h5,pwn_mul]
 have h7:pwn (-1:F12) 2=1:=by
  show 1 * -1 * -1=(1:F12)
  rw[Rg.one_mul,Rg.neg_mul,Rg.one_mul,Rg.neg_neg]
 rw[h7,pwn_one]
theorem NN_ord {x:F12} (hx:x≠0):pwn (pwn x NN) rN=1:=by
 obtain⟨m,hm⟩:=fin_mul
 have e:rN=rrN:=rfl
 have e2:finN pp nn vu uu=finN fpP (fpP^6-1) 15132376222941642753 15132376222941642752:=by
  rw[pp_eq,uu_eq,vu_eq,nn,opq_eq]
 rw[NN_eq,e2,e]
 exact fin_r hm hx
theorem uu_np:∃ s,uu+pp=rN*s:=by
 rw[uu_eq,pp_eq]
 exact⟨(15132376222941642752+fpP)/rN,of_decide_eq_true (by kernel_rfl)⟩
theorem NN_pos:0<NN:=by
 have h:NN≠0:=by
  rw[NN_eq,show finN pp nn vu uu=finN fpP (fpP^6-1) 15132376222941642753 15132376222941642752 by rw[pp_eq,uu_eq,vu_eq,nn,opq_eq]]
  exact of_decide_eq_true (by kernel_rfl)
 omega
theorem lastP:LastP NN pp uu rN:=⟨pp_eq,fun _ h h2=>NN_six h h2,fun _ h h1=>NN_odd h h1,fun _ h=>NN_ord h,uu_np,NN_pos⟩
theorem uu_pos:0<uu:=by rw[uu_eq];exact of_decide_eq_true (by kernel_rfl)
theorem bls_val:bval (bls 63) 1=uu:=by rw[uu_eq];exact of_decide_eq_true (by kernel_rfl)
theorem rN_pos:0<rN:=of_decide_eq_true (by kernel_rfl)
def rtv:V2:=vcj (rtN,rtN)
theorem rtv_eq:q2 rtv=rt1:=by
 obtain⟨m,hm⟩:∃ m,m=fpP/12:=⟨_,rfl⟩
 have h1:fpP/6=2*m+1:=by rw[hm];exact of_decide_eq_true (by kernel_rfl)
 have h2:m=2*(2*(fpP/48))+2+1:=by rw[hm];exact of_decide_eq_true (by kernel_rfl)
 have h3:(zm (rtN:Int):Fp)=pwn (1+1:Fp) m:=by
  rw[<- zpow_pwn]
  refine Zm.ext ?_
  rw[zpow_two_v,<- npm_eq fpP 2 (of_decide_eq_true (by kernel_rfl)) 384 m (by rw[hm];exact of_decide_eq_true (by kernel_rfl)),hm]
  exact of_decide_eq_true (by kernel_rfl)
 rw[rt1_eq rfl,xi_pw h1 h2,<- h3,rtv,q2_cj];rfl
theorem fro_wi:fro pp wi*e2 rt1=wi:=by
 have hq:pp=6*(fpP/6)+1:=pp_eq.trans (of_decide_eq_true (by kernel_rfl))
 have h1:fro pp ww=e2 rt1*ww:=by
  rw[rt1_eq rfl];exact pw_ww hq
 have h2:=congrArg (fro pp) ww_wi
 have hf:=hm_fro pp_eq
 rw[hf.mul,hf.one,h1] at h2
 have h3:e2 rt1*ww*fro pp wi*wi=wi:=by rw[h2,Rg.one_mul]
 have h4:e2 rt1*ww*fro pp wi*wi=fro pp wi*e2 rt1*(ww*wi):=by ac_rfl
 rw[h4,ww_wi,Rg.mul_one] at h3
 exact h3
theorem fro_e2 (x:F2):fro pp (e2 x)=e2 (x.1,-x.2):=by
 show pwn (e2 x) pp=_
 rw[e2_pw,pw_f2 pp_eq]
theorem fro_tws {x y x' y':F2} (hx:((x.1,-x.2):F2)=x'*(rt1*rt1)) (hy:((y.1,-y.2):F2)=-(y'*(rt1*rt1*rt1))):hmp (fro pp) (tws e2 wi (x,y))=pneg (tws e2 wi (x',y')):=by
 have hf:=hm_fro pp_eq
 refine Prod.ext ?_ ?_
 ·show fro pp (e2 x*(wi*wi))=e2 x'*(wi*wi)
  rw[hf.mul,hf.mul,fro_e2,hx,hm_e2.mul,hm_e2.mul]
  have e:e2 x'*(e2 rt1*e2 rt1)*(fro pp wi*fro pp wi)=e2 x'*(fro pp wi*e2 rt1*(fro pp wi*e2 rt1)):=by ac_rfl
  rw[e,fro_wi]
 ·show fro pp (e2 y*(wi*wi*wi))=-(e2 y'*(wi*wi*wi))
  rw[hf.mul,hf.mul,hf.mul,fro_e2,hy,hm_e2.neg,hm_e2.mul,hm_e2.mul,hm_e2.mul,Rg.neg_mul]
  have e:e2 y'*(e2 rt1*e2 rt1*e2 rt1)*(fro pp wi*fro pp wi*fro pp wi)=e2 y'*(fro pp wi*e2 rt1*(fro pp wi*e2 rt1)*(fro pp wi*e2 rt1)):=by ac_rfl
  rw[e,fro_wi]
def qx:V2:=(qxA,qxB)
def qy:V2:=(qyA,qyB)
def chq (T:V3):Bool :=
 fo6 T fun T=>fo2 (vmul T.2.2 T.2.2) fun zz=>fo2 (vmul zz T.2.2) fun zzz=>fo2 (vmul rtv rtv) fun r2=>fo2 (vmul r2 rtv) fun r3 =>
 evP2.isz (vsub (vmul (vcj qx) zz) (vmul T.1 r2))&&evP2.isz (vadd (vmul (vcj qy) zzz) (vmul T.2.1 r3))
theorem chq_ok:chq (evP2.mul2 (qx,qy,((1:Nat),(0:Nat))) 64 15132376222941642752)=true:=by kernel_rfl
theorem chq_nz:evP2.isz (evP2.mul2 (qx,qy,((1:Nat),(0:Nat))) 64 15132376222941642752).2.2=false:=by kernel_rfl
theorem gG_rep:Rep b2 (evP2.φ3 (qx,qy,((1:Nat),(0:Nat)))) g2.gG:=by
 have h:=rep_lift g2.gG_on
 unfold jlift at h
 rw[if_neg g2.gG_ne,g2.gG_eq] at h
 rw[g2.gG_eq]
 exact h
theorem gG_fro:hmp (fro pp) (tws e2 wi g2.gG)=pneg (tws e2 wi (nmul g2.gG uu)):=by
 have h2:=Ev.mul2_rep g2.b4_ne gG_rep 64 15132376222941642752 (of_decide_eq_true (by kernel_rfl))
 have h3:=chq_ok
 have h4:=chq_nz
 rw[uu_eq]
 obtain⟨T,hT⟩:∃ T:V3,T=evP2.mul2 (qx,qy,((1:Nat),(0:Nat))) 64 15132376222941642752:=⟨_,rfl⟩
 obtain⟨G,hG⟩:∃ G,G=nmul g2.gG 15132376222941642752:=⟨_,rfl⟩
 rw[<- hT] at h3 h4
 have h2:Rep b2 (evP2.φ3 (evP2.mul2 (qx,qy,((1:Nat),(0:Nat))) 64 15132376222941642752)) (nmul g2.gG 15132376222941642752):=h2
 rw[<- hT,<- hG] at h2
 rw[<- hG]
 have nz:q2 T.2.2≠0:=fun e=>by
  have:=(evP2.isz_φ T.2.2).2 e
  rw[h4] at this;cases this
 obtain⟨_,e1,e2',_⟩:=h2.resolve_left (fun e=>nz e.1)
 have e1:q2 T.1=G.1*(q2 T.2.2*q2 T.2.2):=e1
 have e2':q2 T.2.1=G.2*(q2 T.2.2*(q2 T.2.2*q2 T.2.2)):=e2'
 unfold chq at h3
 simp only[fo6_eq,fo2_eq] at h3
 rw[Bool.and_eq_true] at h3
 have h5:q2 (vsub (vmul (vcj qx) (vmul T.2.2 T.2.2)) (vmul T.1 (vmul rtv rtv)))=0:=(evP2.isz_φ _).1 h3.1
 have h6:q2 (vadd (vmul (vcj qy) (vmul (vmul T.2.2 T.2.2) T.2.2)) (vmul T.2.1 (vmul (vmul rtv rtv) rtv)))=0:=(evP2.isz_φ _).1 h3.2
 simp only[q2_sub,q2_mul,q2_cj,q2_add,rtv_eq] at h5 h6
 have k5:=Rg.eq_of_sub h5
 have k6:=(Rg.neg_eq h6).symm
 rw[e1] at k5
 rw[e2'] at k6
 obtain⟨Z,hZ⟩:∃ Z,Z=q2 T.2.2:=⟨_,rfl⟩
 rw[<- hZ] at k5 k6 nz
 rw[g2.gG_eq]
 refine fro_tws (x:=g2.gx) (y:=g2.gy) (x':=G.1) (y':=G.2) ?_ ?_
 ·refine Fd.mul_left (Fd.mul_ne nz nz) ?_
  rw[Rg.mul_comm]
  refine Eq.trans k5 ?_
  ac_rfl
 ·refine Fd.mul_left (Fd.mul_ne (Fd.mul_ne nz nz) nz) ?_
  have k7:((g2.gy.1,-g2.gy.2):F2)*(Z*Z*Z)=-(G.2*(Z*(Z*Z))*(rt1*rt1*rt1)):=by
   rw[k6,Rg.neg_neg];rfl
  rw[Rg.mul_comm,k7,Rg.mul_neg]
  congr 1
  ac_rfl
theorem gq_nmul (n:Nat):GQ pp uu rN b2 (nmul g2.gG n):=by
 have hB:=bb_ne g1.b4_ne
 have eb:=bb_2 b2_eq
 have oG:OnP b2 g2.gG:=g2.gG_on
 have oT:=tws_onP hm_e2 eb oG
 have oU:OnP b2 (nmul g2.gG uu):=nmul_on g2.b4_ne oG uu
 have hs:g2.Sub (nmul g2.gG n):=g2.sub_nmul g2.sub_G n
 refine⟨hs.1,?_,hs.2,?_⟩
 ·have h1:tws e2 wi (nmul g2.gG n)=nmul (tws e2 wi g2.gG) n:=tws_nmul hm_e2 eb g2.b4_ne hB oG n
  rw[h1,hmp_nmul (f:=fro pp) (b':=e1 b1) (hm_fro pp_eq) (fro_e1 pp_eq b1).symm hB hB oT,gG_fro,nmul_neg hB (tws_onP hm_e2 eb oU),<- tws_nmul hm_e2 eb g2.b4_ne hB oU,nmul_mul g2.b4_ne oG,nmul_mul g2.b4_ne oG,Nat.mul_comm]
 ·by_cases hQ:nmul g2.gG n=O2
  ·exact .inl hQ
  ·refine .inr fun k h0 h1 hk=>hQ ?_
   have hv:(zm (k:Int):Fr).v=(k:Int)%(rN:Int):=rfl
   have hk':k<rN:=by
    rw[uu_eq] at h1
    exact Nat.lt_of_le_of_lt h1 (of_decide_eq_true (by kernel_rfl))
   have hx:(zm (k:Int):Fr)≠0:=fun e=>by
    have h2:=congrArg Zm.v e
    rw[hv] at h2
    have h2:(k:Int)%(rN:Int)=0:=h2
    rw[Int.emod_eq_of_lt (by omega) (Int.ofNat_lt.2 hk')] at h2
    omega
   have h3:=g2.mul_of hs hv
   rw[hk] at h3
   have h4:=g2.mul_mul hs (zm (k:Int):Fr) (Fd.inv (zm (k:Int)))
   rw[Fd.mul_inv _ hx,g2.mul_one hs,h3,g2.gmul_eq (.inl rfl),nmul_O] at h4
   exact h4
theorem bls_63:bls 63=[true,false,true,false,false,true,false,false,false,false,false,false,false,false,true,false,false,false,false,false,false,false,false,false,false,false,false,false,false,false,false,false,false,false,false,false,false,false,false,false,false,false,false,false,false,false,true,false,false,false,false,false,false,false,false,false,false,false,false,false,false,false,false]:=of_decide_eq_true (by kernel_rfl)
def gev:F12:=ev lastP (bls 63) g1.gG g2.gG
def mil:V12:=vlp (qx,qy) gxN gyN [true,false,true,false,false,true,false,false,false,false,false,false,false,false,true,false,false,false,false,false,false,false,false,false,false,false,false,false,false,false,false,false,false,false,false,false,false,false,false,false,false,false,false,false,false,false,true,false,false,false,false,false,false,false,false,false,false,false,false,false,false,false,false] vone (qx,qy,((1:Nat),(0:Nat)))
theorem mil_nz:evP2.isz (fo12 mil fun x=>vfin rtv x).2.1=false:=by kernel_rfl
theorem gq_gG:GQ pp uu rN b2 g2.gG:=by
 have h:=gq_nmul 1
 rwa [nmul_one] at h
theorem gev_mil:gev=pwn (q12 mil) NN:=by
 have h:=sg_ev lastP g1.b4_ne g2.b4_ne b2_eq bls_val g1.gG_ne g2.gG_ne gq_gG
 rw[gev,<- h,g1.gG_eq,g2.gG_eq,bls_63]
 refine congrArg (fun x=>pwn x NN) ?_
 exact q_vlp (qx,qy) gxN gyN _ vone (qx,qy,((1:Nat),(0:Nat)))
theorem gev_ne:gev≠1:=by
 intro h
 rw[gev_mil] at h
 have hz:=mil_nz
 rw[fo12_eq] at hz
 obtain⟨X,hX⟩:∃ X,X=mil:=⟨_,rfl⟩
 rw[<- hX] at h hz
 have k:=q_vfin rtv_eq pp_eq vu_eq uu_eq X
 obtain⟨Y,hY⟩:∃ Y,Y=vfin rtv X:=⟨_,rfl⟩
 rw[<- hY] at k hz
 rw[NN_eq,finN,Nat.mul_assoc,Nat.mul_comm,pwn_mul,<- k] at h
 have h1:pwn (q12 Y) (pp^6)=q12 Y:=by
  rw[nn_eq]
  show pwn (q12 Y) nn*q12 Y=_
  rw[h,Rg.one_mul]
 rw[pw_6 pp_eq] at h1
 have h2 : -(q12 Y).2=(q12 Y).2:=congrArg Prod.snd h1
 have h3:(q12 Y).2=0:=eq_neg_self h2.symm
 have h4:q2 Y.2.1=0:=congrArg Prod.fst h3
 have h5:=(evP2.isz_φ Y.2.1).2 h4
 rw[hz] at h5;cases h5
end
end Go.Proofs.YtbeeaekepmnfhaaGreatDoor.pairing
namespace Go.Proofs.YtbeeaekepmnfhaaGreatDoor.h2c
noncomputable section
open Go Go.Eng Go.RowKit Cr fp2 Rg Fd
abbrev csH2e0:=(List.take 8 [(210:Int),(1:Int),(0:Int),(0:Int),(0:Int),(1:Int),(0:Int),(0:Int)])
theorem inv_rt:inv2 tower.rt1=ir:=by
 refine inv2_u ?_
 have h:eqv (vmul irv pairing.rtv) (1,0)=true:=by kernel_rfl
 have h1:=eqv_ok h
 rw[q2_mul,q2_one,pairing.rtv_eq] at h1
 exact h1
theorem fo_root:FnOk Tryz.prog 158 [] [.val f2] noG (fun _=>True) (fun _=>(tower.rt1,())):=tower.fn_root
def soRoot:Nat × Eng.Spec:=(158,fnSpec [] [.val f2] (fun _=>True) (fun _=>(tower.rt1,())))
theorem ent_clr1:enters Tryz.prog 159 Tryz.f159:=ek
theorem fn_clr1:FnOk Tryz.prog 159 [pt2,.ptr f2,.ptr f2] [.val pt2] noG (fun _=>True) (fun (q,s,c,_)=>(((cjg q.1*s,cjg q.2*c):F2 × F2),())):=by
 refine fn_of_vc (sp:=sps [fp2.spConj,fp2.spMul]) (spk (fok fp2.fn_conj) (spk (fok fp2.fn_mul) snl)) mixed ent_clr1 (by decide) (by decide) ?_
 rintro w M0 ⟨q,s,c,⟨⟩⟩
 revert q s c
 intro (q:F2 × F2) (s:F2) (c:F2) _ _
 refine vcx (X:=(True/\(0:Nat)<[s].length/\True/\True/\(0:Nat)<[c].length/\True/\(((q.fst.fst,-q.fst.snd)*s,(q.snd.fst,-q.snd.snd)*c),())=((cjg q.fst*s,cjg q.snd*c),()))) (by kernel_rfl) ?_
 exact⟨trivial,Nat.zero_lt_one,trivial,trivial,Nat.zero_lt_one,trivial,rfl⟩
def spClr1:Nat × Eng.Spec:=(159,fnSpec [pt2,.ptr f2,.ptr f2] [.val pt2] (fun _=>True) (fun (q,s,c,_)=>(((cjg q.1*s,cjg q.2*c):F2 × F2),())))
def clo (p:F2 × F2):F2 × F2:=opq (clr p)
theorem size_ok:Bs csH2e0:=by
 intro x hx;simp at hx;omega
theorem clear_val {p:F2 × F2} (h:g2.Onb p):g2.gsum (List.take 5 [g2.gtms (g2.gtms p (List.take 8 [210,1,0,0,0,1,0,0])) (List.take 8 [210,1,0,0,0,1,0,0]),g2.gtms p (List.take 8 [210,1,0,0,0,1,0,0]),g2.gneg p,g2.gneg (tau (g2.gadd (g2.gtms p (List.take 8 [210,1,0,0,0,1,0,0])) p)),tau (tau (g2.gadd p p))])=clo p:=by
 have hk:Bs [210,1,0,0,0,1,0,0]:=by intro x hx;simp at hx;omega
 have e:List.take 8 [210,1,0,0,0,1,0,0]=([210,1,0,0,0,1,0,0]:List Int):=rfl
 have en:(num [210,1,0,0,0,1,0,0]).toNat=uN:=of_decide_eq_true (by kernel_rfl)
 have oA:OnP tb (nmul p uN):=nmul_on tb_ne h _
 have oB:OnP tb (nmul (nmul p uN) uN):=nmul_on tb_ne oA _
 have oC:=pneg_onP (b:=tb) h
 have oD:OnP tb (pneg (tau (padd (nmul p uN) p))):=pneg_onP (ad_tau.on _ (padd_on tb_ne oA h))
 have oE:OnP tb (tau (tau (padd p p))):=ad_tau.on _ (ad_tau.on _ (padd_on tb_ne h h))
 rw[e,g2.gtms_eq h hk,en,g2.gtms_eq oA hk,en,g2.gneg_eq,g2.gneg_eq,g2.gadd_eq oA h,g2.gadd_eq h h]
 show g2.gsum [_,_,_,_,_]=_
 rw[g2.gsum_eq,clo,opq_eq];· rfl
 intro q hq
 simp only[List.mem_cons,List.not_mem_nil,or_false] at hq
 rcases hq with h|h|h|h|h
 ·rw[h];exact oB
 ·rw[h];exact oA
 ·rw[h];exact oC
 ·rw[h];exact oD
 ·rw[h];exact oE
theorem ent_clear:enters Tryz.prog 109 Tryz.f109:=ek
theorem fn_clear:FnOk Tryz.prog 109 [pt2] [.val pt2] noG (fun (p,_)=>g2.Onb p) (fun (p,_)=>(clo p,())):=by
 refine fn_of_vc (sp:=sps [soRoot,fp2.spInv,fp2.spSquare,fp2.spMul,g2.soTimes,g2.soNeg,g2.soAdd,spClr1,g2.soSum]) (spk (fok fo_root) (spk (fok fp2.fn_inv) (spk (fok fp2.fn_square) (spk (fok fp2.fn_mul) (spk (fok g2.fo_times) (spk (fok g2.fo_neg) (spk (fok g2.fo_add) (spk (fok fn_clr1) (spk (fok g2.fo_sum) snl))))))))) mixed ent_clear (by decide) (by decide) ?_
 rintro w M0 ⟨p,⟨⟩⟩
 revert p
 intro (p:F2 × F2) _ hp
 have hp:g2.Onb p:=hp
 refine vcx (X:=(True/\True/\True/\True/\0+8<=8/\g2.preTimes (p,List.take 8 [(210:Int),(1:Int),(0:Int),(0:Int),(0:Int),(1:Int),(0:Int),(0:Int)],())/\0+8<=8/\g2.preTimes (g2.gtms p csH2e0,List.take 8 [(210:Int),(1:Int),(0:Int),(0:Int),(0:Int),(1:Int),(0:Int),(0:Int)],())/\True/\True/\True/\True/\True/\True/\True/\0+5<=5/\g2.preSum (List.take 5 [g2.gtms (g2.gtms p csH2e0) csH2e0,g2.gtms p csH2e0,g2.gneg p,g2.gneg (cjg (g2.gadd (g2.gtms p csH2e0) p).fst*(inv2 (tower.rootK,-tower.rootK)*inv2 (tower.rootK,-tower.rootK)),cjg (g2.gadd (g2.gtms p csH2e0) p).snd*(inv2 (tower.rootK,-tower.rootK)*inv2 (tower.rootK,-tower.rootK)*inv2 (tower.rootK,-tower.rootK))),(cjg (cjg (g2.gadd p p).fst*(inv2 (tower.rootK,-tower.rootK)*inv2 (tower.rootK,-tower.rootK)))*(inv2 (tower.rootK,-tower.rootK)*inv2 (tower.rootK,-tower.rootK)),cjg (cjg (g2.gadd p p).snd*(inv2 (tower.rootK,-tower.rootK)*inv2 (tower.rootK,-tower.rootK)*inv2 (tower.rootK,-tower.rootK)))*(inv2 (tower.rootK,-tower.rootK)*inv2 (tower.rootK,-tower.rootK)*inv2 (tower.rootK,-tower.rootK)))],())/\(g2.gsum (List.take 5 [g2.gtms (g2.gtms p csH2e0) csH2e0,g2.gtms p csH2e0,g2.gneg p,g2.gneg (cjg (g2.gadd (g2.gtms p csH2e0) p).fst*(inv2 (tower.rootK,-tower.rootK)*inv2 (tower.rootK,-tower.rootK)),cjg (g2.gadd (g2.gtms p csH2e0) p).snd*(inv2 (tower.rootK,-tower.rootK)*inv2 (tower.rootK,-tower.rootK)*inv2 (tower.rootK,-tower.rootK))),(cjg (cjg (g2.gadd p p).fst*(inv2 (tower.rootK,-tower.rootK)*inv2 (tower.rootK,-tower.rootK)))*(inv2 (tower.rootK,-tower.rootK)*inv2 (tower.rootK,-tower.rootK)),cjg (cjg (g2.gadd p p).snd*(inv2 (tower.rootK,-tower.rootK)*inv2 (tower.rootK,-tower.rootK)*inv2 (tower.rootK,-tower.rootK)))*(inv2 (tower.rootK,-tower.rootK)*inv2 (tower.rootK,-tower.rootK)*inv2 (tower.rootK,-tower.rootK)))]),())=(clo p,()))) (by kernel_rfl) ?_
 have e:inv2 (tower.rootK,-tower.rootK)=ir:=inv_rt
 rw[e]
 refine⟨trivial,trivial,trivial,trivial,Nat.le_refl _,⟨size_ok,by decide⟩,Nat.le_refl _,⟨size_ok,by decide⟩,trivial,trivial,trivial,trivial,trivial,trivial,trivial,Nat.le_refl _,by show 5<_;decide,?_⟩
 exact congrArg (fun x=>(x,())) (clear_val hp)
def spClear:Nat × Eng.Spec:=(109,fnSpec [pt2] [.val pt2] (fun (p,_)=>g2.Onb p) (fun (p,_)=>(clo p,())))
theorem clo_eq {p:F2 × F2} (h:OnP tb p):clo p=nmul p hN:=by rw[clo,opq_eq,clr_h h]
theorem clo_sub {p:F2 × F2} (h:OnP tb p):g2.Sub (clo p):=by
 rw[clo_eq h];exact⟨nmul_on tb_ne h _,h_r h⟩
end
end Go.Proofs.YtbeeaekepmnfhaaGreatDoor.h2c
namespace Go.Proofs.YtbeeaekepmnfhaaGreatDoor.h2c
noncomputable section
open Go Go.Eng Go.RowKit Cr fp2 sha xmd
theorem fn_nuF:FnOk Tryz.prog 107 [bsl,bsl,.int .i64] [.val (.sl fp2.f2),.val (.int .i64)] shaG preEx (fun (m,t,n,_)=>((nuA m t n).1,(nuA m t n).2,())):=fn_numbers.frz2
def spNuF:Nat × Eng.Spec:=(107,fnSpecG shaG [bsl,bsl,.int .i64] [.val (.sl fp2.f2),.val (.int .i64)] preEx (fun (m,t,n,_)=>((nuA m t n).1,(nuA m t n).2,())))
def u0 (m t:List Int):F2:=opq (nmb (expo m t 256) 0)
def u1 (m t:List Int):F2:=opq (nmb (expo m t 256) 1)
theorem nuA_2 (m t:List Int):nuA m t 2=([u0 m t,u1 m t],0):=by
 rw[nuA,u0,u1,opq_eq,opq_eq,<- nums_two];rfl
def hpt (m t:List Int):F2 × F2:=opq (clo (padd (mapo (u0 m t)) (mapo (u1 m t))))
theorem hpt_sub (m t:List Int):g2.Sub (hpt m t):=by
 rw[hpt,opq_eq];exact clo_sub (padd_on tb_ne (mapo_on _) (mapo_on _))
def hsK (us:List F2) (k:Nat):F2 × F2:=it (fun i s=>g2.gadd s (mapo (us.getD i ((0:Fp),(0:Fp))))) (((0:Fp),(0:Fp)),(0:Fp),(0:Fp)) k
def hsI (us:List F2) (g:Int × (F2 × F2)):St:=mkSt Tryz.f64.ntmps 104 [(4,.is (.one (.ptr 0 0))),(7,.is (.one (.ptr 72 0))),(16,.is (.one (.ro fp2.f2 us))),(17,sI .i64 us.length),(18,sI .i64 g.1)] [(72,cellsOf pt2 g.2),(0,cellsOf pt2 ((((0:Fp),(0:Fp)),(0:Fp),(0:Fp)):F2 × F2))]
theorem hsK_2 (a b:F2):hsK [a,b] 2=padd (mapo a) (mapo b):=by
 show g2.gadd (g2.gadd O2 (mapo a)) (mapo b)=_
 have oO:OnP tb (O2:F2 × F2):=.inl rfl
 rw[g2.gadd_eq oO (mapo_on a),O_add,g2.gadd_eq (mapo_on a) (mapo_on b)]
theorem ent_hash:enters Tryz.prog 64 Tryz.f64:=ek
abbrev preHs:HL [bsl,bsl]->Prop:=fun (m,t,_)=>List.length m<=1048576/\List.length t<=1048576
theorem fn_hash:FnOk Tryz.prog 64 [bsl,bsl] [.val pt2] shaG preHs (fun (m,t,_)=>(hpt m t,())):=by
 have hsp:SpecsOk Tryz.prog (sps [spNuF,spMap,g2.soAdd,spClear]):=spk (fgk fn_nuF) (spk (fok fn_map) (spk (fok g2.fo_add) (spk (fok fn_clear) snl)))
 refine fn_of_tr (sp:=sps [spNuF,spMap,g2.soAdd,spClear]) ent_hash (by decide) (by decide) (by kernel_rfl) ?_
 rintro w M0 ⟨m,t,⟨⟩⟩
 revert m t
 intro (m:List Int) (t:List Int) hw hp
 have hm:m.length<=1048576:=hp.1
 have ht:t.length<=1048576:=hp.2
 show Tr _ _ _ _ _ _ _
 refine tr_cutF hsp mixed 4 (fun σ=>rdO fp2.f2 5 σ) (fun us=>hsI us (0,(((0:Fp),(0:Fp)),(0:Fp),(0:Fp)))) (fun us=>us=[u0 m t,u1 m t]) ?_ ?_
 ·refine vcx (X:=((∀ (g:Nat) (s:Sigma Car),shaG g=some s->Decidable.rec (fun h=>(fun x=>if g=(1:Nat) then some ⟨Kd.arr (64:Nat) uK,rootsL⟩ else none) h) (fun h=>(fun x=>some ⟨Kd.arr (8:Nat) uK,firstL⟩) h) (instDecidableEqNat g (0:Nat))=some s)/\preEx (m,t,(2:Int),())/\(hsI ((nuA m t (2:Int)).fst,(nuA m t (2:Int)).snd,()).fst ((0:Int),((0:Fp),(0:Fp)),(0:Fp),(0:Fp))).triv ((nuA m t (2:Int)).fst=[u0 m t,u1 m t]))) (by kernel_rfl) ?_
  rw[nuA_2]
  exact⟨fun _ _ h=>h,⟨hm,ht⟩,tvi rfl⟩
 rintro us hus
 revert us
 intro (us:List F2) (hus:us=[u0 m t,u1 m t])
 have hl:us.length=2:=by rw[hus];rfl
 refine tr_while hsp mixed noSw (fun σ=>(rdS (.int .i64) 18 σ,rdB pt2 72 σ)) (hsI us) (fun g=>∃ k:Nat,k<=2/\g.1=(k:Int)/\g.2=hsK us k) (fun g=>2-g.1.toNat)
  (fun σ=>(rdS (.int .i64) 18 σ,rdB pt2 72 σ)) (hsI us) (fun g=>g.2=padd (mapo (u0 m t)) (mapo (u1 m t))) (0,(((0:Fp),(0:Fp)),(0:Fp),(0:Fp))) (c:=nthC (codeOf Tryz.f64) 4) (by kernel_rfl) (by kernel_rfl) (le_of_proj (by kernel_rfl) (by kernel_rfl) ?_) ?_ ?_
 ·exact⟨0,Nat.zero_le _,rfl,rfl⟩
 ·rintro⟨i,s⟩ hj
  revert i s
  intro (i:Int) (s:F2 × F2) ⟨k,hk,ei,es⟩
  have ei:i=(k:Int):=ei
  have ks:s=hsK us k:=es
  subst ei
  refine vcx (X:=((decide ((↑k:Int)<(↑us.length:Int))=true->((0:Int)<=(↑k:Int)/\(↑k:Int)<(↑us.length:Int))/\(↑k:Int).toNat<us.length/\True/\True/\(hsI us (IntKind.i64.wrap ((↑k:Int)+(1:Int)),g2.gadd s (mapo (us.getD (↑k:Int).toNat ((0:Fp),(0:Fp)))))).triv ((∃ k_1,k_1<=(2:Nat)/\IntKind.i64.wrap ((↑k:Int)+(1:Int))=(↑k_1:Int)/\g2.gadd s (mapo (us.getD (↑k:Int).toNat ((0:Fp),(0:Fp))))=hsK us k_1)/\(2:Nat)-(IntKind.i64.wrap ((↑k:Int)+(1:Int))).toNat<(2:Nat)-(↑k:Int).toNat))/\(decide ((↑k:Int)<(↑us.length:Int))=false->(hsI us ((↑k:Int),s)).triv (s=padd (mapo (u0 m t)) (mapo (u1 m t)))))) (by kernel_rfl) ?_
  rw[hl]
  refine⟨fun h=>?_,fun h=>tvi ?_⟩
  ·have hlt:k<2:=by have:=of_decide_eq_true h;omega
   rw[wrap_succ (by omega)]
   refine⟨⟨by omega,by omega⟩,hlt,trivial,trivial,tvi ⟨⟨k+1,hlt,rfl,?_⟩,?_⟩⟩
   ·rw[ks,Int.toNat_natCast];rfl
   ·rw[Int.toNat_natCast,Int.toNat_natCast];omega
  ·have h2:k=2:=by have:=of_decide_eq_false h;omega
   rw[ks,h2,hus,hsK_2]
 rintro⟨i,s⟩ hj
 revert i s
 intro (i:Int) (s:F2 × F2) (hj:s=padd (mapo (u0 m t)) (mapo (u1 m t)))
 refine tr_vc hsp mixed _ _ ?_
 refine vcx (X:=(g2.Onb s/\(clo s,())=(hpt m t,()))) (by kernel_rfl) ?_
 rw[hj]
 refine⟨padd_on tb_ne (mapo_on _) (mapo_on _),?_⟩
 rw[hpt,opq_eq]
def spHash:Nat × Eng.Spec:=(64,fnSpecG shaG [bsl,bsl] [.val pt2] preHs (fun (m,t,_)=>(hpt m t,())))
end
end Go.Proofs.YtbeeaekepmnfhaaGreatDoor.h2c
namespace Go.Proofs.YtbeeaekepmnfhaaGreatDoor.pairing
noncomputable section
open Go Go.Eng Go.RowKit Cr fp2 tower
theorem gev_r:pwn gev rN=1:=ev_r lastP g1.b4_ne g2.b4_ne b2_ns b2_eq bls_val g1.gG_on gq_gG
theorem gev_mod (m:Nat):pwn gev m=pwn gev (m%rN):=by
 conv=>lhs;rw[<- Nat.div_add_mod m rN]
 rw[pwn_add,pwn_mul,gev_r,pwn_one,Rg.one_mul]
theorem ev_gn (b:Nat):ev lastP (bls 63) g1.gG (nmul g2.gG b)=pwn gev b:=by
 induction b with
 | zero=>exact ev_OQ lastP _
 | succ b ih =>
  show ev lastP (bls 63) g1.gG (padd (nmul g2.gG b) g2.gG)=pwn gev b*gev
  rw[ev_addQ lastP g1.b4_ne g2.b4_ne b2_ns b2_eq bls_val g1.gG_on (gq_nmul b) gq_gG,ih];rfl
theorem ev_mn (a b:Nat):ev lastP (bls 63) (nmul g1.gG a) (nmul g2.gG b)=pwn gev (a*b):=by
 rw[ev_mulP lastP g1.b4_ne g2.b4_ne b2_ns b2_eq bls_val g1.gG_on (gq_nmul b) uu_pos,ev_gn,<- pwn_mul,Nat.mul_comm]
def pe (x:Fr):F12:=opq (cjo (pwn gev x.v.toNat))
theorem pe_eq (x:Fr):pe x=pwn (pwn gev x.v.toNat) (pp^6):=by rw[pe,opq_eq,cjo_eq pp_eq]
theorem pe_of {x:Fr} {m:Nat} (hx:x.v=(m:Int)%(rN:Int)):pe x=pwn (pwn gev m) (pp^6):=by
 rw[pe_eq,gev_mod m,hx,<- Int.natCast_emod,Int.toNat_natCast]
theorem pe_zero:pe 0=1:=by
 rw[pe_eq,zero_v]
 show pwn (1:F12) _=1
 exact pwn_one _
theorem pe_add (x y:Fr):pe (x+y)=pe x*pe y:=by
 obtain⟨m,hm,_⟩:=g1.frv x
 obtain⟨n,hn,_⟩:=g1.frv y
 rw[pe_of (x:=x+y) (m:=m+n) (by rw[add_v,hm,hn,Int.natCast_add];rfl),pe_eq,pe_eq,hm,hn,Int.toNat_natCast,Int.toNat_natCast,pwn_add,pwn_prod]
theorem pe_mul (x y:Fr):pe (x*y)=pwn (pe x) y.v.toNat:=by
 obtain⟨m,hm,_⟩:=g1.frv x
 obtain⟨n,hn,_⟩:=g1.frv y
 rw[pe_of (x:=x*y) (m:=m*n) (by rw[mul_v,hm,hn,Int.natCast_mul];rfl),pe_eq,hm,hn,Int.toNat_natCast,Int.toNat_natCast,pwn_mul,<- pwn_mul (pwn gev m),<- pwn_mul (pwn gev m),Nat.mul_comm]
theorem pe_iff (x:Fr):pe x=1↔x=0:=by
 constructor
 ·intro h
  by_cases hx:x=0
  ·exact hx
  ·exfalso
   have h1:=pe_mul x (Fd.inv x)
   rw[Fd.mul_inv _ hx,h,pwn_one,pe_of (x:=1) (m:=1) (by rw[one_v];rfl),pw_1,pw_6 pp_eq] at h1
   have h2:=congrArg Prod.fst h1
   have h2:gev.1=(1:F12).1:=h2
   have h3 : -gev.2=(1:F12).2:=congrArg Prod.snd h1
   have h4:gev.2=(1:F12).2:=by
    rw[<- Rg.neg_neg gev.2,h3]
    exact neg_z (F:=F6)
   exact gev_ne (F12.ext h2 h4)
 ·rintro rfl;exact pe_zero
def dotk (xs ys:List Fr) (k:Nat):Fr:=it (fun i s=>s+xs.getD i 0*ys.getD i 0) 0 k
def mp1 (xs:List Fr):List (Fp × Fp):=xs.map fun x=>g1.gmul g1.gG x
def mp2 (ys:List Fr):List (F2 × F2):=ys.map fun y=>g2.gmul g2.gG y
theorem mp1_at {xs:List Fr} {i:Nat} (h:i<xs.length):(mp1 xs).getD i ((0:Fp),(0:Fp))=nmul g1.gG (xs.getD i 0).v.toNat:=by
 rw[<- g1.gmul_eq g1.gG_on]
 simp[mp1,List.getD_eq_getElem?_getD,h]
theorem mp2_at {ys:List Fr} {i:Nat} (h:i<ys.length):(mp2 ys).getD i (((0:Fp),(0:Fp)),(0:Fp),(0:Fp))=nmul g2.gG (ys.getD i 0).v.toNat:=by
 rw[<- g2.gmul_eq g2.gG_on]
 simp[mp2,List.getD_eq_getElem?_getD,h]
theorem evl_val (xs ys:List Fr):∀ k,k<=xs.length->k<=ys.length->pwn (evl lastP (bls 63) (mp1 xs) (mp2 ys) k) (pp^6)=pe (dotk xs ys k)
 | 0,_,_=>(pwn_one _).trans pe_zero.symm
 | k+1,h1,h2=>by
  show pwn (evl lastP (bls 63) (mp1 xs) (mp2 ys) k*ev lastP (bls 63) ((mp1 xs).getD k ((0:Fp),(0:Fp))) ((mp2 ys).getD k (((0:Fp),(0:Fp)),(0:Fp),(0:Fp)))) (pp^6)=pe (dotk xs ys k+xs.getD k 0*ys.getD k 0)
  rw[pwn_prod,evl_val xs ys k (by omega) (by omega),mp1_at (by omega),mp2_at (by omega),ev_mn,pe_add]
  congr 1
  obtain⟨m,hm,_⟩:=g1.frv (xs.getD k 0)
  obtain⟨n,hn,_⟩:=g1.frv (ys.getD k 0)
  rw[pe_of (x:=xs.getD k 0*ys.getD k 0) (m:=m*n) (by rw[mul_v,hm,hn,Int.natCast_mul];rfl),hm,hn,Int.toNat_natCast,Int.toNat_natCast]
theorem pairs_val {xs ys:List Fr} (h:xs.length=ys.length):fino (lino (mp1 xs) (mp2 ys))=pe (dotk xs ys xs.length):=by
 have hl:(mp1 xs).length=xs.length:=List.length_map _
 rw[fino_lino lastP g1.b4_ne g2.b4_ne b2_ns b2_eq bls_val rN_pos nn_eq NN_eq vu_eq uu_eq (ps:=mp1 xs) (qs:=mp2 ys),hl,cjo_eq pp_eq,evl_val xs ys _ (Nat.le_refl _) (Nat.le_of_eq h)]
 ·intro i hi
  rw[hl] at hi
  rw[mp1_at hi];exact nmul_on g1.b4_ne g1.gG_on _
 ·intro i hi
  rw[hl] at hi
  rw[mp2_at (by omega)];exact gq_nmul _
end
end Go.Proofs.YtbeeaekepmnfhaaGreatDoor.pairing
namespace Go.Proofs.YtbeeaekepmnfhaaGreatDoor.pairing
open Go Go.Eng Go.RowKit Cr fp2 tower
theorem eq12' (x y:F12):eqC f12k x y=decide (x=y):=by
 by_cases h:x=y
 ·rw[(eqC_iff (e:=f12k) x y).2 h,decide_eq_true h]
 ·rw[decide_eq_false h];exact Bool.eq_false_iff.2 fun e=>h ((eqC_iff (e:=f12k) x y).1 e)
theorem pe_1' (x:Fr):eqC f12k (pe x) (1:F12)=decide (x=0):=by
 rw[eq12']
 by_cases h:x=0
 ·rw[decide_eq_true h,decide_eq_true ((pe_iff x).2 h)]
 ·rw[decide_eq_false h,decide_eq_false fun e=>h ((pe_iff x).1 e)]
theorem chk_val2 {xs ys:List Fr} (h:xs.length=ys.length):chkF (mp1 xs) (mp2 ys)=decide (dotk xs ys xs.length=0):=by
 have h1:(mp1 xs).length=(mp2 ys).length:=by rw[mp1,mp2,List.length_map,List.length_map,h]
 rw[chkF,decide_eq_true h1]
 show eqC f12k (fino (lino (mp1 xs) (mp2 ys))) (1:F12)=_
 rw[pairs_val h,pe_1']
end Go.Proofs.YtbeeaekepmnfhaaGreatDoor.pairing
namespace Go.Proofs.YtbeeaekepmnfhaaGreatDoor.g1
open Go Go.Eng Go.RowKit Cr
end Go.Proofs.YtbeeaekepmnfhaaGreatDoor.g1
namespace Go.Proofs.YtbeeaekepmnfhaaGreatDoor.g2
noncomputable section
open Go Go.Eng Go.RowKit Cr fp2
theorem ent_in:enters Tryz.prog 31 Tryz.f31:=ek
def isIn (p:F2 × F2):Bool:=isOn p&&decide (pml p (-1)=pneg (F:=F2) p)
abbrev outIn:HL [pt2]->HO [.val .bool]:=fun (p,_)=>(isIn p,())
theorem fn_in:FnOk Tryz.prog 31 [pt2] [.val .bool] noG (fun _=>True) outIn:=by
 refine fn_of_vc (sp:=sps [spOn,fr.spOf,fr.spNeg,spPMul,spPNeg]) (spk (fok fn_on) (spk (fok fr.fn_of) (spk (fok fr.fn_neg) (spk (fok fn_pmul) (spk (fok fn_pneg) snl))))) mixed ent_in (by decide) (by decide) ?_
 rintro w M0 ⟨p,⟨⟩⟩
 revert p
 intro (p:F2 × F2) _ _
 refine vcx (X:=(True/\(isOn p=true->U64 (1:Int)/\True/\True/\True/\(eqC ((Kd.fp.pair Kd.fp).pair (Kd.fp.pair Kd.fp)) (pml p (-zmr (1:Int))) (p.fst,-p.snd),())=outIn (p,()))/\(isOn p=false->(false,())=outIn (p,())))) (by kernel_rfl) ?_
 rw[eqP2]
 refine⟨trivial,fun h=>⟨by constructor<;>decide,trivial,trivial,trivial,?_⟩,fun h=>?_⟩
 ·show _=(isIn p,())
  rw[isIn,h,Bool.true_and]
  rfl
 ·show _=(isIn p,())
  rw[isIn,h,Bool.false_and]
def gin (p:F2 × F2):Bool:=opq (isIn p)
theorem fo_in:FnOk Tryz.prog 31 [pt2] [.val .bool] noG (fun _=>True) (fun (p,_)=>(gin p,())):=fn_in.out fun (p,_)=>by show (gin p,())=(_,());rw[gin,opq_eq]
def soIn:Nat × Eng.Spec:=(31,fnSpec [pt2] [.val .bool] (fun _=>True) (fun (p,_)=>(gin p,())))
end
end Go.Proofs.YtbeeaekepmnfhaaGreatDoor.g2
namespace Go.Proofs.YtbeeaekepmnfhaaGreatDoor.bls
noncomputable section
open Go Go.Eng Go.RowKit Cr fp2 sha
abbrev pt1:Kd:=.pair .fp .fp
abbrev pt2:Kd:=.pair fp2.f2 fp2.f2
abbrev bsl:Kd:=.sl (.int .u8)
def btag:List Int:=[66,76,83,95,83,73,71,95,66,76,83,49,50,51,56,49,71,50,95,88,77,68,58,83,72,65,45,50,53,54,95,83,83,87,85,95,82,79,95,78,85,76,95]
def bpt (msg:List Int):F2 × F2:=opq (h2c.hpt msg btag)
theorem bpt_sub (msg:List Int):g2.Sub (bpt msg):=by rw[bpt,opq_eq];exact h2c.hpt_sub _ _
def hlg (msg:List Int):Fr:=Classical.choose (g2.cyc_r (bpt_sub msg))
theorem bpt_eq (msg:List Int):bpt msg=g2.gmul g2.gG (hlg msg):=Classical.choose_spec (g2.cyc_r (bpt_sub msg))
theorem sig_eq (msg:List Int) (k:Fr):g2.gmul (bpt msg) k=g2.gmul g2.gG (hlg msg*k):=by rw[bpt_eq,g2.mul_mul g2.sub_G]
theorem ent_point:enters Tryz.prog 29 Tryz.f29:=ek
abbrev prePt:HL [bsl]->Prop:=fun (m,_)=>List.length m<=1048576
theorem fn_point:FnOk Tryz.prog 29 [bsl] [.val pt2] shaG prePt (fun (m,_)=>(bpt m,())):=by
 refine fn_of_vc (sp:=sps [h2c.spHash]) (spk (fgk h2c.fn_hash) snl) mixed ent_point (by decide) (by decide) ?_
 rintro w M0 ⟨m,⟨⟩⟩
 revert m
 intro (m:List Int) _ hm
 refine vcx (X:=((∀ (g:Nat) (s:Sigma Car),shaG g=some s->Decidable.rec (fun h=>(fun x=>if g=(1:Nat) then some ⟨Kd.arr (64:Nat) uK,rootsL⟩ else none) h) (fun h=>(fun x=>some ⟨Kd.arr (8:Nat) uK,firstL⟩) h) (instDecidableEqNat g (0:Nat))=some s)/\(0:Nat)+(nat_lit 42+(1:Nat))<=(43:Nat)/\h2c.preHs (m,List.take (nat_lit 42+(1:Nat)) [(66:Int),(76:Int),(83:Int),(95:Int),(83:Int),(73:Int),(71:Int),(95:Int),(66:Int),(76:Int),(83:Int),(49:Int),(50:Int),(51:Int),(56:Int),(49:Int),(71:Int),(50:Int),(95:Int),(88:Int),(77:Int),(68:Int),(58:Int),(83:Int),(72:Int),(65:Int),(45:Int),(50:Int),(53:Int),(54:Int),(95:Int),(83:Int),(83:Int),(87:Int),(85:Int),(95:Int),(82:Int),(79:Int),(95:Int),(78:Int),(85:Int),(76:Int),(95:Int)],())/\(h2c.hpt m (List.take (nat_lit 42+(1:Nat)) [(66:Int),(76:Int),(83:Int),(95:Int),(83:Int),(73:Int),(71:Int),(95:Int),(66:Int),(76:Int),(83:Int),(49:Int),(50:Int),(51:Int),(56:Int),(49:Int),(71:Int),(50:Int),(95:Int),(88:Int),(77:Int),(68:Int),(58:Int),(83:Int),(72:Int),(65:Int),(45:Int),(50:Int),(53:Int),(54:Int),(95:Int),(83:Int),(83:Int),(87:Int),(85:Int),(95:Int),(82:Int),(79:Int),(95:Int),(78:Int),(85:Int),(76:Int),(95:Int)]),())=(bpt m,()))) (by kernel_rfl) ?_
 refine⟨fun _ _ h=>h,by decide,⟨hm,by decide⟩,?_⟩
 rw[bpt,opq_eq];rfl
def spPoint:Nat × Eng.Spec:=(29,fnSpecG shaG [bsl] [.val pt2] prePt (fun (m,_)=>(bpt m,())))
theorem ent_sign:enters Tryz.prog 19 Tryz.f19:=ek
theorem fn_sign:FnOk Tryz.prog 19 [.fr,bsl] [.val pt2] shaG (fun (_,m,_)=>prePt (m,())) (fun (k,m,_)=>(g2.gmul (bpt m) k,())):=by
 refine fn_of_vc (sp:=sps [spPoint,g2.soMul]) (spk (fgk fn_point) (spk (fok g2.fo_mul) snl)) mixed ent_sign (by decide) (by decide) ?_
 rintro w M0 ⟨k,m,⟨⟩⟩
 revert k m
 intro (k:Fr) (m:List Int) _ hm
 refine vcx (X:=((∀ (g:Nat) (s:Sigma Car),shaG g=some s->Decidable.rec (fun h=>(fun x=>if g=(1:Nat) then some ⟨Kd.arr (64:Nat) uK,rootsL⟩ else none) h) (fun h=>(fun x=>some ⟨Kd.arr (8:Nat) uK,firstL⟩) h) (instDecidableEqNat g (0:Nat))=some s)/\prePt (m,())/\True/\(g2.gmul (bpt m) k,())=(g2.gmul (bpt m) k,()))) (by kernel_rfl) ?_
 exact⟨fun _ _ h=>h,hm,trivial,rfl⟩
def spSign:Nat × Eng.Spec:=(19,fnSpecG shaG [.fr,bsl] [.val pt2] (fun (_,m,_)=>prePt (m,())) (fun (k,m,_)=>(g2.gmul (bpt m) k,())))
def fto (k:Fp × Fp) (p s:F2 × F2):Bool:=opq (pairing.chkF [k,g1.gneg g1.gG] [p,s])
theorem ent_fits:enters Tryz.prog 56 Tryz.f56:=ek
theorem fn_fits:FnOk Tryz.prog 56 [pt1,pt2,pt2] [.val .bool] noG (fun _=>True) (fun (k,p,s,_)=>(fto k p s,())):=by
 refine fn_of_vc (sp:=sps [g1.soGen,g1.soNeg,pairing.spCheck]) (spk (fok g1.fo_gen) (spk (fok g1.fo_neg) (spk (fok pairing.fn_check) snl))) mixed ent_fits (by decide) (by decide) ?_
 rintro w M0 ⟨k,p,s,⟨⟩⟩
 revert k p s
 intro (k:Fp × Fp) (p:F2 × F2) (s:F2 × F2) _ _
 refine vcx (X:=(True/\True/\0+2<=2/\0+2<=2/\pairing.preChk (List.take 2 [k,g1.gneg g1.gG],List.take 2 [p,s],())/\(pairing.chkF (List.take 2 [k,g1.gneg g1.gG]) (List.take 2 [p,s]),())=(fto k p s,()))) (by kernel_rfl) ?_
 refine⟨trivial,trivial,Nat.le_refl _,Nat.le_refl _,?_,?_⟩
 ·show pairing.cnt _<=_
  rw[pairing.cnt,opq_eq];exact (by decide:2<=1048576)
 ·rw[fto,opq_eq];rfl
def spFits:Nat × Eng.Spec:=(56,fnSpec [pt1,pt2,pt2] [.val .bool] (fun _=>True) (fun (k,p,s,_)=>(fto k p s,())))
theorem fto_val (x c y:Fr):fto (g1.gmul g1.gG x) (g2.gmul g2.gG c) (g2.gmul g2.gG y)=decide (x*c=y):=by
 have m1:pairing.mp1 [x,-1]=[g1.gmul g1.gG x,g1.gneg g1.gG]:=by
  show [_,g1.gmul g1.gG (-1)]=_
  rw[g1.mul_neg g1.sub_G,g1.mul_one g1.sub_G,g1.gneg_eq]
 have m2:pairing.mp2 [c,y]=[g2.gmul g2.gG c,g2.gmul g2.gG y]:=rfl
 rw[fto,opq_eq,<- m1,<- m2,pairing.chk_val2 (xs:=[x,-1]) (ys:=[c,y]) rfl]
 have e:pairing.dotk [x,-1] [c,y] [x,-1].length=x*c-y:=by
  show (0+x*c + -1*y:Fr)=_
  rw[Rg.zero_add,Rg.neg_mul,Rg.one_mul,Rg.sub_def]
 rw[e]
 by_cases h:x*c=y
 ·rw[decide_eq_true h,h,Rg.sub_self,decide_eq_true rfl]
 ·rw[decide_eq_false h,decide_eq_false fun e=>h (Rg.eq_of_sub e)]
end
end Go.Proofs.YtbeeaekepmnfhaaGreatDoor.bls
namespace Go.Proofs.YtbeeaekepmnfhaaGreatDoor.fr
open Go Go.Eng Go.RowKit Cr
theorem ent_zero:enters Tryz.prog 21 Tryz.f21:=ek
abbrev outZero:HL [.fr]->HO [.val .bool]:=fun (x,_)=>(decide ((x:Fr)=0),())
theorem fn_zero:FnOk Tryz.prog 21 [.fr] [.val .bool] noG (fun _=>True) outZero:=by
 refine fn_of_vc (sp:=sps []) snl mixed ent_zero (by decide) (by decide) ?_
 rintro w M0 ⟨x,⟨⟩⟩
 revert x
 intro (x:Fr) _ _
 refine vcx (X:=((eqC Kd.fr x (0:Fr),())=outZero (x,()))) (by kernel_rfl) ?_
 rfl
noncomputable def spZero:Nat × Eng.Spec:=(21,fnSpec [.fr] [.val .bool] (fun _=>True) outZero)
end Go.Proofs.YtbeeaekepmnfhaaGreatDoor.fr
namespace Go.Proofs.YtbeeaekepmnfhaaGreatDoor.law15
noncomputable section
open Go Go.Eng Go.RowKit Cr poly part sha bls
theorem ent_sign:enters Tryz.prog 15 Tryz.f15:=ek
theorem fn_sign:FnOk Tryz.prog 15 [iK,.fr,.sl (.int .u8)] [.val partK] shaG (fun (_,_,m,_)=>prePt (m,())) (fun (x,k,m,_)=>((x,g2.gmul (bpt m) k),())):=by
 refine fn_of_vc (sp:=sps [bls.spSign]) (spk (fgk bls.fn_sign) snl) mixed ent_sign (by decide) (by decide) ?_
 rintro w M0 ⟨x,k,m,⟨⟩⟩
 revert x k m
 intro (x:Int) (k:Fr) (m:List Int) _ hm
 refine vcx (X:=((∀ (g:Nat) (s:Sigma Car),shaG g=some s->Decidable.rec (fun h=>(fun x=>if g=(1:Nat) then some ⟨Kd.arr (64:Nat) uK,rootsL⟩ else none) h) (fun h=>(fun x=>some ⟨Kd.arr (8:Nat) uK,firstL⟩) h) (instDecidableEqNat g (0:Nat))=some s)/\prePt (m,())/\((x,g2.gmul (bpt m) k),())=((x,g2.gmul (bpt m) k),()))) (by kernel_rfl) ?_
 exact⟨fun _ _ h=>h,hm,rfl⟩
def spSign:Nat × Eng.Spec:=(15,fnSpecG shaG [iK,.fr,.sl (.int .u8)] [.val partK] (fun (_,_,m,_)=>prePt (m,())) (fun (x,k,m,_)=>((x,g2.gmul (bpt m) k),())))
def chkV (c:List (Fp × Fp)) (h:F2 × F2) (a:PT):Int:=if memI a.1=false then 34 else if g2.gon a.2=false then 14 else if g2.gin a.2=false then 14 else if fto (catF a.1 c) h a.2=false then 30 else 0
theorem ent_check:enters Tryz.prog 28 Tryz.f28:=ek
abbrev preCheck:HL [.sl part.pt1,part.pt2,partK]->Prop:=fun (c,_,a,_)=>List.length c<1048576
theorem fn_check:FnOk Tryz.prog 28 [.sl part.pt1,part.pt2,partK] [.val iK] noG preCheck (fun (c,h,a,_)=>(chkV c h a,())):=by
 refine fn_of_vc (sp:=sps [spMember,g2.soOn,g2.soIn,spCat,spFits]) (spk (fok fn_member) (spk (fok g2.fo_on) (spk (fok g2.fo_in) (spk (fok fn_cat) (spk (fok bls.fn_fits) snl))))) mixed ent_check (by decide) (by decide) ?_
 rintro w M0 ⟨c,h,a,⟨⟩⟩
 revert c h a
 intro (c:List (Fp × Fp)) (h:F2 × F2) (a:PT) _ hc
 have hc:c.length<1048576:=hc
 refine vcx (X:=(True/\((!memI a.fst)=true->((34:Int),())=(chkV c h a,()))/\((!memI a.fst)=false->True/\((!g2.gon a.snd)=true->((14:Int),())=(chkV c h a,()))/\((!g2.gon a.snd)=false->True/\((!g2.gin a.snd)=true->((14:Int),())=(chkV c h a,()))/\((!g2.gin a.snd)=false->preCat (c,a.fst,())/\True/\((!fto (catF a.fst c) h a.snd)=true->((30:Int),())=(chkV c h a,()))/\((!fto (catF a.fst c) h a.snd)=false->((0:Int),())=(chkV c h a,()))))))) (by kernel_rfl) ?_
 have bf:∀ {b:Bool},(!b)=true->b=false:=fun h=>by simpa using h
 have nb:∀ {b:Bool},(!b)=false->¬ b=false:=fun h=>by simpa using h
 refine⟨trivial,fun h1=>?_,fun h1=>⟨trivial,fun h2=>?_,fun h2=>⟨trivial,fun h3=>?_,fun h3=>⟨⟨by show c.length<_;omega,?_⟩,trivial,fun h4=>?_,fun h4=>?_⟩⟩⟩⟩
 ·rw[chkV,if_pos (bf h1)]
 ·rw[chkV,if_neg (nb h1),if_pos (bf h2)]
 ·rw[chkV,if_neg (nb h1),if_neg (nb h2),if_pos (bf h3)]
 ·have:=nb h1
  simp[memI] at this
  exact⟨by omega,by omega⟩
 ·rw[chkV,if_neg (nb h1),if_neg (nb h2),if_neg (nb h3),if_pos (bf h4)]
 ·rw[chkV,if_neg (nb h1),if_neg (nb h2),if_neg (nb h3),if_neg (nb h4)]
def chko (c:List (Fp × Fp)) (h:F2 × F2) (a:PT):Int:=opq (chkV c h a)
theorem fo_check:FnOk Tryz.prog 28 [.sl part.pt1,part.pt2,partK] [.val iK] noG preCheck (fun (c,h,a,_)=>(chko c h a,())):=fn_check.out fun (c,h,a,_)=>by show (chko _ _ _,())=_;rw[chko,opq_eq]
def soCheck:Nat × Eng.Spec:=(28,fnSpec [.sl part.pt1,part.pt2,partK] [.val iK] preCheck (fun (c,h,a,_)=>(chko c h a,())))
end
end Go.Proofs.YtbeeaekepmnfhaaGreatDoor.law15
namespace Go.Proofs.YtbeeaekepmnfhaaGreatDoor.law15
noncomputable section
open Go Go.Eng Go.RowKit Cr poly
theorem ent_made:enters Tryz.prog 14 Tryz.f14:=ek
def scw (b:List Int):Fr:=opq (zm (num b))
def fitB (bs:List (List Int)):Bool:=decide (1<=bs.length/\bs.length<=5)&&bs.all fun b=>decide (b.length<=100)
def madF (bs:List (List Int)):List Fr:=if fitB bs=true then bs.map scw else []
abbrev preMade:HL [.sl bsl]->Prop:=fun (bs,_)=>preBB bs
abbrev outMade:HL [.sl bsl]->HO [.own .fr,.val .bool]:=fun (bs,_)=>(madF bs,fitB bs,())
def mdI (bs:List (List Int)) (g:Int × Nat × List Fr):St:=mkSt Tryz.f14.ntmps 120 [(4,.is (.one (.sl 80 0 0 g.2.1 4))),(16,.is (.one (.ro bsl bs))),(17,sI .i64 bs.length),(18,sI .i64 g.1)] [(80,[.row .fr g.2.1 g.2.2])]
def mdJ (bs:List (List Int)) (g:Int × Nat × List Fr):Prop:=g.2.1<=bs.length/\g.1=(g.2.1:Int)/\g.2.2=(bs.take g.2.1).map scw/\∀ b∈bs.take g.2.1,List.length b<=100
def mdO (bs:List (List Int)) (g:Int × Nat × List Fr):Prop:=g.2.2=bs.map scw/\g.2.1=bs.length/\∀ b∈bs,List.length b<=100
theorem fn_made:FnOk Tryz.prog 14 [.sl bsl] [.own .fr,.val .bool] noG preMade outMade:=by
 have hsp:SpecsOk Tryz.prog (sps [ref01.spCopy,fr.spWide]):=(spk (fok ref01.fn_copy) (spk (fok fr.fn_wide) snl))
 refine fn_of_tr (sp:=sps [ref01.spCopy,fr.spWide]) ent_made (by decide) (by decide) (by kernel_rfl) ?_
 rintro w M0 ⟨bs,⟨⟩⟩
 revert bs
 intro (bs:List (List Int)) _ hb
 have hb:preBB bs:=hb
 show Tr _ _ _ _ _ _ _
 refine tr_cut hsp mixed 5 (mdI bs (0,0,[])) ((1<=bs.length/\bs.length<=5)) ?_ (fun h9=>?_)
 ·refine vcx (X:=((decide ((↑bs.length:Int)<(1:Int))=true->([],false,())=outMade (bs,()))/\(decide ((↑bs.length:Int)<(1:Int))=false->(decide ((↑bs.length:Int)>(5:Int))=true->([],false,())=outMade (bs,()))/\(decide ((↑bs.length:Int)>(5:Int))=false->(mdI bs ((0:Int),(0:Nat),[])).triv ((1:Nat)<=bs.length/\bs.length<=(5:Nat)))))) (by kernel_rfl) ?_
  have bad:¬ (1<=bs.length/\bs.length<=5)->(([]:List Fr),false,PUnit.unit)=(madF bs,fitB bs,()):=fun h=>by
   have hf:fitB bs=false:=by simp[fitB,h]
   rw[madF,hf];rfl
  refine⟨fun h=>bad (by have:=of_decide_eq_true h;omega),fun h1=>⟨fun h=>bad (by have:=of_decide_eq_true h;omega),fun h=>tvi ⟨?_,?_⟩⟩⟩
  ·have:=of_decide_eq_false h1;omega
  ·have:=of_decide_eq_false h;omega
 refine tr_while hsp mixed (fun σ=>[(80,rdI 4 σ)]) (fun σ=>(rdS (.int .i64) 18 σ,rdL 4 σ,rdR .fr 80 σ)) (mdI bs) (mdJ bs) (fun g=>bs.length-g.2.1)
  (fun σ=>(rdS (.int .i64) 18 σ,rdL 4 σ,rdR .fr 80 σ)) (mdI bs) (mdO bs) (0,0,[]) (c:=nthC (codeOf Tryz.f14) 5) (by kernel_rfl) (by kernel_rfl) (le_of_proj (by kernel_rfl) (by kernel_rfl) ?_) ?_ ?_
 ·exact⟨Nat.zero_le _,rfl,rfl,fun b hb=>nomatch hb⟩
 ·rintro⟨i,k,l⟩ hj
  revert i l
  intro (i:Int) (l:List Fr) ⟨hk,ei,el,ha⟩
  have hk:k<=bs.length:=hk
  have ei:i=(k:Int):=ei
  have kl:l=(bs.take k).map scw:=el
  have ha:∀ b∈bs.take k,List.length b<=100:=ha
  subst ei
  refine vcx (X:=((decide ((↑k:Int)<(↑bs.length:Int))=true->((0:Int)<=(↑k:Int)/\(↑k:Int)<(↑bs.length:Int))/\(↑k:Int).toNat<bs.length/\(decide ((↑(bs.getD (↑k:Int).toNat []).length:Int)>(100:Int))=true->([],false,())=outMade (bs,()))/\(decide ((↑(bs.getD (↑k:Int).toNat []).length:Int)>(100:Int))=false->ref01.preCopy (bs.getD (↑k:Int).toNat [],())/\(0:Nat)+(bs.getD (↑k:Int).toNat []).length<=(bs.getD (↑k:Int).toNat []).length/\fr.preWide (List.take (bs.getD (↑k:Int).toNat []).length (bs.getD (↑k:Int).toNat []),())/\0+1<=1/\k<=k/\(k+(1:Nat))*(32:Nat)<=(140737488355328:Nat)/\k+(1:Nat)<=(4611686018427387904:Nat)/\(mdI bs (IntKind.i64.wrap ((↑k:Int)+(1:Int)),k+(1:Nat),List.take k l++List.take 1 [zmr (num (List.take (bs.getD (↑k:Int).toNat []).length (bs.getD (↑k:Int).toNat [])))])).triv (mdJ bs (IntKind.i64.wrap ((↑k:Int)+(1:Int)),k+(1:Nat),List.take k l++List.take 1 [zmr (num (List.take (bs.getD (↑k:Int).toNat []).length (bs.getD (↑k:Int).toNat [])))])/\bs.length-(k+(1:Nat))<bs.length-k)))/\(decide ((↑k:Int)<(↑bs.length:Int))=false->(mdI bs ((↑k:Int),k,l)).triv (mdO bs ((↑k:Int),k,l))))) (by kernel_rfl) ?_
  rw[Int.toNat_natCast]
  refine⟨fun h=>?_,fun h=>tvi ?_⟩
  ·have hlt:k<bs.length:=by have:=dec_lt h;omega
   have hg:bs.getD k []=bs[k]:=by rw[List.getD_eq_getElem?_getD,List.getElem?_eq_getElem hlt,Option.getD_some]
   have hm:bs[k]∈bs:=List.getElem_mem hlt
   have htk:bs.take (k+1)=bs.take k++[bs[k]]:=List.take_succ_eq_append_getElem hlt
   rw[hg,wrap_succ (by omega)]
   generalize bs[k]=b at *
   have hbb:preB b:=hb.1 b hm
   rw[List.take_length,show List.take k l=l by rw[kl];exact List.take_of_length_le (by simp;omega)]
   refine⟨⟨by omega,by omega⟩,hlt,fun h2=>?_,fun h2=>⟨hbb.2,by omega,⟨hbb.1,by have:=hbb.2;show b.length<_;omega⟩,by decide,Nat.le_refl _,by omega,by omega,tvi ⟨⟨hlt,rfl,?_,?_⟩,by omega⟩⟩⟩
   ·have h2:¬ b.length<=100:=by have:=of_decide_eq_true h2;omega
    have hf:fitB bs=false:=by
     rw[Bool.eq_false_iff]
     intro hf
     simp only[fitB,Bool.and_eq_true,decide_eq_true_eq,List.all_eq_true] at hf
     exact h2 (hf.2 b hm)
    show _=(madF bs,fitB bs,())
    rw[madF,hf];rfl
   ·show l++[zmr (num b)]=(bs.take (k+1)).map scw
    rw[htk,List.map_append,<- kl,List.map_cons,List.map_nil,scw,opq_eq]
   ·show ∀ b∈bs.take (k+1),_
    rw[htk]
    intro c hc
    rcases List.mem_append.1 hc with hc|hc
    ·exact ha c hc
    ·simp at hc;subst hc;have:=of_decide_eq_false h2;omega
  ·have:k=bs.length:=by have:=dec_ge h;omega
   rw[this,List.take_length] at kl ha
   exact⟨kl,this,ha⟩
 rintro⟨i,k,l⟩ hj
 revert i l
 intro (i:Int) (l:List Fr) ⟨h1,h2,h3⟩
 have h1:l=bs.map scw:=h1
 have h2:k=bs.length:=h2
 have h3:∀ b∈bs,List.length b<=100:=h3
 have hf:fitB bs=true:=by
  simp only[fitB,Bool.and_eq_true,decide_eq_true_eq,List.all_eq_true]
  exact⟨h9,h3⟩
 refine tr_vc hsp mixed _ _ ?_
 refine vcx (X:=((0:Nat)+k<=k/\(List.take k l,true,())=outMade (bs,()))) (by kernel_rfl) ?_
 refine⟨by omega,?_⟩
 show _=(madF bs,fitB bs,())
 rw[madF,hf,if_pos rfl,h1,List.take_of_length_le (by simp[h2])]
def spMade:Nat × Eng.Spec:=(14,fnSpec [.sl bsl] [.own .fr,.val .bool] preMade outMade)
end
end Go.Proofs.YtbeeaekepmnfhaaGreatDoor.law15
namespace Go.Proofs.YtbeeaekepmnfhaaGreatDoor.law15
open Go Go.Eng Go.RowKit Cr poly part sha bls
theorem ent_head:enters Tryz.prog 13 Tryz.f13:=ek
theorem fn_head:FnOk Tryz.prog 13 [] [.val .bool] shaG (fun _=>True) (fun _=>(true,())):=by
 refine fn_of_vc (sp:=sps [fr.spOf,spAt,spSign,spCommit,soJoin,bls.spSign,spPoint,soCheck]) (spk (fok fr.fn_of) (spk (fok fn_at) (spk (fgk fn_sign) (spk (fok fn_commit) (spk (fok fo_join) (spk (fgk bls.fn_sign) (spk (fgk fn_point) (spk (fok fo_check) snl)))))))) mixed ent_head (by decide) (by decide) ?_
 rintro w M0 ⟨⟩ _ _
 refine vcx (X:=(U64 (7:Int)/\U64 (2:Int)/\0+2<=2/\preAt (List.take 2 [zmr (7:Int),zmr (2:Int)],(1:Int),())/\(∀ (g:Nat) (s:Sigma Car),shaG g=some s->Decidable.rec (fun h=>(fun x=>if g=(1:Nat) then some ⟨Kd.arr (64:Nat) uK,rootsL⟩ else none) h) (fun h=>(fun x=>some ⟨Kd.arr (8:Nat) uK,firstL⟩) h) (instDecidableEqNat g (0:Nat))=some s)/\(0:Nat)+(nat_lit 0+(1:Nat))<=(1:Nat)/\prePt (List.take (nat_lit 0+(1:Nat)) [(109:Int)],())/\0+2<=2/\preAt (List.take 2 [zmr (7:Int),zmr (2:Int)],(3:Int),())/\(∀ (g:Nat) (s:Sigma Car),shaG g=some s->Decidable.rec (fun h=>(fun x=>if g=(1:Nat) then some ⟨Kd.arr (64:Nat) uK,rootsL⟩ else none) h) (fun h=>(fun x=>some ⟨Kd.arr (8:Nat) uK,firstL⟩) h) (instDecidableEqNat g (0:Nat))=some s)/\(0:Nat)+(nat_lit 0+(1:Nat))<=(1:Nat)/\prePt (List.take (nat_lit 0+(1:Nat)) [(109:Int)],())/\0+2<=2/\preCommit (List.take 2 [zmr (7:Int),zmr (2:Int)],())/\(0:Nat)+(cmt (List.take 2 [zmr (7:Int),zmr (2:Int)])).length<=(cmt (List.take 2 [zmr (7:Int),zmr (2:Int)])).length/\0+2<=2/\preJoin (List.take (cmt (List.take 2 [zmr (7:Int),zmr (2:Int)])).length (cmt (List.take 2 [zmr (7:Int),zmr (2:Int)])),List.take 2 [((3:Int),g2.gmul (bpt (List.take (nat_lit 0+(1:Nat)) [(109:Int)])) (pat (List.take 2 [zmr (7:Int),zmr (2:Int)]) (3:Int))),((1:Int),g2.gmul (bpt (List.take (nat_lit 0+(1:Nat)) [(109:Int)])) (pat (List.take 2 [zmr (7:Int),zmr (2:Int)]) (1:Int)))],())/\(((jno (List.take (cmt (List.take 2 [zmr (7:Int),zmr (2:Int)])).length (cmt (List.take 2 [zmr (7:Int),zmr (2:Int)]))).length (List.take 2 [((3:Int),g2.gmul (bpt (List.take (nat_lit 0+(1:Nat)) [(109:Int)])) (pat (List.take 2 [zmr (7:Int),zmr (2:Int)]) (3:Int))),((1:Int),g2.gmul (bpt (List.take (nat_lit 0+(1:Nat)) [(109:Int)])) (pat (List.take 2 [zmr (7:Int),zmr (2:Int)]) (1:Int)))])).snd.fst==(0:Int))=true->U64 (7:Int)/\(∀ (g:Nat) (s:Sigma Car),shaG g=some s->Decidable.rec (fun h=>(fun x=>if g=(1:Nat) then some ⟨Kd.arr (64:Nat) uK,rootsL⟩ else none) h) (fun h=>(fun x=>some ⟨Kd.arr (8:Nat) uK,firstL⟩) h) (instDecidableEqNat g (0:Nat))=some s)/\(0:Nat)+(nat_lit 0+(1:Nat))<=(1:Nat)/\prePt (List.take (nat_lit 0+(1:Nat)) [(109:Int)],())/\(eqC ((Kd.fp.pair Kd.fp).pair (Kd.fp.pair Kd.fp)) (jno (List.take (cmt (List.take 2 [zmr (7:Int),zmr (2:Int)])).length (cmt (List.take 2 [zmr (7:Int),zmr (2:Int)]))).length (List.take 2 [((3:Int),g2.gmul (bpt (List.take (nat_lit 0+(1:Nat)) [(109:Int)])) (pat (List.take 2 [zmr (7:Int),zmr (2:Int)]) (3:Int))),((1:Int),g2.gmul (bpt (List.take (nat_lit 0+(1:Nat)) [(109:Int)])) (pat (List.take 2 [zmr (7:Int),zmr (2:Int)]) (1:Int)))])).fst (g2.gmul (bpt (List.take (nat_lit 0+(1:Nat)) [(109:Int)])) (zmr (7:Int)))=true->0+2<=2/\preCommit (List.take 2 [zmr (7:Int),zmr (2:Int)],())/\(∀ (g:Nat) (s:Sigma Car),shaG g=some s->Decidable.rec (fun h=>(fun x=>if g=(1:Nat) then some ⟨Kd.arr (64:Nat) uK,rootsL⟩ else none) h) (fun h=>(fun x=>some ⟨Kd.arr (8:Nat) uK,firstL⟩) h) (instDecidableEqNat g (0:Nat))=some s)/\(0:Nat)+(nat_lit 0+(1:Nat))<=(1:Nat)/\prePt (List.take (nat_lit 0+(1:Nat)) [(109:Int)],())/\(0:Nat)+(cmt (List.take 2 [zmr (7:Int),zmr (2:Int)])).length<=(cmt (List.take 2 [zmr (7:Int),zmr (2:Int)])).length/\preCheck (List.take (cmt (List.take 2 [zmr (7:Int),zmr (2:Int)])).length (cmt (List.take 2 [zmr (7:Int),zmr (2:Int)])),bpt (List.take (nat_lit 0+(1:Nat)) [(109:Int)]),((0:Int),((0:Fp),(0:Fp)),(0:Fp),(0:Fp)),())/\(chko (List.take (cmt (List.take 2 [zmr (7:Int),zmr (2:Int)])).length (cmt (List.take 2 [zmr (7:Int),zmr (2:Int)]))) (bpt (List.take (nat_lit 0+(1:Nat)) [(109:Int)])) ((0:Int),((0:Fp),(0:Fp)),(0:Fp),(0:Fp))==(34:Int),())=(true,()))/\(eqC ((Kd.fp.pair Kd.fp).pair (Kd.fp.pair Kd.fp)) (jno (List.take (cmt (List.take 2 [zmr (7:Int),zmr (2:Int)])).length (cmt (List.take 2 [zmr (7:Int),zmr (2:Int)]))).length (List.take 2 [((3:Int),g2.gmul (bpt (List.take (nat_lit 0+(1:Nat)) [(109:Int)])) (pat (List.take 2 [zmr (7:Int),zmr (2:Int)]) (3:Int))),((1:Int),g2.gmul (bpt (List.take (nat_lit 0+(1:Nat)) [(109:Int)])) (pat (List.take 2 [zmr (7:Int),zmr (2:Int)]) (1:Int)))])).fst (g2.gmul (bpt (List.take (nat_lit 0+(1:Nat)) [(109:Int)])) (zmr (7:Int)))=false->(false,())=(true,())))/\(((jno (List.take (cmt (List.take 2 [zmr (7:Int),zmr (2:Int)])).length (cmt (List.take 2 [zmr (7:Int),zmr (2:Int)]))).length (List.take 2 [((3:Int),g2.gmul (bpt (List.take (nat_lit 0+(1:Nat)) [(109:Int)])) (pat (List.take 2 [zmr (7:Int),zmr (2:Int)]) (3:Int))),((1:Int),g2.gmul (bpt (List.take (nat_lit 0+(1:Nat)) [(109:Int)])) (pat (List.take 2 [zmr (7:Int),zmr (2:Int)]) (1:Int)))])).snd.fst==(0:Int))=false->(false,())=(true,())))) (by kernel_rfl) ?_
 have eM:List.take (nat_lit 0+(1:Nat)) [(109:Int)]=[109]:=rfl
 simp only[eM,show ∀ a b:Fr,List.take 2 [a,b]=[a,b] from fun _ _=>rfl,show ∀ a b:PT,List.take 2 [a,b]=[a,b] from fun _ _=>rfl,List.take_length]
 have u:∀ n:Int,0<=n/\n<18446744073709551616->U64 n:=fun n h=>h
 have u7:=u 7 ⟨by decide,by decide⟩
 have u2:=u 2 ⟨by decide,by decide⟩
 have p1:preAt ([zmr 7,zmr 2],1,()):=⟨by decide,by decide,by decide⟩
 have p3:preAt ([zmr 7,zmr 2],3,()):=⟨by decide,by decide,by decide⟩
 have pc:preCommit ([zmr 7,zmr 2],()):=by show (2:Nat)<1048576;decide
 have pp:prePt ([109],()):=by show (1:Nat)<=1048576;decide
 have cl:(cmt [zmr 7,zmr 2]).length=[zmr 7,zmr 2].length:=by rw[cmt,List.length_map]
 have pj:∀ a b:PT,preJoin (cmt [zmr 7,zmr 2],[a,b],()):=fun a b=>⟨by show (2:Nat)<=12;decide,by show (cmt [zmr 7,zmr 2]).length<_;rw[cl];decide⟩
 have pk:∀ a,preCheck (cmt [zmr 7,zmr 2],bpt [109],a,()):=fun a=>by show (cmt [zmr 7,zmr 2]).length<_;rw[cl];decide
 have hA:Ans [3,1] 0:=Fnd.ans (low:=0) (.inl ⟨rfl,fun i hi=>by
  have hi:i<2:=hi
  have:i=0\/i=1:=by omega
  rcases this with rfl|rfl<;>decide⟩)
 have h0:pat [zmr 7,zmr 2] 0=zmr 7:=by rw[pat_eq];decide
 have hj:jno (cmt [zmr 7,zmr 2]).length [(3,g2.gmul (bpt [109]) (pat [zmr 7,zmr 2] 3)),(1,g2.gmul (bpt [109]) (pat [zmr 7,zmr 2] 1))]=(g2.gmul (bpt [109]) (zmr 7),0,()):=by
  have h:=jno_val (bpt_sub [109]) [zmr 7,zmr 2] [3,1] hA
  rw[if_pos rfl,if_neg (by decide),h0] at h
  rw[cl];exact h
 have hc:chko (cmt [zmr 7,zmr 2]) (bpt [109]) (0,(0,0),(0,0))=34:=by rw[chko,opq_eq,chkV,if_pos (by decide)]
 rw[hj,hc,g2.eqP2,decide_eq_true rfl]
 exact⟨u7,u2,by decide,p1,fun _ _ h=>h,by decide,pp,by decide,p3,fun _ _ h=>h,by decide,pp,by decide,pc,Nat.le_of_eq (Nat.zero_add _),by decide,pj _ _,fun _=>⟨u7,fun _ _ h=>h,by decide,pp,fun _=>⟨by decide,pc,fun _ _ h=>h,by decide,pp,Nat.le_of_eq (Nat.zero_add _),pk _,by decide⟩,fun h=>by cases h⟩,fun h=>by cases h⟩
noncomputable def spHead:Nat × Eng.Spec:=(13,fnSpecG shaG [] [.val .bool] (fun _=>True) (fun _=>(true,())))
end Go.Proofs.YtbeeaekepmnfhaaGreatDoor.law15
namespace Go.Proofs.YtbeeaekepmnfhaaGreatDoor.law15
open Go Go.Eng Go.RowKit Cr poly part sha bls
theorem ent_chk:enters Tryz.prog 6 Tryz.f6:=ek
noncomputable def csA (x:Int) (t m:List Int) (how:Int) (p:List Fr):St:=mkSt Tryz.f6.ntmps 176 [(1,sI .i64 x),(2,.is (.one (.ro (.int .u8) t))),(3,.is (.one (.ro (.int .u8) m))),(4,sI .i64 how),(11,.is (.one (.sl 32 0 0 p.length 4)))] [(32,[.row .fr p.length p])]
def csK (t m:List Int) (p:List Fr):Prop:=1<=p.length/\p.length<=5/\m.length<=4096/\t.length<=100
noncomputable def csB (x:Int) (m:List Int) (how:Int) (p:List Fr) (g:Fr × PT):St:=mkSt Tryz.f6.ntmps 456 [(1,sI .i64 x),(3,.is (.one (.ro (.int .u8) m))),(4,sI .i64 how),(11,.is (.one (.ro .fr p))),(13,.is (.one (.ptr 224 0))),(14,.is (.one (.ptr 376 0)))] [(224,.v (.int .i64 x)::g2.pc g.2.2),(376,[.row .fr 1 [g.1]])]
noncomputable def csC (x:Int) (m:List Int) (p:List Fr) (d:Fr) (g:Bool × PT):St:=mkSt Tryz.f6.ntmps 496 [(1,sI .i64 x),(3,.is (.one (.ro (.int .u8) m))),(11,.is (.one (.ro .fr p))),(13,.is (.one (.ptr 224 0))),(14,.is (.one (.ptr 376 0))),(15,.is (.one (.v (.bool g.1))))] [(224,.v (.int .i64 x)::g2.pc g.2.2),(376,[.row .fr 1 [d]])]
theorem made_fit {bs:List (List Int)} (h:fitB bs=true):1<=(madF bs).length/\(madF bs).length<=5:=by
 rw[madF,if_pos h,List.length_map]
 simp only[fitB,Bool.and_eq_true,decide_eq_true_eq] at h
 exact h.1
theorem mem_lo {x:Int} (h:x<1):memI x=false:=by rw[memI,decide_eq_false (show ¬ 1<=x by omega),Bool.false_and]
theorem mem_hi {x:Int} (h:x>9):memI x=false:=by rw[memI,decide_eq_false (show ¬ x<=9 by omega),Bool.and_false]
theorem mem_in {x:Int} (h:¬ x<1) (h2:¬ x>9):memI x=true:=by rw[memI,decide_eq_true (show 1<=x by omega),decide_eq_true (show x<=9 by omega)];rfl
theorem add_stay {z d:Fr} (h:z=z+d):d=0:=by
 have e:(z+d) + -z=d:=by rw[Rg.add_comm z d,Rg.add_assoc,Rg.add_neg,Rg.add_zero]
 rw[<- h,Rg.add_neg] at e
 exact e.symm
theorem eq2 (a:F2 × F2):eqC ((Kd.fp.pair Kd.fp).pair (Kd.fp.pair Kd.fp)) a a=true:=by rw[g2.eqP2,decide_eq_true rfl]
theorem fn_chk:FnOk Tryz.prog 6 [.sl (.sl (.int .u8)),iK,.sl (.int .u8),.sl (.int .u8),iK] [.val .bool] shaG (fun (bs,x,t,m,how,_)=>preBB bs/\preI x/\preB t/\preB m/\preI how) (fun _=>(true,())):=by
 have hsp:SpecsOk Tryz.prog (sps [spHead,spMade,spAt,spSign,bls.spSign,ref01.spCopy,fr.spWide,g2.soGen,g2.soMul,g2.soAdd,fp2.spAdd,spCommit,spPoint,soCheck,g2.soOn,g2.soIn,fr.spZero]):=spk (fgk fn_head) (spk (fok fn_made) (spk (fok fn_at) (spk (fgk fn_sign) (spk (fgk bls.fn_sign) (spk (fok ref01.fn_copy) (spk (fok fr.fn_wide) (spk (fok g2.fo_gen) (spk (fok g2.fo_mul) (spk (fok g2.fo_add) (spk (fok fp2.fn_add) (spk (fok fn_commit) (spk (fgk fn_point) (spk (fok fo_check) (spk (fok g2.fo_on) (spk (fok g2.fo_in) (spk (fok fr.fn_zero) snl))))))))))))))))
 refine fn_of_tr (sp:=sps [spHead,spMade,spAt,spSign,bls.spSign,ref01.spCopy,fr.spWide,g2.soGen,g2.soMul,g2.soAdd,fp2.spAdd,spCommit,spPoint,soCheck,g2.soOn,g2.soIn,fr.spZero]) ent_chk (by decide) (by decide) (by kernel_rfl) ?_
 rintro w M0 ⟨bs,x,t,m,how,⟨⟩⟩
 revert bs x t m how
 intro (bs:List (List Int)) (x:Int) (t:List Int) (m:List Int) (how:Int) _ hp
 obtain⟨h1,h2,h3,h4,h5⟩:=hp
 show Tr _ _ _ _ _ _ _
 refine tr_cutF hsp mixed 6 (fun σ=>rdR .fr 32 σ) (csA x t m how) (csK t m) ?_ ?_
 ·refine vcx (X:=((∀ (g:Nat) (s:Sigma Car),shaG g=some s->Decidable.rec (fun h=>(fun x=>if g=(1:Nat) then some ⟨Kd.arr (64:Nat) uK,rootsL⟩ else none) h) (fun h=>(fun x=>some ⟨Kd.arr (8:Nat) uK,firstL⟩) h) (instDecidableEqNat g (0:Nat))=some s)/\True/\((!true)=true->(false,())=(true,()))/\((!true)=false->preMade (bs,())/\((!fitB bs)=true->(true,())=(true,()))/\((!fitB bs)=false->(decide ((↑m.length:Int)>(4096:Int))=true->(true,())=(true,()))/\(decide ((↑m.length:Int)>(4096:Int))=false->(decide ((↑t.length:Int)>(100:Int))=true->(true,())=(true,()))/\(decide ((↑t.length:Int)>(100:Int))=false->(csA x t m how (madF bs)).triv (csK t m (madF bs)))))))) (by kernel_rfl) ?_
  exact⟨fun _ _ h=>h,trivial,fun h=>absurd h (by decide),fun _=>⟨h1,fun _=>rfl,fun hf=>⟨fun _=>rfl,fun hm=>⟨fun _=>rfl,fun ht=>tvi ⟨(made_fit (by simpa using hf)).1,(made_fit (by simpa using hf)).2,by have:=of_decide_eq_false hm;omega,by have:=of_decide_eq_false ht;omega⟩⟩⟩⟩⟩
 intro (p:List Fr) ⟨p1,p5,hm,ht⟩
 have pm:prePt (m,()):=by show m.length<=_;omega
 have pa:preAt (p,x,()):=⟨by show p.length<_;omega,h2⟩
 refine tr_frz 11 32 p.length 4 .fr p rfl rfl rfl ?_
 refine tr_cutF hsp mixed 5 (fun σ=>(rdB .fr 376 σ,rdB partK 224 σ)) (csB x m how p) (fun g=>g.2.2=g2.gadd (g2.gmul (bpt m) (pat p x)) (g2.gmul g2.gG g.1)) ?_ ?_
 ·refine vcx (X:=(preAt (p,x,())/\(∀ (g:Nat) (s:Sigma Car),shaG g=some s->Decidable.rec (fun h=>(fun x=>if g=(1:Nat) then some ⟨Kd.arr (64:Nat) uK,rootsL⟩ else none) h) (fun h=>(fun x=>some ⟨Kd.arr (8:Nat) uK,firstL⟩) h) (instDecidableEqNat g (0:Nat))=some s)/\prePt (m,())/\((x != x)=true->(false,())=(true,()))/\((x != x)=false->preAt (p,x,())/\(∀ (g:Nat) (s:Sigma Car),shaG g=some s->Decidable.rec (fun h=>(fun x=>if g=(1:Nat) then some ⟨Kd.arr (64:Nat) uK,rootsL⟩ else none) h) (fun h=>(fun x=>some ⟨Kd.arr (8:Nat) uK,firstL⟩) h) (instDecidableEqNat g (0:Nat))=some s)/\prePt (m,())/\((!eqC ((Kd.fp.pair Kd.fp).pair (Kd.fp.pair Kd.fp)) (g2.gmul (bpt m) (pat p x)) (g2.gmul (bpt m) (pat p x)))=true->(false,())=(true,()))/\((!eqC ((Kd.fp.pair Kd.fp).pair (Kd.fp.pair Kd.fp)) (g2.gmul (bpt m) (pat p x)) (g2.gmul (bpt m) (pat p x)))=false->ref01.preCopy (t,())/\(0:Nat)+t.length<=t.length/\fr.preWide (List.take t.length t,())/\True/\True/\True/\(csB x m how p (zmr (num (List.take t.length t)),x,g2.gadd (g2.gmul (bpt m) (pat p x)) (g2.gmul g2.gG (zmr (num (List.take t.length t)))))).triv (g2.gadd (g2.gmul (bpt m) (pat p x)) (g2.gmul g2.gG (zmr (num (List.take t.length t))))=g2.gadd (g2.gmul (bpt m) (pat p x)) (g2.gmul g2.gG (zmr (num (List.take t.length t))))))))) (by kernel_rfl) ?_
  rw[List.take_length]
  exact⟨pa,fun _ _ h=>h,pm,(fun h=>by simp at h),fun _=>⟨pa,fun _ _ h=>h,pm,(fun h=>by rw[eq2] at h;cases h),fun _=>⟨by show t.length<=_;omega,Nat.le_of_eq (Nat.zero_add _),⟨h3.1,by show t.length<_;omega⟩,trivial,trivial,trivial,tvi rfl⟩⟩⟩
 rintro⟨d,a⟩ ha
 revert d a
 intro (d:Fr) (a:PT) (ha:a.2=g2.gadd (g2.gmul (bpt m) (pat p x)) (g2.gmul g2.gG d))
 refine tr_cutB hsp mixed 3 15 (fun σ=>(rdS .bool 15 σ,rdB partK 224 σ)) (csC x m p d) (fun g=>g.1=false->g.2.2=a.2) ?_ ?_
 ·refine vcx (X:=(((bitOp BinOp.and IntKind.i64 how (3:Int)==(3:Int))=true->True/\(csC x m p d (bitOp BinOp.and IntKind.i64 how (3:Int)==(3:Int),x,a.snd.fst,a.snd.snd+a.snd.fst)).triv ((bitOp BinOp.and IntKind.i64 how (3:Int)==(3:Int))=false->(a.snd.fst,a.snd.snd+a.snd.fst)=a.snd))/\((bitOp BinOp.and IntKind.i64 how (3:Int)==(3:Int))=false->(csC x m p d (bitOp BinOp.and IntKind.i64 how (3:Int)==(3:Int),x,a.snd)).triv ((bitOp BinOp.and IntKind.i64 how (3:Int)==(3:Int))=false->a.snd=a.snd)))) (by kernel_rfl) ?_
  exact⟨fun h=>⟨trivial,tvi (fun h2=>by rw[h] at h2;cases h2)⟩,fun _=>tvi (fun _=>rfl)⟩
 rintro⟨b,c⟩ hb
 revert b c
 intro (b:Bool) (c:PT) (hb:b=false->c.2=a.2)
 refine tr_vc hsp mixed _ _ ?_
 refine vcx (X:=(preCommit (p,())/\(∀ (g:Nat) (s:Sigma Car),shaG g=some s->Decidable.rec (fun h=>(fun x=>if g=(1:Nat) then some ⟨Kd.arr (64:Nat) uK,rootsL⟩ else none) h) (fun h=>(fun x=>some ⟨Kd.arr (8:Nat) uK,firstL⟩) h) (instDecidableEqNat g (0:Nat))=some s)/\prePt (m,())/\(0:Nat)+(cmt p).length<=(cmt p).length/\preCheck (List.take (cmt p).length (cmt p),bpt m,(x,c.snd),())/\(decide (x<(1:Int))=true->(chko (List.take (cmt p).length (cmt p)) (bpt m) (x,c.snd)==(34:Int),())=(true,()))/\(decide (x<(1:Int))=false->(decide (x>(9:Int))=true->(chko (List.take (cmt p).length (cmt p)) (bpt m) (x,c.snd)==(34:Int),())=(true,()))/\(decide (x>(9:Int))=false->True/\((!g2.gon c.snd)=true->(chko (List.take (cmt p).length (cmt p)) (bpt m) (x,c.snd)==(14:Int),())=(true,()))/\((!g2.gon c.snd)=false->True/\((!g2.gin c.snd)=true->(chko (List.take (cmt p).length (cmt p)) (bpt m) (x,c.snd)==(14:Int),())=(true,()))/\((!g2.gin c.snd)=false->(b=true->(true,())=(true,()))/\(b=false->((chko (List.take (cmt p).length (cmt p)) (bpt m) (x,c.snd)==(0:Int))=true->True/\(decide (d=(0:Zm Mr))=true->(true,())=(true,()))/\(decide (d=(0:Zm Mr))=false->((chko (List.take (cmt p).length (cmt p)) (bpt m) (x,c.snd)==(30:Int))=true->True/\(!decide (d=(0:Zm Mr)),())=(true,()))/\((chko (List.take (cmt p).length (cmt p)) (bpt m) (x,c.snd)==(30:Int))=false->(false,())=(true,()))))/\((chko (List.take (cmt p).length (cmt p)) (bpt m) (x,c.snd)==(0:Int))=false->((chko (List.take (cmt p).length (cmt p)) (bpt m) (x,c.snd)==(30:Int))=true->True/\(!decide (d=(0:Zm Mr)),())=(true,()))/\((chko (List.take (cmt p).length (cmt p)) (bpt m) (x,c.snd)==(30:Int))=false->(false,())=(true,())))))))))) (by kernel_rfl) ?_
 have cl:(cmt p).length=p.length:=by rw[cmt,List.length_map]
 have hck:chko (cmt p) (bpt m) (x,c.2)=chkV (cmt p) (bpt m) (x,c.2):=by rw[chko,opq_eq]
 rw[List.take_length,hck]
 refine⟨by show p.length<_;omega,fun _ _ h=>h,pm,Nat.le_of_eq (Nat.zero_add _),by show (cmt p).length<_;rw[cl];omega,fun h=>?_,fun h=>⟨fun h'=>?_,fun h'=>?_⟩⟩
 ·rw[chkV,if_pos (mem_lo (of_decide_eq_true h))];rfl
 ·rw[chkV,if_pos (mem_hi (of_decide_eq_true h'))];rfl
 have hin:memI x=true:=mem_in (of_decide_eq_false h) (of_decide_eq_false h')
 have nin:¬ memI (x,c.2).1=false:=by rw[hin];decide
 refine⟨trivial,fun ho=>?_,fun ho=>⟨trivial,fun hi=>?_,fun hi=>⟨fun _=>rfl,fun hb0=>?_⟩⟩⟩
 ·have ho:g2.gon c.2=false:=by simpa using ho
  rw[chkV,if_neg nin,if_pos ho];rfl
 ·have ho:¬ g2.gon c.2=false:=by simpa using ho
  have hi:g2.gin c.2=false:=by simpa using hi
  rw[chkV,if_neg nin,if_neg ho,if_pos hi];rfl
 have ho:¬ g2.gon c.2=false:=by simpa using ho
 have hi:¬ g2.gin c.2=false:=by simpa using hi
 have hf:fto (catF x (cmt p)) (bpt m) c.2=decide (d=0):=by
  rw[hb hb0,ha,sig_eq,g2.gadd_eq (g2.sub_gmul g2.sub_G _).1 (g2.sub_gmul g2.sub_G _).1,<- g2.mul_add g2.sub_G,cat_cmt h2,bpt_eq m,fto_val,Rg.mul_comm (pat p x)]
  by_cases hd:d=0
  ·rw[hd,Rg.add_zero,decide_eq_true rfl,decide_eq_true rfl]
  ·rw[decide_eq_false hd,decide_eq_false (fun e=>hd (add_stay e))]
 rw[chkV,if_neg nin,if_neg ho,if_neg hi,hf]
 by_cases hd:d=0
 ·rw[decide_eq_true hd,if_neg (by decide)]
  exact⟨fun _=>⟨trivial,fun _=>rfl,(fun h=>by cases h)⟩,(fun h=>by cases h)⟩
 ·rw[decide_eq_false hd,if_pos rfl]
  exact⟨(fun h=>by cases h),fun _=>⟨fun _=>⟨trivial,rfl⟩,(fun h=>by cases h)⟩⟩
end Go.Proofs.YtbeeaekepmnfhaaGreatDoor.law15
namespace Go.Eng
open Go Go.RowKit Cr Go.ChangeShapes Go.WideShapes Go.ChangeAt
theorem laid_ints {P:Program} {t e:TypeId} {n:Nat} {k:IntKind} {H:Type} {enc:TypeId × Value->H} {W:World} {fl:Bool} {fuel:Nat} {cs:List Value} {p:List MemPlace} {xs:List Int} (ht:P.underlying t=some (.array n e)) (he:P.underlying e=some (.int k)) (hce:P.cellsOf e=1) (hct:P.cellsOf t=n)
  (h:DataW.trod enc P W 0 (fun _=>true) fl fuel t cs=some (.agg (xs.map fun x=>.lit (.int k x)),p)):cs=xs.map (Value.int k):=by
 obtain⟨ys,m,rfl,hx,hlen,hn,hel⟩:=DataW.trod_array ht h
 simp only[Prod.mk.injEq,DataW.agg.injEq] at hx
 obtain⟨hx,_⟩:=hx
 have hxl:xs.length=n:=by
  have:=congrArg List.length hx
  simpa[hn] using this
 refine List.ext_getElem (by rw[hlen,hct,List.length_map,hxl]) fun i h1 h2=>?_
 have hin:i<n:=by rw[hlen,hct] at h1;exact h1
 have h3:=hel i hin
 rw[hce,Nat.mul_one,List.getElem?_eq_getElem (by omega)] at h3
 obtain⟨z,e1,e2,_⟩:=DataW.trod_int he h3
 have e3:(cs.drop i).take 1=[cs[i]]:=by rw[List.drop_eq_getElem_cons h1];rfl
 rw[e3] at e1
 simp only[List.cons.injEq,and_true] at e1
 have h4:(xs.map fun x=>(DataW.lit (.int k x):DataW H))[i]?=(ys.map (·.1))[i]?:=by rw[hx]
 rw[List.getElem?_map,List.getElem?_map,List.getElem?_eq_getElem (by omega),List.getElem?_eq_getElem (by omega)] at h4
 simp only[Option.map_some,Option.some.injEq] at h4
 rw[e2] at h4
 simp only[DataW.lit.injEq,Lit.int.injEq,true_and] at h4
 rw[e1,List.getElem_map,h4]
theorem laid_row {P:Program} {W:World} {nm:String} {g n:Nat} {k:IntKind} {cs:Array Value} {xs:List Int} (hg:P.globalNamed nm=some g) (hv:W.var? P nm=some cs) (hcs:cs.toList=xs.map (Value.int k)) (hx:xs.length=n):RowAt (Rd (memOf W) (.arr n (.int k))) (width (.arr n (.int k))) (memOf W) g 0 [xs]:=by
 have hh:∃ el fr,W.heap[g]?=some (.cells cs el fr):=by
  simp only[World.var?,hg,Option.bind_some] at hv
  split at hv
  ·rename_i c el fr hh
   simp only[Option.some.injEq] at hv
   subst hv
   exact⟨el,fr,hh⟩
  ·cases hv
 obtain⟨el,fr,hh⟩:=hh
 obtain⟨l⟩:=cs
 have hcs:l=xs.map (Value.int k):=hcs
 refine⟨l,memOf_blk hh,?_,?_⟩
 ·simp[width,hcs,hx]
 ·rw[List.drop_zero,List.take_of_length_le (by simp[width,hcs,hx])]
  exact RdL_one ⟨hx,RdL_int.2 hcs⟩
theorem law_rowG {C:Checked} {f:FuncId} {fn:Func} {s:ChangeSpec} {bt:TypeId} {ts:List TypeId} {ks:List Kd} {pre pre':HL ks->Prop} {H:Type} {enc:TypeId × Value->H} {G:Glob}
  (he:enters C.prog f fn) (hf:FnOk C.prog f ks [.val .bool] G pre (fun _=>(true,()))) (hl:laidOutB C.prog=true) (hts:fn.params.toList=ts) (hrs:fn.resultTypes=#[bt]) (hbt:C.prog.underlying bt=some .bool)
  (ho:OpnL C.prog ts ks pre') (hpre:∀ xs,pre' xs->pre xs) (hv:s.vars=[]) (hs:∀ ds:List (DataW H),ds.length=ts.length->s.fn H ds={ results:=[.lit (.bool true)],args:=ds })
  (W:World) (hG:GlOk G (memOf W)) (base:Nat) (args:Array Value) (ds gs:List (DataW H)) (before:List MemPlace)
  (hok:∀ (j:Nat) t v,fn.params[j]?=some t->args[j]?=some v->Value.okWide C.prog W .any base t v)
  (hW:DataW.Whole enc C.prog fn.params.toList s.vars false W args.toList ds gs before)
  (hsz:(DataW.weightsEach C.prog (fn.params.toList++s.plain.varTypes C.prog) (ds++gs)).all (· <= reachBytes)=true) :
  Calls C.prog f args W fun e W'=>∃ v,e=.returned v/\s.post enc C.prog fn false true false false W args v W':=by
 have hW':=hW
 have hlt:∀ x∈before,x.block<W.heap.size:=fun x hx=>by simpa using hW'.lt x hx
 obtain⟨p,q,hA,hV,rfl,hfz,hnd⟩:=hW
 rw[hv] at hV
 obtain⟨rfl,rfl⟩:=trodVars_none hV
 rw[hts] at hA
 have hlen:ds.length=ts.length:=by
  exact trodAll_len hA
 have hwt:∀ n∈DataW.weightsEach C.prog ts ds,n<=reachBytes:=by
  intro n hn
  have e:s.plain.varTypes C.prog=[]:=by simp[DataSpec.varTypes,ChangeSpec.plain,hv]
  rw[e,hts,List.append_nil,List.append_nil,List.all_eq_true] at hsz
  simpa using hsz n hn
 obtain⟨xs,hin,hp⟩:=opnL_open ho (enc:=enc) (W:=W) (base:=base) (vs:=args.toList) (ds:=ds) (p:=p) (fun j t v ht hj=>hok j t v (by rw[<- hts] at ht;simpa using ht) (by simpa using hj)) hA hwt
 have hc:=hf W (memOf W) args.toList xs (fun b l h=>h) hG hin (hpre xs hp)
 refine (callOk_calls he hc).mono ?_
 rintro e W' ⟨v,rfl,vs,ob,rfl,⟨v,vs',rfl,hv1,rfl⟩,hb⟩
 have hv1:v=.bool true:=by have h:[v]=[Value.bool true]:=hv1;simpa using h
 subst hv1
 refine⟨_,rfl,ds,[],p++[],[],p,[],hW',?_,?_,?_,?_,fun h=>by cases h⟩
 ·rw[hrs,List.append_nil,hs ds hlen]
  exact trodAll_mk1 (shut_bool hbt true)
 ·rw[hts,List.append_nil,hs ds hlen]
  exact opnL_stays hl ho hb hA (fun x hx=>hlt x (by simpa using hx))
 ·rw[hv,List.append_nil,hs ds hlen]
  rfl
 ·exact hb.frame _
end Go.Eng
namespace Go.Proofs.YtbeeaekepmnfhaaGreatDoor.sha
open Go Go.Eng Go.RowKit Cr
abbrev shaLaid : List (String × DataW Unit) := [("cresset/sha.first", Rows.laid_cresset_sha_first), ("cresset/sha.roots", Rows.laid_cresset_sha_roots)]
theorem gFirst : Tryz.prog.globalNamed "cresset/sha.first" = some 0 := by kernel_rfl
theorem gRoots : Tryz.prog.globalNamed "cresset/sha.roots" = some 1 := by kernel_rfl
theorem tFirst:(Tryz.prog.globals[0]?).map (·.type)=some 213:=by kernel_rfl
theorem tRoots:(Tryz.prog.globals[1]?).map (·.type)=some 261:=by kernel_rfl
theorem sha_glob {W:World} (h:laidMetH Tryz.prog shaLaid W):GlOk shaG (memOf W):=by
 rw[MakeChecks.laidMetH_plain _ _ _ (by kernel_rfl)] at h
 obtain⟨ps,⟨g0,t0,cs0,f0,p0,q0,hg0,ht0,hv0,hd0,⟨g1,t1,cs1,f1,p1,q1,hg1,ht1,hv1,hd1,_,_⟩,_⟩,_,_⟩:=h
 obtain rfl:=Option.some.inj (gFirst.symm.trans hg0)
 obtain rfl:=Option.some.inj (gRoots.symm.trans hg1)
 obtain rfl:=Option.some.inj (tFirst.symm.trans ht0)
 obtain rfl:=Option.some.inj (tRoots.symm.trans ht1)
 have e0:(Rows.laid_cresset_sha_first:DataW Unit)=.agg (firstL.map fun x=>.lit (.int .u32 x)):=rfl
 have e1:(Rows.laid_cresset_sha_roots:DataW Unit)=.agg (rootsL.map fun x=>.lit (.int .u32 x)):=rfl
 rw[e0] at hd0
 rw[e1] at hd1
 have c0:=laid_ints (e:=191) (n:=8) (k:=.u32) (by kernel_rfl) (by kernel_rfl) (by kernel_rfl) (by kernel_rfl) hd0
 have c1:=laid_ints (e:=191) (n:=64) (k:=.u32) (by kernel_rfl) (by kernel_rfl) (by kernel_rfl) (by kernel_rfl) hd1
 have r0:=laid_row hg0 hv0 c0 (n:=8) rfl
 have r1:=laid_row hg1 hv1 c1 (n:=64) rfl
 intro g e x hx
 unfold shaG at hx
 split at hx
 ·rename_i hg
  subst hg
  simp only[Option.some.injEq] at hx
  cases hx
  exact r0
 ·split at hx
  ·rename_i hg
   subst hg
   simp only[Option.some.injEq] at hx
   cases hx
   exact r1
  ·cases hx
theorem door_met (os:Os) (args:Array Value):laidMetH Tryz.prog shaLaid ((World.doorLaid Tryz.prog 400 os).forCall (fun _ _=>0) ⟨#[],args,[]⟩).memory :=
 laidMetH_of_parts3 (fuel:=8) (laidMet_of_run' 8 (by kernel_rfl) (by kernel_rfl)) (by kernel_rfl) (by kernel_rfl)
end Go.Proofs.YtbeeaekepmnfhaaGreatDoor.sha
namespace Go.Proofs.YtbeeaekepmnfhaaGreatDoor
open Go Go.Eng Go.RowKit Cr Go.ChangeShapes Go.WideShapes Go.ChangeAt
namespace partChecks
theorem own:ownKnob Tryz.prog.godebug=none:=by kernel_rfl
theorem laidOut:laidOutB Tryz.prog=true:=by kernel_rfl
abbrev wtB:Car bsl->Prop:=fun ys=>List.length ys*Tryz.prog.bytesOf 5<=reachBytes/\∀ y∈ys,(Lit.int .u8 y).wf=true
theorem cB:OpnC Tryz.prog 38 bsl wtB:=opnC_slice (e:=5) (by kernel_rfl) (by kernel_rfl) (by decide) (opnC_int (by kernel_rfl))
abbrev wtBB:Car (.sl bsl)->Prop:=fun ys=>List.length ys*Tryz.prog.bytesOf 38<=reachBytes/\∀ y∈ys,wtB y
theorem oBB:OpnV Tryz.prog 41 (.sl bsl) wtBB:=opnV_slice (e:=38) (by kernel_rfl) (by kernel_rfl) (by decide) cB
theorem bytes5:Tryz.prog.bytesOf 5=1:=by kernel_rfl
theorem bytes33:Tryz.prog.bytesOf 38=24:=by kernel_rfl
theorem pB {xs:List Int} (h:wtB xs):preB xs:=by
 obtain⟨h1,h2⟩:=h
 rw[bytes5] at h1
 refine⟨fun x hx=>?_,?_⟩
 ·have:=h2 x hx
  simp[Lit.wf,IntKind.min,IntKind.max,IntKind.signed,IntKind.bits] at this
  omega
 ·show List.length xs<=_
  simp only[reachBytes] at h1
  omega
theorem pBB {xs:List (List Int)} (h:wtBB xs):preBB xs:=by
 obtain⟨h1,h2⟩:=h
 rw[bytes33] at h1
 refine⟨fun x hx=>pB (h2 x hx),?_⟩
 show List.length xs<=_
 simp only[reachBytes] at h1
 omega
abbrev wtI:Car (.int .i64)->Prop:=fun x=>(Lit.int .i64 x).wf=true
theorem oI:OpnV Tryz.prog 3 (.int .i64) wtI:=opnV_int (by kernel_rfl)
theorem pI {x:Int} (h:wtI x):preI x:=by
 have:(Lit.int .i64 x).wf=true:=h
 simp[Lit.wf,IntKind.min,IntKind.max,IntKind.signed,IntKind.bits] at this
 exact⟨by omega,by omega⟩
theorem oB:OpnV Tryz.prog 38 bsl wtB:=opnV_slice (e:=5) (by kernel_rfl) (by kernel_rfl) (by decide) (opnC_int (by kernel_rfl))
theorem opened:OpnL Tryz.prog [41,3,38,38,3] [.sl bsl,.int .i64,bsl,bsl,.int .i64] (fun x=>wtBB x.1/\wtI x.2.1/\wtB x.2.2.1/\wtB x.2.2.2.1/\wtI x.2.2.2.2.1/\True) :=
 .cons oBB (by kernel_rfl) (of_decide_eq_true (by kernel_rfl)) (.cons oI (by kernel_rfl) (of_decide_eq_true (by kernel_rfl)) (.cons oB (by kernel_rfl) (of_decide_eq_true (by kernel_rfl)) (.cons oB (by kernel_rfl) (of_decide_eq_true (by kernel_rfl)) (.cons oI (by kernel_rfl) (of_decide_eq_true (by kernel_rfl)) .nil))))
theorem lifted (os:Os) (started:os.Started) (H:Type) (enc:TypeId × Value->H) :
  ReturnsInHanded {} Tryz.checked os 6 .any (fun w args=>(Rows.partChecksSpec.pre enc Tryz.prog Tryz.f6 Rows.partChecksRow.domain false w args/\laidMetH Tryz.prog sha.shaLaid w)/\sizedMet enc Tryz.prog Tryz.f6 (OpenSpec.ofChange Rows.partChecksSpec) false w args) (Rows.partChecksSpec.post enc Tryz.prog Tryz.f6 false true false false):=by
 refine returnsInHanded_of_change_and (C:=Tryz.checked) (X:=fun w _=>laidMetH Tryz.prog sha.shaLaid w) (fun _ _ _ hh h=>h.of_heap hh) own started (by kernel_rfl) Tryz.func6
  (ChangeSpec.witness_shaped (enc:=enc) (C:=Tryz.checked) (os:=os) (X:=fun w _=>laidMetH Tryz.prog sha.shaLaid w) false (World.doorLaid Tryz.prog 400 os) #[.slice none 0 0,.int .i64 0,.slice none 0 0,.slice none 0 0,.int .i64 0] 8 rfl (World.shaped_of_RefB (by kernel_rfl) (by kernel_rfl)) (by kernel_rfl) (by kernel_rfl) (by kernel_rfl) (sha.door_met os _)) ?_
 intro W base args ds gs before hval hW _ hsz hL _
 refine law_rowG (C:=Tryz.checked) (bt:=4) (ts:=[41,3,38,38,3]) law15.ent_chk law15.fn_chk laidOut (by kernel_rfl) (by kernel_rfl) (by kernel_rfl) opened ?_ rfl ?_ W (sha.sha_glob hL) base args ds gs before hval hW hsz
 ·rintro⟨x0,x1,x2,x3,x4,⟨⟩⟩ ⟨h0,h1,h2,h3,h4,_⟩
  exact⟨pBB h0,pI h1,pB h2,pB h3,pI h4⟩
 ·intro ds hl
  match ds,hl with
  | [d0,d1,d2,d3,d4],_=>rfl
theorem row:Rows.PartChecksSaid :=
 OpenClaim.holds_of_wide 6 Tryz.f6 rfl rfl rfl rfl rfl rfl rfl ⟨rfl,rfl,rfl,rfl,rfl⟩ rfl rfl rfl rfl rfl (by kernel_rfl) Tryz.func6 (by kernel_rfl)
  (of_decide_eq_true (by kernel_rfl)) (by unfold Func.isWrapper;first|(rw[if_pos (by decide +kernel)];kernel_rfl)|(rw[if_neg (by decide +kernel)];exact⟨rfl,rfl⟩))
  (fun os started H enc _=>lifted os started H enc)
theorem wants:(Tryz.f6.params.toList.all fun u => !Tryz.prog.wantsStandIn u)=true:=by kernel_rfl
theorem proved:Rows.PartChecksCardSaid :=
 Claim7.holds_tied_plain_at .later [] [.data, .data] true (true, "cf2e951b99f3f2b23b04da4c4894839ac980a495d785b014e0b6a3403a28d2a0") false
  row (fun _ h=>by cases h) (by kernel_rfl) (fun _ h=>by cases h) partChecks_row_tie rfl ⟨rfl,rfl⟩ (by kernel_rfl) rfl
  (fun f fn hf hfn=>by
   obtain rfl : f = 6 := Option.some.inj ((show Tryz.prog.funcNamed "cresset/cressetlaw15.PartChecks" = some 6 by kernel_rfl).symm.trans hf) |>.symm
   obtain rfl:fn=Tryz.f6:=(Option.some.inj (Tryz.func6.symm.trans hfn)).symm
   exact⟨by kernel_rfl,fun j t ht=>by
    have hm:t∈Tryz.f6.params.toList:=by simpa using Array.mem_of_getElem? ht
    exact (show Tryz.prog.wantsStandIn t=false by simpa using List.all_eq_true.1 wants t hm)⟩)
  (by kernel_rfl)
#print axioms proved
end partChecks
end Go.Proofs.YtbeeaekepmnfhaaGreatDoor
