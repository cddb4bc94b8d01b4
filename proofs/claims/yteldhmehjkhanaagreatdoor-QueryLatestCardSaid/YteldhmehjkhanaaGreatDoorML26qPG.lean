import Derived.Laws.Slices
import Derived.Test.YteldhmehjkhanaaGreatDoorML26qPF
set_option maxRecDepth 100000
namespace Go.Eng
open Go Go.RowKit Cr
section
variable {P:Program} {w0:Base} {id:Nat} {ρ:Rho} {B:Blks} {w:World} {a:Act} {dst:Option Tmp} {ty:TypeId} {pos:String} {af:Array Edge} {gd:Option (Nat × Bool)} {out:Out}
theorem isStr_eq {t:TypeId} (h:isStr P t=true):P.underlying t=some .string:=by
 unfold isStr at h
 split at h
 ·assumption
 ·cases h
theorem isU8_eq {t:TypeId} (h:isU8 P t=true):P.underlying t=some (.int .u8):=by
 unfold isU8 at h
 split at h
 ·assumption
 ·cases h
theorem s_makeMap (hc:Ctx w0 id ρ B w) {t:TypeId}:Sound1 P id B ⟨dst,.makeMap t none,ty,pos,af,gd⟩ { val:=.is (.one (.fv .mp ())) } ρ a w:=by
 intro next Q hn
 unfold Oper.wp
 have ex:(execOp a.eval ⟨dst,.makeMap t none,ty,pos,af,gd⟩).run P w=.ok (.value (.map (some w.heap.size))) { w with heap:=w.heap.push (.map #[] 0) } :=
  run_v (s:=Instr.makeMap t none) rfl (by unfold Instr.makeMap;simp)
 rw[ex]
 let ρ':Rho:=⟨ρ.m,ρ.n,fun b=>if b=w.heap.size then some [] else ρ.M b⟩
 have hlt:∀ b l,ρ.M b=some l->b≠w.heap.size:=by
  rintro b l h rfl
  obtain⟨el,fr,hh⟩:=hc.mem _ l h
  simp at hh
 have hM:Mem.le ρ.M ρ'.M:=by
  intro b l h
  show (if b=w.heap.size then _ else ρ.M b)=_
  rw[if_neg (hlt b l h)];exact h
 refine hn _ _ ρ' ⟨⟨_,rfl,?_⟩,rfl⟩ { le:=⟨fun _ _ h=>⟨h,rfl⟩,hM⟩,dom:=fun _ _ h=>.inl h,bound:=?_,os:=rfl,tape:=rfl,output:=rfl,size:=?_,same:=?_,new:=fun _ h=>(nomatch h),newinj:=fun _ h=>(nomatch h),wruniq:=fun _ h=>(nomatch h),wr:=fun _ h=>(nomatch h),mem:=?_ }
 ·show (if w.heap.size=w.heap.size then _ else _)=_
  rw[if_pos rfl]
 ·intro i b h
  have:=hc.bound i b h
  show b<(w.heap.push _).size
  rw[Array.size_push];omega
 ·show _<=(w.heap.push _).size
  rw[Array.size_push];omega
 ·intro b hb _
  show (w.heap.push _)[b]?=_
  rw[Array.getElem?_push,if_neg (by omega)]
 ·intro b l h
  have h:(if b=w.heap.size then some [] else ρ.M b)=some l:=h
  by_cases e:b=w.heap.size
  ·rw[if_pos e] at h
   simp only[Option.some.injEq] at h
   subst h
   refine .inr ⟨fun _ h=>(nomatch h),.inl (by omega),0,(0,0),?_⟩
   show (w.heap.push _)[b]?=_
   rw[e];simp[objOf]
  ·rw[if_neg e] at h
   exact .inl h
theorem run_getObj_some {b n:Nat} {es:Array MapEntry} (h:w.heap[b]?=some (.map es n)):(getObj b).run P w=.ok (.map es n) w:=by
 simp only[getObj,Sem.run,h]
theorem s_lookup (hc:Ctx w0 id ρ B w) {t k e:TypeId} {x ix:Operand} {cs:List Cell} {s:ByteArray} {u:Car .mp} (hu:P.underlying t=some (.map k e)) (hk:isStr P k=true) (hz:zeroAgg P e=true) (hcs:zeroC P e=some cs)
  (hv:valsRel ρ [.is (.one (.fv .mp u)),.is (.one (.v (.string s)))] [a.eval x,a.eval ix]):Sound1 P id B ⟨dst,.lookup t x ix true,ty,pos,af,gd⟩ { val:=.tup [.agg cs,.one .F] } ρ a w:=by
 obtain⟨z1,z2,e1,h1,h2⟩:=valsRel_two hv
 simp only[List.cons.injEq,and_true] at e1
 obtain⟨ex,ey⟩:=e1
 have h2:=rel_v h2
 subst h2
 obtain⟨⟨b,e3,hb⟩,_⟩:=h1
 simp only[List.cons.injEq,and_true] at e3
 subst e3
 obtain⟨el,fr,hh⟩:=hc.mem b [] hb
 have hh:w.heap[b]?=some (.map #[] el):=hh
 obtain⟨i,z,hi,hiz,hr⟩:=zeroC_rel (ρ:=ρ) hcs
 have hzl:∃ l,z=.agg ⟨l⟩:=by
  unfold zeroAgg at hz
  split at hz
  ·rename_i hi'
   rw[hi] at hi'
   simp only[Option.some.injEq] at hi'
   subst hi'
   simp only[Option.some.injEq] at hiz
   exact⟨_,hiz.symm⟩
  ·cases hz
 obtain⟨l,rfl⟩:=hzl
 have hks:=isStr_eq hk
 refine sound_val hc (v:=.tuple ⟨[.agg ⟨l⟩,.bool false]⟩) (run_v (s:=Instr.lookup t (a.eval x) (a.eval ix) true) rfl ?_) ⟨_,rfl,_,_,rfl,⟨l,rfl,hr⟩,_,_,rfl,rfl,rfl⟩
 rw[ex,ey]
 unfold Instr.lookup
 have hck:(Instr.checkKey true 10000 k (.string s)).run P w=.ok () w:=by
  rw[show (10000:Nat)=9999+1 from rfl,Instr.checkKey]
  simp only[Sem.run_bind,underlying_run hks,Result.andThen_ok,Sem.run_pure]
 have hfk:(Instr.findKey k (.string s) []).run P w=.ok none w:=by
  unfold Instr.findKey
  simp only[Sem.run_bind,underlying_run hks,Result.andThen_ok,Instr.findNow,Sem.run_pure]
 have hzv:(zeroValue e).run P w=.ok (.agg ⟨l⟩) w:=by
  unfold zeroValue
  simp only[Sem.run_bind,typeInfo_run hi,Result.andThen_ok,hiz,Sem.run_pure]
 simp only[Sem.run_bind,underlying_run hu,Result.andThen_ok,run_getObj_some hh,Sem.run_pure]
 simp only[show (#[]:Array MapEntry).isEmpty=true from rfl,hck,hfk,hzv,Sem.run_bind,Result.andThen_ok,Sem.run_pure]
 rfl
theorem s_strSlice (hc:Ctx w0 id ρ B w) {t:TypeId} {x:Operand} {lo hi mx:Option Operand} {s:ByteArray} {r:List SV} {l h:Int} {p:List Prop} (hu:P.underlying t=some .string) (hb:bnds s.size lo hi mx r=some (l,h,none,p)) (hp:∀ q∈p,q)
  (hv:valsRel ρ (.is (.one (.v (.string s)))::r) (a.eval x::((lo.map a.eval).toList++((hi.map a.eval).toList++(mx.map a.eval).toList)))) :
  Sound1 P id B ⟨dst,.slice t x lo hi mx,ty,pos,af,gd⟩ { val:=.is (.one (.v (.string (s.extract l.toNat h.toNat)))),pre:=p } ρ a w:=by
 have hmx:mx=none:=by
  unfold bnds at hb
  split at hb<;>simp at hb<;>rfl
 subst hmx
 obtain⟨y,ys,e1,hy,hys⟩:=hv
 simp only[List.cons.injEq] at e1
 obtain⟨ex,rfl⟩:=e1
 have hy:=rel_v hy
 subst hy
 obtain⟨g1,g2,g3,g3',g3'',g4⟩:=bnds_run (P:=P) (w:=w) (Nat.le_refl s.size) hb hp hys false
 refine sound_val hc (run_v (s:=Instr.sliceAt t (a.eval x) (lo.map a.eval) (hi.map a.eval) none) rfl ?_) ⟨rfl,rfl⟩
 rw[ex,run_sliceAt_string w t _ _ _ _ hu]
 unfold Instr.slice
 simp only[Sem.run_bind,underlying_run hu,Result.andThen_ok,Option.isSome_none,Bool.false_eq_true,if_false,Sem.run_pure]
 have g4:(Instr.sliceBounds false s.size s.size (lo.map a.eval) (hi.map a.eval) none).run P w=.ok (l.toNat,h.toNat,capOf none s.size) w:=g4
 simp only[g4,Result.andThen_ok]
theorem beq_bytes (x y:ByteArray):(x.toList==y.toList)=decide (x=y):=by
 by_cases h:x=y
 ·subst h;simp
 ·rw[decide_eq_false h]
  refine beq_eq_false_iff_ne.2 fun e=>h ?_
  rw[ByteArray.toList_eq,ByteArray.toList_eq] at e
  exact ByteArray.ext (Array.toList_inj.1 e)
theorem s_strEq (hc:Ctx w0 id ρ B w) {t t':TypeId} {x y:Operand} {s s':ByteArray} (ng:Bool) (hv:valsRel ρ [.is (.one (.v (.string s))),.is (.one (.v (.string s')))] [a.eval x,a.eval y]) :
  Sound1 P id B ⟨dst,.binOp (bif ng then .neq else .eql) t x y t',ty,pos,af,gd⟩ { val:=.is (.one (.v (.bool (bif ng then !decide (s=s') else decide (s=s'))))) } ρ a w:=by
 obtain⟨z1,z2,e1,h1,h2⟩:=valsRel_two hv
 simp only[List.cons.injEq,and_true] at e1
 obtain⟨ex,ey⟩:=e1
 have h1:=rel_v h1
 have h2:=rel_v h2
 subst h1 h2
 refine sound_val hc (run_v (s:=(do eqGuard (bif ng then .neq else .eql) t x y (a.eval x) (a.eval y);binOp (bif ng then .neq else .eql) t (a.eval x) (a.eval y))) rfl ?_) ⟨rfl,rfl⟩
 rw[ex,ey]
 cases ng<;>simp only[cond_true,cond_false,Sem.run_bind,eqGuard_at_string,binOp_string_eql,binOp_string_neq,Sem.run_pure,Result.andThen_ok,beq_bytes]
theorem xEqS_sound {t:TypeId} {ng:Bool} {cs ds:List Cell} {u v:Value} (h:xEqS P t ng cs ds=some out) (hp:∀ p∈out.pre,p) (hu:(SV.is (.agg cs)).rel ρ u) (hv:(SV.is (.agg ds)).rel ρ v) (x y:Operand) :
  ∃ r p,out={ val:=.is (.one (.v (.bool r))),pre:=p }/\(do eqGuard (bif ng then .neq else .eql) t x y u v;binOp (bif ng then .neq else .eql) t u v).run P w=.ok (.bool r) w:=by
 unfold xEqS at h
 split at h
 ·rename_i k hk
  split at h
  ·rename_i xx ps yy qs hx hy
   simp only[Option.some.injEq] at h
   subst h
   refine⟨_,_,rfl,?_⟩
   obtain⟨l1,e1,r1⟩:=hu
   obtain⟨l2,e2,r2⟩:=hv
   obtain⟨u1,u2,f1,f2,f3⟩:=pOne_rel (sees_noB ρ) _ _ _ _ _ _ hx (fun p hp'=>hp p (List.mem_append_left _ hp')) r1
   obtain⟨v1,v2,g1,g2,g3⟩:=pOne_rel (sees_noB ρ) _ _ _ _ _ _ hy (fun p hp'=>hp p (List.mem_append_right _ hp')) r2
   have f3:u2=[]:=f3
   have g3:v2=[]:=g3
   subst f3 g3
   rw[List.append_nil] at f1 g1
   subst f1 g1
   obtain⟨a1,a2,ea,ha1,ha2⟩:=f2
   obtain⟨b1,b2,eb,hb1,hb2⟩:=g2
   have ha1:a1=[.string xx.1]:=ha1
   have ha2:a2=[.int k xx.2]:=ha2
   have hb1:b1=[.string yy.1]:=hb1
   have hb2:b2=[.int k yy.2]:=hb2
   subst ha1 ha2 hb1 hb2 ea eb
   unfold strInt at hk
   split at hk
   ·rename_i fs hfs
    split at hk
    ·rename_i f g hfg
     split at hk
     ·rename_i k' hgk
      split at hk
      ·rename_i hcond
       simp only[Option.some.injEq] at hk
       subst hk
       simp only[Bool.and_eq_true,Bool.not_eq_true',bne_iff_ne,ne_eq] at hcond
       obtain⟨⟨⟨⟨⟨⟨⟨⟨c1,c2⟩,c3⟩,c4⟩,c5⟩,c6⟩,c7⟩,c8⟩,c9⟩:=hcond
       have c1:=isStr_eq c1
       have c4:=beq_true c4
       have c5:=beq_true c5
       have c6:=beq_true c6
       have c7:=beq_true c7
       have ht:P.underlying t=some (.struct (P.fieldsOf t)):=by rw[hfs];simp only[Program.fieldsOf,hfs]
       have hfl:(P.fieldsOf t).toList=[f,g]:=by simp only[Program.fieldsOf,hfs,hfg]
       have key:(Op.equalIn 10000 t (.agg ⟨[.string xx.1]++[.int k' xx.2]⟩) (.agg ⟨[.string yy.1]++[.int k' yy.2]⟩)).run P w=.ok (eqC (.pair .str (.int k')) xx yy) w:=by
        rw[show (10000:Nat)=9999+1 from rfl,run_equalIn_struct w 9999 t _ _ ht c8,hfl]
        have hA:isAggT P f.type=false:=by unfold isAggT;rw[c1]
        have hB:isAggT P g.type=false:=by unfold isAggT;rw[hgk]
        have pa:∀ (l:List Value) (x:Value),l[0]?=some x->(part f.type ⟨l⟩ f.offset).run P w=.ok x w:=by
         intro l x hx
         unfold part
         rw[c4]
         simp[isAgg_run c1,hA,hx]
        have pb:∀ (l:List Value) (x:Value),l[1]?=some x->(part g.type ⟨l⟩ g.offset).run P w=.ok x w:=by
         intro l x hx
         unfold part
         rw[c5]
         simp[isAgg_run hgk,hB,hx]
        simp only[Op.eqFields]
        rw[if_pos c2,if_pos c3]
        simp only[Sem.run_bind,pa _ _ (show ([Value.string xx.1]++[Value.int k' xx.2])[0]?=some (.string xx.1) from rfl),pa _ _ (show ([Value.string yy.1]++[Value.int k' yy.2])[0]?=some (.string yy.1) from rfl),Result.andThen_ok]
        rw[show (9999:Nat)=9998+1 from rfl,run_equalIn_string w 9998 f.type _ _ c1,beq_bytes]
        simp only[Result.andThen_ok]
        show _=Result.ok (decide (xx.1=yy.1)&&decide (xx.2=yy.2)) w
        cases decide (xx.1=yy.1)
        ·simp
        ·simp only[Bool.not_true,Bool.false_eq_true,if_false,Sem.run_bind,Bool.true_and,
          pb _ _ (show ([Value.string xx.1]++[Value.int k' xx.2])[1]?=some (.int k' xx.2) from rfl),pb _ _ (show ([Value.string yy.1]++[Value.int k' yy.2])[1]?=some (.int k' yy.2) from rfl),Result.andThen_ok]
         rw[run_equalIn_int w 9998 g.type k' k' _ _ hgk]
         simp only[Result.andThen_ok]
         have hd:(xx.2==yy.2)=decide (xx.2=yy.2):=rfl
         rw[hd]
         cases decide (xx.2=yy.2)<;>simp
       rw[e1,e2]
       cases ng with
       | true=>simp only[cond_true,Sem.run_bind,run_eqGuard_agg w _ t x y _ _ c9,Result.andThen_ok,run_neq_struct,key]
       | false=>simp only[cond_false,Sem.run_bind,run_eqGuard_agg w _ t x y _ _ c9,Result.andThen_ok,run_eql_struct,key]
      ·cases hk
     ·cases hk
    ·cases hk
   ·cases hk
  ·cases h
 ·cases h
theorem s_toStr (hc:Ctx w0 id ρ B w) {s d e:TypeId} {x:Operand} {v:SV} {m:Nat} {ys:List Int} {p:List Prop} (hs:P.underlying s=some (.slice e)) (he:P.underlying e=some (.int .u8)) (hd:P.underlying d=some .string)
  (h:srcOf B (.int .u8) v=some (m,ys,p)) (hp:∀ q∈p,q) (hv:valsRel ρ [v] [a.eval x]) :
  Sound1 P id B ⟨dst,.convert s d x,ty,pos,af,gd⟩ { val:=.is (.one (.v (.string (strOfNums ys)))),pre:=p } ρ a w:=by
 obtain⟨z,e1,hz⟩:=valsRel_one hv
 simp only[List.cons.injEq,and_true] at e1
 obtain⟨hl,news,hr,hh⟩:=srcOf_rel hc h hp hz
 refine sound_val hc (run_v (s:=convert s d (a.eval x)) rfl ?_) ⟨rfl,rfl⟩
 rw[e1]
 rcases hh with ⟨rfl,hm⟩|⟨ad,cap,rfl,hcell⟩
 ·have:ys=[]:=List.eq_nil_of_length_eq_zero (hl.trans hm)
  subst this
  rw[run_convert_bytes_nil w s e hs he 0 0 d hd]
  rfl
 ·have hn:news=ys.map (Value.int .u8):=RdL_int.1 hr
  subst hn
  have hlc:(loadCells ad m).run P w=.ok (ys.map (Value.int .u8)).toArray w:=by
   have:=run_loadCells_list (P:=P) w ad (ys.map (Value.int .u8)) (fun j v hj=>hcell j v hj)
   rw[List.length_map,hl] at this
   exact this
  rw[run_convert_bytes_string w s d e _ m cap hs he hd,run_bytesToString w _ m cap ys hlc,foldl_push_bytes]
  simp[strOfNums,ByteArray.empty,ByteArray.emptyWithCapacity]
  rfl
theorem xMore_sound (hc:Ctx w0 id ρ B w) {o:Oper} {vs:List SV} (h:xMore P o.op vs B=some out) (hp:∀ p∈out.pre,p)
  (hv:valsRel ρ vs (o.op.operands.toList.map a.eval)):Sound1 P id B o out ρ a w:=by
 obtain⟨dst,op,ty,pos,af,gd⟩:=o
 dsimp only at h hv
 unfold xMore at h
 split at h
 ·split at h
  ·simp only[ret,Option.some.injEq] at h;subst h
   exact s_makeMap hc
  ·cases h
 ·split at h
  ·rename_i k e u s hu
   split at h
   ·rename_i cs hb hz
    simp only[Option.some.injEq] at h;subst h
    simp only[Bool.and_eq_true] at hb
    exact s_lookup hc hu hb.1 hb.2 hz hv
   ·cases h
  ·cases h
 ·rename_i t x lo hi mx
  split at h
  ·rename_i s r hu
   split at h
   ·rename_i l h' p hb
    simp only[Option.some.injEq] at h;subst h
    refine s_strSlice hc hu hb hp ?_
    simp only[Op.operands] at hv
    cases lo<;>cases hi<;>cases mx<;>simpa using hv
   ·cases h
  ·cases h
 ·rename_i op t x y t'
  split at h
  ·rename_i s s'
   split at h
   ·simp only[retV,Option.some.injEq] at h;subst h
    exact s_strEq hc false hv
   ·simp only[retV,Option.some.injEq] at h;subst h
    exact s_strEq hc true hv
   ·cases h
  ·rename_i cs ds
   obtain⟨z1,z2,e1,h1,h2⟩:=valsRel_two hv
   simp only[Op.operands] at e1
   have e1:[a.eval x,a.eval y]=[z1,z2]:=e1
   simp only[List.cons.injEq,and_true] at e1
   obtain⟨ex,ey⟩:=e1
   split at h
   ·obtain⟨r,p,rfl,hr⟩:=xEqS_sound (w:=w) h hp h1 h2 x y
    exact sound_val hc (run_v rfl (by rw[ex,ey];exact hr)) (mk_v rfl)
   ·obtain⟨r,p,rfl,hr⟩:=xEqS_sound (w:=w) h hp h1 h2 x y
    exact sound_val hc (run_v rfl (by rw[ex,ey];exact hr)) (mk_v rfl)
   ·cases h
  ·cases h
 ·rename_i s d x
  split at h
  ·rename_i e v hs hd
   split at h
   ·rename_i n ys p he hsrc
    simp only[Option.some.injEq] at h;subst h
    exact s_toStr hc hs (isU8_eq he) (isStr_eq hd) hsrc hp hv
   ·cases h
  ·cases h
 ·cases h
theorem xop_sound (hc:Ctx w0 id ρ B w) {sp:FuncId->Option Spec} (hsp:SpecsOk P sp) {o:Oper} {vs:List SV} (h:xop P sp w0 id o.op vs B=some out) (hp:∀ p∈out.pre,p)
  (hv:valsRel ρ vs (o.op.operands.toList.map a.eval)):Sound1 P id B o out ρ a w:=by
 unfold xop at h
 split at h
 ·rename_i out' hx
  simp only[Option.some.injEq] at h
  subst h
  exact xMore_sound hc hx hp (norm_vals hc hv)
 ·exact xopA_sound hc hsp h hp hv
end
end Go.Eng
