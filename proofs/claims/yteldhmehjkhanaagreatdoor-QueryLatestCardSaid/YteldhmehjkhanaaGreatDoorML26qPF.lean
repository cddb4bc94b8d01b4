import Derived.Test.YteldhmehjkhanaaGreatDoorML26qPE
set_option maxRecDepth 100000
namespace Go.Eng
open Go Go.RowKit Cr
section
variable {P:Program} {w0:Base} {id:Nat} {ρ:Rho} {B:Blks} {w:World} {a:Act} {dst:Option Tmp} {ty:TypeId} {pos:String} {af:Array Edge} {gd:Option (Nat × Bool)} {out:Out}
def capOf (mx:Option Int) (cap:Nat):Nat:=match mx with
 | some m=>m.toNat
 | none=>cap
theorem bnds_run {n cap:Nat} (hcap:n<=cap) {lo hi mx:Option Operand} {r:List SV} {l h:Int} {m:Option Int} {p:List Prop} (hb:bnds n lo hi mx r=some (l,h,m,p)) (hp:∀ q∈p,q)
  (hv:valsRel ρ r ((lo.map a.eval).toList++((hi.map a.eval).toList++(mx.map a.eval).toList))) (isS:Bool) :
  0<=l/\l<=h/\h<=(n:Int)/\h<=(capOf m cap:Int)/\capOf m cap<=cap/\(Instr.sliceBounds isS n cap (lo.map a.eval) (hi.map a.eval) (mx.map a.eval)).run P w=.ok (l.toNat,h.toNat,capOf m cap) w:=by
 unfold bnds at hb
 split at hb
 ·simp at hb;obtain⟨rfl,rfl,rfl,rfl⟩:=hb
  refine⟨by omega,by omega,by omega,by simp[capOf];omega,by simp[capOf],?_⟩
  simp[Instr.sliceBounds,capOf]
 ·rename_i x k y
  simp at hb;obtain⟨rfl,rfl,rfl,rfl⟩:=hb
  simp only[Option.map_none,Option.toList_none,List.nil_append,List.append_nil,Option.map_some,Option.toList_some] at hv
  obtain⟨z,e2,hz⟩:=valsRel_one hv
  simp at e2;subst e2
  have ez:=rel_v hz
  have hh:0<=y/\y<=(n:Int):=hp _ (by simp)
  refine⟨by omega,by omega,by omega,by simp[capOf];omega,by simp[capOf],?_⟩
  simp only[Instr.sliceBounds,Option.map_none,Option.map_some,ez,Instr.sliceBound,asIntOf,Sem.run_bind,Sem.run_pure,Result.andThen_ok,Sem.run_ite,if_pos (show 0<=y/\y<=(cap:Int) from ⟨hh.1,by omega⟩)]
  rfl
 ·rename_i x k y
  simp at hb;obtain⟨rfl,rfl,rfl,rfl⟩:=hb
  simp only[Option.map_none,Option.toList_none,List.append_nil,Option.map_some,Option.toList_some] at hv
  obtain⟨z,e2,hz⟩:=valsRel_one hv
  simp at e2;subst e2
  have ez:=rel_v hz
  have hh:0<=y/\y<=(n:Int):=hp _ (by simp)
  refine⟨by omega,by omega,by omega,by simp[capOf];omega,by simp[capOf],?_⟩
  simp only[Instr.sliceBounds,Option.map_none,Option.map_some,ez,Instr.sliceBound,asIntOf,Sem.run_bind,Sem.run_pure,Result.andThen_ok,Sem.run_ite,if_pos hh]
  rfl
 ·rename_i x x' k y k' y'
  simp at hb;obtain⟨rfl,rfl,rfl,rfl⟩:=hb
  simp only[Option.map_none,Option.toList_none,List.append_nil,Option.map_some,Option.toList_some,List.cons_append,List.nil_append] at hv
  obtain⟨z,z',e2,hz,hz'⟩:=valsRel_two hv
  simp only[List.cons.injEq,and_true] at e2;obtain⟨rfl,rfl⟩:=e2
  have ez:=rel_v hz
  have ez':=rel_v hz'
  have hh:0<=y/\y<=y'/\y'<=(n:Int):=hp _ (by simp)
  refine⟨by omega,by omega,by omega,by simp[capOf];omega,by simp[capOf],?_⟩
  simp only[Instr.sliceBounds,Option.map_none,Option.map_some,ez,ez',Instr.sliceBound,asIntOf,Sem.run_bind,Sem.run_pure,Result.andThen_ok,Sem.run_ite,if_pos (show 0<=y'/\y'<=(cap:Int) from ⟨by omega,by omega⟩),if_pos (show 0<=y/\y<=(y'.toNat:Int) from ⟨by omega,by omega⟩)]
  rfl
 ·rename_i x x' k y k' y'
  simp at hb;obtain⟨rfl,rfl,rfl,rfl⟩:=hb
  simp only[Option.map_none,Option.toList_none,List.nil_append,Option.map_some,Option.toList_some,List.cons_append] at hv
  obtain⟨z,z',e2,hz,hz'⟩:=valsRel_two hv
  simp only[List.cons.injEq,and_true] at e2;obtain⟨rfl,rfl⟩:=e2
  have ez:=rel_v hz
  have ez':=rel_v hz'
  have hh:0<=y/\y<=y'/\y'<=(n:Int):=hp _ (by simp)
  refine⟨by omega,by omega,by omega,by simp[capOf];omega,by simp[capOf];omega,?_⟩
  simp only[Instr.sliceBounds,Option.map_none,Option.map_some,ez,ez',Instr.sliceBound,asIntOf,Sem.run_bind,Sem.run_pure,Result.andThen_ok,Sem.run_ite,if_pos (show 0<=y'/\y'<=(cap:Int) from ⟨by omega,by omega⟩),if_pos (show 0<=y/\y<=(y'.toNat:Int) from ⟨by omega,by omega⟩)]
  rfl
 ·rename_i x x' x'' k y k' y' k'' y''
  simp at hb;obtain⟨rfl,rfl,rfl,rfl⟩:=hb
  simp only[Option.map_some,Option.toList_some,List.cons_append,List.nil_append] at hv
  obtain⟨z,z',z'',e2,hz,hz',hz''⟩:=valsRel_three hv
  simp only[List.cons.injEq,and_true] at e2;obtain⟨rfl,rfl,rfl⟩:=e2
  have ez:=rel_v hz
  have ez':=rel_v hz'
  have ez'':=rel_v hz''
  have hh:0<=y/\y<=y'/\y'<=y''/\y''<=(n:Int):=hp _ (by simp)
  refine⟨by omega,by omega,by omega,by simp[capOf];omega,by simp[capOf];omega,?_⟩
  simp only[Instr.sliceBounds,Option.map_some,ez,ez',ez'',Instr.sliceBound,asIntOf,Sem.run_bind,Sem.run_pure,Result.andThen_ok,Sem.run_ite,if_pos (show 0<=y''/\y''<=(cap:Int) from ⟨by omega,by omega⟩),if_pos (show 0<=y'/\y'<=(y''.toNat:Int) from ⟨by omega,by omega⟩),if_pos (show 0<=y/\y<=(y'.toNat:Int) from ⟨by omega,by omega⟩)]
  rfl
 ·simp at hb
theorem RowAt_sub {e:Kd} {M:Mem} {b o l n:Nat} {xs:List (Car e)} (h:RowAt (Rd M e) (width e) M b o xs) (hl:l+n<=xs.length):RowAt (Rd M e) (width e) M b (o+l*width e) ((xs.drop l).take n):=by
 obtain⟨L,hM,hL,hR⟩:=h
 have h1:=(RdL_split (fun _ _=>Rd_len) l hR).2
 have h2:=(RdL_split (fun _ _=>Rd_len) n h1).1
 have hle:l*width e+n*width e<=xs.length*width e:=by rw[<- Nat.add_mul];exact Nat.mul_le_mul_right _ hl
 have hlen:((xs.drop l).take n).length=n:=by simp;omega
 refine⟨L,hM,by rw[hlen];omega,?_⟩
 rw[hlen]
 rw[List.drop_take,List.take_take,List.drop_drop,Nat.min_eq_left (by omega)] at h2
 exact h2
theorem s_slice (hc:Ctx w0 id ρ B w) {t:TypeId} {x:Operand} {lo hi mx:Option Operand} {vs:List SV} (hel:elemsOk P t=true) (h:xSlice P t lo hi mx vs B=some out) (hp:∀ p∈out.pre,p)
  (hv:valsRel ρ vs (a.eval x::((lo.map a.eval).toList++((hi.map a.eval).toList++(mx.map a.eval).toList)))):Sound1 P id B ⟨dst,.slice t x lo hi mx,ty,pos,af,gd⟩ out ρ a w:=by
 have ex0:execOp a.eval ⟨dst,.slice t x lo hi mx,ty,pos,af,gd⟩=(do pure (.value (<- Instr.sliceAt t (a.eval x) (lo.map a.eval) (hi.map a.eval) (mx.map a.eval)))):=rfl
 unfold xSlice at h
 split at h
 ·rename_i n e b off r hu
  obtain⟨q1,q2,q3⟩:=elemsOk_elem hel (.inl hu)
  obtain⟨ie,hie⟩:=Option.isSome_iff_exists.1 q1
  split at h
  ·rename_i c cs l h' m p hB hb
   split at h
   ·rename_i hle
    obtain⟨y,ys,e1,hy,hys⟩:=hv
    simp only[List.cons.injEq] at e1
    obtain⟨rfl,rfl⟩:=e1
    obtain⟨b',hb',ex⟩:=rel_ptr hy
    simp at h;subst h
    obtain⟨g1,g2,g3,g3',g3'',g4⟩:=bnds_run (P:=P) (w:=w) (Nat.le_refl n) hb hp hys false
    generalize capOf m n=cp at *
    obtain⟨L,hblk,hr⟩:=hc.blks _ _ hB (by simp) b' hb'
    have hsz:off+n*P.cellsOf e<=ρ.n b:=by
     have h1:=Nat.le_of_ble_eq_true hle
     have h2:=cellsRel_length hr
     have h3:=hblk.len
     omega
    have hmul:l.toNat*P.cellsOf e+(cp-l.toNat)*P.cellsOf e<=n*P.cellsOf e:=by rw[<- Nat.add_mul];exact Nat.mul_le_mul_right _ (by omega)
    by_cases hcap:cp=l.toNat
    ·refine sound_val hc (v:=.slice (some ⟨b',off,none⟩) (h'.toNat-l.toNat) (cp-l.toNat)) (run_v ex0 ?_) (.inr ⟨b',off,cp-l.toNat,hb',by omega,.inr (by omega),by rw[show cp-l.toNat=0 by omega];omega,by rw[show h'.toNat-l.toNat=(h'-l).toNat by omega]⟩)
     rw[ex]
     unfold Instr.sliceAt
     simp only[Sem.run_bind,underlying_run hu,Result.andThen_ok,Instr.sureAddr,Sem.run_pure,g4,sizeOf_run hie,if_pos hcap]
    ·refine sound_val hc (v:=.slice (some ⟨b',off+l.toNat*P.cellsOf e,none⟩) (h'.toNat-l.toNat) (cp-l.toNat)) (run_v ex0 ?_) (.inr ⟨b',_,cp-l.toNat,hb',by omega,.inl rfl,by omega,by rw[show h'.toNat-l.toNat=(h'-l).toNat by omega]⟩)
     rw[ex]
     unfold Instr.sliceAt
     simp only[Sem.run_bind,underlying_run hu,Result.andThen_ok,Instr.sureAddr,Sem.run_pure,g4,sizeOf_run hie,if_neg hcap,add_off]
   ·simp at h
  ·simp at h
 ·rename_i e b base off len c r hu
  obtain⟨q1,q2,q3⟩:=elemsOk_elem (n:=0) hel (.inr hu)
  obtain⟨ie,hie⟩:=Option.isSome_iff_exists.1 q1
  split at h
  ·rename_i l h' m p hb hcc
   have hcc:=beq_true hcc
   subst hcc
   obtain⟨y,ys,e1,hy,hys⟩:=hv
   simp only[List.cons.injEq] at e1
   obtain⟨rfl,rfl⟩:=e1
   simp at h;subst h
   rcases rel_sl hy with ⟨h0,ex⟩|⟨b',o,cap,hb',hl,ho,hsz,ex⟩
   ·obtain⟨g1,g2,g3,g3',g3'',g4⟩:=bnds_run (P:=P) (w:=w) (Nat.le_refl len) hb hp hys true
    subst h0
    have hl0:l=0:=by omega
    have hh0:h'=0:=by omega
    have hc0:capOf m 0=0:=by omega
    rw[hc0] at g4
    subst hl0 hh0
    refine sound_val hc (v:=.slice none 0 0) (run_v ex0 ?_) (.inl ⟨rfl,rfl⟩)
    rw[ex]
    unfold Instr.sliceAt Instr.slice
    simp only[Sem.run_bind,underlying_run hu,Result.andThen_ok,Sem.run_pure,g4,sizeOf_run hie,Option.map_none,ite_self]
    rfl
   ·obtain⟨g1,g2,g3,g3',g3'',g4⟩:=bnds_run (P:=P) (w:=w) hl hb hp hys true
    generalize capOf m cap=cp at *
    have hmul:l.toNat*P.cellsOf e+(cp-l.toNat)*P.cellsOf e<=cap*P.cellsOf e:=by rw[<- Nat.add_mul];exact Nat.mul_le_mul_right _ (by omega)
    by_cases hcap:cp=l.toNat
    ·refine sound_val hc (v:=.slice (some ⟨b',o,none⟩) (h'.toNat-l.toNat) (cp-l.toNat)) (run_v ex0 ?_) (.inr ⟨b',o,cp-l.toNat,hb',by omega,.inr (by omega),by rw[show cp-l.toNat=0 by omega];omega,by rw[show h'.toNat-l.toNat=(h'-l).toNat by omega]⟩)
     rw[ex]
     unfold Instr.sliceAt Instr.slice
     simp only[Sem.run_bind,underlying_run hu,Result.andThen_ok,Sem.run_pure,g4,sizeOf_run hie,if_pos hcap]
    ·refine sound_val hc (v:=.slice (some ⟨b',o+l.toNat*P.cellsOf e,none⟩) (h'.toNat-l.toNat) (cp-l.toNat)) (run_v ex0 ?_) (.inr ⟨b',o+l.toNat*P.cellsOf e,cp-l.toNat,hb',by omega,?_,by omega,by rw[show h'.toNat-l.toNat=(h'-l).toNat by omega]⟩)
     ·rw[ex]
      unfold Instr.sliceAt Instr.slice
      simp only[Sem.run_bind,underlying_run hu,Result.andThen_ok,Sem.run_pure,g4,sizeOf_run hie,if_neg hcap,Option.map_some,add_off]
     ·rcases ho with ho|ho
      ·exact .inl (by rw[ho,addN_eq,Nat.add_mul];omega)
      ·exact .inr (by omega)
  ·simp at h
 ·rename_i e e' xs r hu
  obtain⟨q1,q2,q3⟩:=elemsOk_elem (n:=0) hel (.inr hu)
  obtain⟨ie,hie⟩:=Option.isSome_iff_exists.1 q1
  split at h
  ·rename_i l h' m p hb hcc
   have hcc:=beq_true hcc
   obtain⟨y,ys,e1,hy,hys⟩:=hv
   simp only[List.cons.injEq] at e1
   obtain⟨rfl,rfl⟩:=e1
   simp at h;subst h
   rcases rel_ro hy with ⟨h0,ad,cap,ex,hz⟩|⟨b',o,cap,ex,hl,hrow⟩
   ·subst h0
    obtain⟨g1,g2,g3,g3',g3'',g4⟩:=bnds_run (P:=P) (w:=w) (Nat.zero_le cap) hb hp hys true
    generalize capOf m cap=cp at *
    have hl0:l=0:=by simp at g3;omega
    have hh0:h'=0:=by simp at g3;omega
    subst hl0 hh0
    have hv0:∃ ad',(if cp=(0:Int).toNat then ad else ad.map (·.add ((0:Int).toNat*P.cellsOf e)))=ad'/\(ad'=none->cp-0=0):=by
     refine⟨_,rfl,fun h=>?_⟩
     split at h
     ·simp_all
     ·have:ad=none:=by simpa using h
      have:=hz this;omega
    obtain⟨ad',hv1,hv2⟩:=hv0
    refine sound_val hc (v:=.slice ad' 0 (cp-0)) (run_v ex0 ?_) (.inl ⟨by simp,ad',cp-0,rfl,hv2⟩)
    rw[ex]
    unfold Instr.sliceAt Instr.slice
    simp only[Sem.run_bind,underlying_run hu,Result.andThen_ok,Sem.run_pure]
    simp only[g4,Result.andThen_ok,sizeOf_run hie,hv1]
    rfl
   ·obtain⟨g1,g2,g3,g3',g3'',g4⟩:=bnds_run (P:=P) (w:=w) hl hb hp hys true
    generalize capOf m cap=cp at *
    have hlen:((xs.drop l.toNat).take (h'-l).toNat).length=(h'-l).toNat:=by simp;omega
    have hlen2:h'.toNat-l.toNat=(h'-l).toNat:=by omega
    have hrow':=RowAt_sub (l:=l.toNat) (n:=(h'-l).toNat) hrow (by omega)
    by_cases hcap:cp=l.toNat
    ·refine sound_val hc (v:=.slice (some ⟨b',o,none⟩) (h'.toNat-l.toNat) (cp-l.toNat)) (run_v ex0 ?_) (.inl ⟨List.eq_nil_of_length_eq_zero (by rw[hlen];omega),_,cp-l.toNat,by rw[show h'.toNat-l.toNat=0 by omega],fun h=>by cases h⟩)
     rw[ex]
     unfold Instr.sliceAt Instr.slice
     simp only[Sem.run_bind,underlying_run hu,Result.andThen_ok,Sem.run_pure,g4,sizeOf_run hie,if_pos hcap]
    ·refine sound_val hc (v:=.slice (some ⟨b',o+l.toNat*P.cellsOf e,none⟩) (h'.toNat-l.toNat) (cp-l.toNat)) (run_v ex0 ?_) (.inr ⟨b',_,cp-l.toNat,by rw[hlen,hlen2],by rw[hlen];omega,by rw[<- hcc];exact hrow'⟩)
     rw[ex]
     unfold Instr.sliceAt Instr.slice
     simp only[Sem.run_bind,underlying_run hu,Result.andThen_ok,Sem.run_pure,g4,sizeOf_run hie,if_neg hcap,Option.map_some,add_off]
  ·simp at h
 ·simp at h
theorem s_len (hc:Ctx w0 id ρ B w) {ts:Array TypeId} {args:Array Operand} {vs:List SV} (h:xLen P ts vs=some out) (hv:valsRel ρ vs (args.toList.map a.eval)):Sound1 P id B ⟨dst,.call ⟨.builtin .len,args,ts⟩,ty,pos,af,gd⟩ out ρ a w:=by
 have ex:execOp a.eval ⟨dst,.call ⟨.builtin .len,args,ts⟩,ty,pos,af,gd⟩=(do pure (.value (<- Builtin.len_ ts ty (args.map a.eval)))):=rfl
 have h0:∀ y,args.toList.map a.eval=[y]->(args.map a.eval)[0]?=some y:=by
  intro y h1
  have:=congrArg (fun l:List Value=>l[0]?) h1
  simpa using this
 have key:∀ (y:Value) (n:Nat) (e t:TypeId),args.toList.map a.eval=[y]->ts[0]?=some t->P.underlying t=some (.slice e)->(∃ p c,y=.slice p n c) ->
   (Builtin.len_ ts ty (args.map a.eval)).run P w=.ok (.int .i64 n) w:=by
  intro y n e t h1 h2 h3 ⟨p,c,hy⟩
  unfold Builtin.len_
  simp only[h2,h0 y h1]
  simp only[Sem.run_bind,underlying_run h3,Result.andThen_ok,hy,Sem.run_pure]
  rfl
 have fin:∀ (y:Value) (n:Nat) (e:TypeId),(ts[0]?).bind P.underlying=some (.slice e)->args.toList.map a.eval=[y]->(∃ p c,y=.slice p n c)->∀ p,Sound1 P id B ⟨dst,.call ⟨.builtin .len,args,ts⟩,ty,pos,af,gd⟩ { val:=.is (.one (.v (.int .i64 n))),pre:=p } ρ a w:=by
  intro y n e hu e1 ey p
  cases ht:ts[0]? with
  | none=>simp[ht] at hu
  | some t =>
   simp[ht] at hu
   exact sound_val hc (run_v ex (key y n e t e1 ht hu ey)) (mk_v rfl)
 unfold xLen at h
 split at h
 ·rename_i e i base off n c hu
  obtain⟨y,e1,hy⟩:=valsRel_one hv
  simp[retV] at h;subst h
  refine fin y n e hu e1 ?_ _
  rcases rel_sl hy with ⟨rfl,ey⟩|⟨b',o,cap,hb,hl,ho,_,ey⟩
  ·exact⟨_,_,ey⟩
  ·exact⟨_,_,ey⟩
 ·rename_i e e' xs hu
  obtain⟨y,e1,hy⟩:=valsRel_one hv
  simp[retV] at h;subst h
  refine fin y xs.length e hu e1 ?_ _
  rcases rel_ro hy with ⟨rfl,a,cap,ey,_⟩|⟨b',o,cap,ey,_⟩
  ·exact⟨_,_,ey⟩
  ·exact⟨_,_,ey⟩
 ·rename_i e hu
  obtain⟨y,e1,hy⟩:=valsRel_one hv
  simp[retV] at h;subst h
  exact fin y 0 e hu e1 ⟨_,_,rel_v hy⟩ _
 ·rename_i s hu
  obtain⟨y,e1,hy⟩:=valsRel_one hv
  have ey:=rel_v hy
  simp[retV] at h;subst h
  cases ht:ts[0]? with
  | none=>simp[ht] at hu
  | some t =>
   simp[ht] at hu
   refine sound_val hc (run_v ex ?_) (mk_v rfl)
   unfold Builtin.len_
   simp only[ht,h0 y e1]
   simp only[Sem.run_bind,underlying_run hu,Result.andThen_ok,ey,Sem.run_pure]
   rfl
 ·simp at h
theorem elemKd_spec {e:TypeId} {κ:Kd} (h:elemKd P e=some κ) :
  ∃ i z,P.info? e=some i/\i.zero=some z/\z.cells.toList=zeroVals κ/\i.size=width κ/\width κ=P.cellsOf e/\0<width κ/\i.bytes=bytesOf P e/\zk κ=true:=by
 unfold elemKd at h
 split at h
 ·rename_i d str sz by_ hp al fa z cm ms κ' hi hk
  split at h
  ·rename_i hb
   simp at h;subst h
   simp only[Bool.and_eq_true] at hb
   have hw:=beq_true hb.1.2
   refine⟨_,z,hi,rfl,isZeroVals_eq hb.1.1.1,?_,hw,blt_true hb.2,by simp[bytesOf,hi],hb.1.1.2⟩
   rw[hw];simp[Program.cellsOf,hi]
  ·simp at h
 ·simp at h
theorem zeroVals_len {κ:Kd} (hz:zk κ=true):(zeroVals κ).length=width κ:=Rd_len (M:=fun _=>none) (Rd_zero hz)
theorem rep_zero {κ:Kd} (hz:zk κ=true):∀ n,RdL (Rd ρ.M κ) (List.replicate n (zeroOf κ)) (rep n (zeroVals κ)):=by
 intro n
 induction n with
 | zero=>exact rfl
 | succ n ih=>exact⟨_,_,rfl,Rd_zero hz,ih⟩
theorem s_make (hc:Ctx w0 id ρ B w) {t:TypeId} {x y:Operand} {vs:List SV} (h:xMake P id t vs=some out) (hp:∀ p∈out.pre,p) (hv:valsRel ρ vs [a.eval x,a.eval y]):Sound1 P id B ⟨dst,.makeSlice t x y,ty,pos,af,gd⟩ out ρ a w:=by
 unfold xMake at h
 split at h
 ·rename_i e kl l kc c hu
  obtain⟨z1,z2,e1,hz1,hz2⟩:=valsRel_two hv
  simp only[List.cons.injEq,and_true] at e1;obtain⟨rfl,rfl⟩:=e1
  have ex:=rel_v hz1
  have ey:=rel_v hz2
  split at h
  ·rename_i κ hel
   simp at h;subst h
   obtain⟨i,z,hi,hz,hzc,hsz,hm,hm0,hby,hzk⟩:=elemKd_spec hel
   obtain⟨h0,hlc,hb,h63⟩:0<=l/\l<=c/\(bytesOf P e:Int)*c<=281474976710656/\c<=9223372036854775807:=hp _ (by simp)
   have hr:=run_make (P:=P) w t e i z hu hi hz kl kc l c h0 hlc (by rw[hby];exact hb) h63
   have hcells:madeCells z.cells (c.toNat*i.size)=⟨rep c.toNat (zeroVals κ)⟩:=by
    have h1:=rep_range z.cells.toList (by rw[hzc];intro h;have:=congrArg List.length h;rw[zeroVals_len hzk] at this;simp at this;omega) c.toNat
    rw[hzc,zeroVals_len hzk] at h1
    rw[<- h1,hsz]
    unfold madeCells
    have:z.cells=⟨zeroVals κ⟩:=by rw[<- hzc]
    rw[this]
   rw[hcells] at hr
   refine sound_alloc hc (l:=rep c.toNat (zeroVals κ)) (t:=e) (run_v rfl (by rw[ex,ey];exact hr)) (cellsRel_one1 (mkRow_rel (by simp) (rep_zero hzk _))) (fun ρ' h hn=>.inr ⟨_,0,c.toNat,h,by omega,.inl (by simp),by rw[hn,rep_length,zeroVals_len hzk];omega,rfl⟩)
  ·simp at h
 ·simp at h
theorem srcOf_rel (hc:Ctx w0 id ρ B w) {κ:Kd} {v:SV} {m:Nat} {ys:List (Car κ)} {p:List Prop} {u:Value} (h:srcOf B κ v=some (m,ys,p)) (hp:∀ q∈p,q) (hv:v.rel ρ u) :
  ys.length=m/\∃ news,RdL (Rd ρ.M κ) ys news/\((u=.slice none 0 0/\m=0)\/∃ ad cap,u=.slice (some ad) m cap/\∀ j x,news[j]?=some x->w.cell? (ad.add j)=some x):=by
 have own:∀ (i base off c:Nat) (d:Cell) (ds:List Cell),B i=some (d::ds)->(∀ l,cellsRel ρ (d::ds) l->ys.length=m/\c=width κ/\base+off*c+m*c<=l.length/\RdL (Rd ρ.M κ) ys ((l.drop (base+off*c)).take (m*c)))->(m=0->ys=[]) ->
   (SV.is (.one (.sl i base off m c))).rel ρ u->ys.length=m/\∃ news,RdL (Rd ρ.M κ) ys news/\((u=.slice none 0 0/\m=0)\/∃ ad cap,u=.slice (some ad) m cap/\∀ j x,news[j]?=some x->w.cell? (ad.add j)=some x):=by
  intro i base off c d ds hB hx h0 hv
  rcases rel_sl hv with ⟨hm,ex⟩|⟨b',o,cap,hb',hl,ho,hsz,ex⟩
  ·have:=h0 hm
   subst hm this
   exact⟨rfl,[],rfl,.inl ⟨ex,rfl⟩⟩
  ·obtain⟨l,hblk,hr⟩:=hc.blks _ _ hB (by simp) b' hb'
   obtain⟨k1,k2,k3,k4⟩:=hx l hr
   refine⟨k1,_,k4,.inr ⟨_,_,ex,fun j x hj=>?_⟩⟩
   have hjl:j<m*c:=by
    have:=(List.getElem?_eq_some_iff.1 hj).1
    simp at this;omega
   have hm0:0<m:=by
    rcases Nat.eq_zero_or_pos m with h|h
    ·subst h;simp at hjl
    ·exact h
   have ho:o=base+off*c:=by
    rcases ho with ho|ho
    ·exact ho
    ·omega
   subst ho
   rw[add_off]
   refine hblk.cell ?_
   rw[List.getElem?_take] at hj
   simpa[hjl] using hj
 unfold srcOf at h
 split at h
 ·rename_i i base off m' c
  split at h
  ·rename_i d ds hB
   split at h
   ·rename_i xs q hq
    simp only[Option.some.injEq,Prod.mk.injEq] at h
    obtain⟨rfl,rfl,rfl⟩:=h
    refine own i base off c d ds hB (fun l hl=>slRow_rel hq hp hl) (fun hm=>?_) hv
    subst hm
    unfold slRow at hq
    split at hq
    ·split at hq
     ·simp only[Option.some.injEq,Prod.mk.injEq] at hq
      rw[<- hq.1];simp
     ·simp at hq
    ·simp at hq
   ·split at h
    ·rename_i xs q hq
     simp only[Option.some.injEq,Prod.mk.injEq] at h
     obtain⟨rfl,rfl,rfl⟩:=h
     refine own i base off c d ds hB (fun l hl=>slRaw_rel (R:=Rd ρ.M κ) (fun _ _=>Rd_len) (fun cs x ps r l=>pOne_rel (sees_noB ρ) κ cs x ps r l) hq hp hl) (fun hm=>?_) hv
     subst hm
     unfold slRaw at hq
     split at hq
     ·split at hq
      ·rename_i hq2
       simp only[pN,Option.some.injEq,Prod.mk.injEq] at hq hq2
       rw[<- hq.1,<- hq2.1]
      ·simp at hq
     ·simp at hq
    ·simp at h
  ·simp at h
 ·rename_i e xs
  split at h
  ·rename_i he _
   subst he
   simp only[Option.some.injEq,Prod.mk.injEq,castL_rfl] at h
   obtain⟨rfl,rfl,rfl⟩:=h
   rcases rel_ro hv with ⟨rfl,ad,cap,ex,hz⟩|⟨b',o,cap,ex,hl,L,hM,hL,hR⟩
   ·refine⟨rfl,[],rfl,?_⟩
    cases ad with
    | none=>rw[hz rfl] at ex;exact .inl ⟨ex,rfl⟩
    | some ad=>exact .inr ⟨ad,cap,ex,fun j x hj=>by simp at hj⟩
   ·refine⟨rfl,_,hR,.inr ⟨_,_,ex,fun j x hj=>?_⟩⟩
    rw[add_off]
    refine ro_cell hc hM ?_
    rw[List.getElem?_take] at hj
    split at hj
    ·simpa using hj
    ·cases hj
  ·simp at h
 ·simp only[Option.some.injEq,Prod.mk.injEq] at h
  obtain⟨rfl,rfl,rfl⟩:=h
  exact⟨rfl,[],rfl,.inl ⟨rel_v hv,rfl⟩⟩
 ·simp at h
theorem BlkAt.full {b N:Nat} {l:List Value} (h:BlkAt w b N l):∃ L,BlkAt w b N L/\L.length=N/\∃ r,L=l++r:=by
 obtain⟨rest,el,fr,h1,h2,h3⟩:=h
 exact⟨l++rest,⟨[],el,fr,by simpa using h1,by simpa using h2,h3⟩,h2,rest,rfl⟩
theorem BlkAt.pre {b N:Nat} {l r:List Value} (h:BlkAt w b N (l++r)):BlkAt w b N l:=by
 obtain⟨rest,el,fr,h1,h2,h3⟩:=h
 exact⟨r++rest,el,fr,by simpa using h1,by simpa using h2,h3⟩
theorem run_append_any {t ty e:TypeId} {i:TypeInfo} {z:Value} (ht:P.underlying t=some (.slice e)) (hi:P.info? e=some i) (hz:i.zero=some z) (hzs:z.cells.size=i.size)
  {y u:Value} {len m:Nat} {olds news:List Value}
  (hy:(y=.slice none 0 0/\len=0/\olds=[])\/∃ b o cap N L,y=.slice (some ⟨b,o,none⟩) len cap/\len<=cap/\(o=0\/cap=0)/\o+cap*i.size<=N/\BlkAt w b N L/\len*i.size<=L.length/\olds=L.take (len*i.size))
  (hu:(u=.slice none 0 0/\m=0)\/∃ ad cap,u=.slice (some ad) m cap/\∀ j x,news[j]?=some x->w.cell? (ad.add j)=some x)
  (hl:news.length=m*i.size) (hone:∀ x∈news,x.oneCell'=true) (hb:(len+m)*i.bytes<=140737488355328) (h63:len+m<=4611686018427387904) :
  (y=.slice none 0 0/\m=0/\(Builtin.append_ #[t,t] ty #[y,u]).run P w=.ok (.slice none 0 0) w) \/
  (∃ b o cap N L w',y=.slice (some ⟨b,o,none⟩) len cap/\len+m<=cap/\(o=0\/cap=0)/\BlkAt w b N L/\(Builtin.append_ #[t,t] ty #[y,u]).run P w=.ok (.slice (some ⟨b,o,none⟩) (len+m) cap) w' /\
   BlkAt w' b N (olds++news)/\w'.heap.size=w.heap.size/\(∀ b',b'≠b->w'.heap[b']?=w.heap[b']?)/\w'.os=w.os/\w'.tape=w.tape/\w'.output=w.output) \/
  (∃ ncap rest,len+m<=ncap/\(olds++news++rest).length=ncap*i.size /\
   (Builtin.append_ #[t,t] ty #[y,u]).run P w=.ok (.slice (some ⟨w.heap.size,0,none⟩) (len+m) ncap) (w.drew.alloc (.cells ⟨olds++news++rest⟩ e))):=by
 have hlu:Builtin.lenOf u=pure m:=by
  rcases hu with ⟨rfl,rfl⟩|⟨ad,cap,rfl,_⟩<;>rfl
 have hf:(Builtin.firstCells i.size m u).run P w=.ok news.toArray w:=by
  rcases hu with ⟨rfl,rfl⟩|⟨ad,cap,rfl,h⟩
  ·have:news=[]:=List.eq_nil_of_length_eq_zero (by simpa using hl)
   subst this
   exact run_firstCells_none w _ _ _ _
  ·exact run_firstCells_some w i.size m ad m cap news hl h
 rcases hy with ⟨rfl,rfl,rfl⟩|⟨b,o,cap,N,L,rfl,hcap,ho,hN,hblk,hL,rfl⟩
 ·by_cases hm:m=0
  ·subst hm
   refine .inl ⟨rfl,rfl,?_⟩
   simp[Builtin.append_,run_underlying ht,sizeOf,typeInfo,hi,hlu,hf]
  ·rcases hu with ⟨_,h0⟩|⟨ad,cap,rfl,h⟩
   ·exact absurd h0 hm
   have hge:=grownCap_ge w m 0 e
   refine .inr (.inr ⟨grownCap w m 0 e,(Builtin.zeroCells z.cells (grownCap w m 0 e-m)).toList,by omega,?_,?_⟩)
   ·simp only[List.nil_append,List.length_append,Array.length_toList,size_zeroCells,hzs,hl,<- Nat.add_mul]
    congr 1;omega
   ·rw[run_append_nil (P:=P) w t ty e i z ht hi hz ad m cap news hl h (by omega) (by omega) (by rw[Nat.zero_add] at hb;omega)]
    rw[Nat.zero_add]
    congr 3
    apply Array.ext';simp
 ·by_cases hroom:len+m<=cap
  ·refine .inr (.inl ?_)
   have hmul:len*i.size+news.length<=cap*i.size:=by rw[hl,<- Nat.add_mul];exact Nat.mul_le_mul_right _ hroom
   have hst:∃ w',(storeCells ⟨b,o+len*i.size,none⟩ news).run P w=.ok () w'/\BlkAt w' b N (L.take (len*i.size)++news)/\w'.heap.size=w.heap.size/\(∀ b',b'≠b->w'.heap[b']?=w.heap[b']?)/\w'.os=w.os/\w'.tape=w.tape/\w'.output=w.output:=by
    by_cases hc0:cap=0
    ·have h1:len=0:=by omega
     have h2:m=0:=by omega
     subst h1 h2
     have:news=[]:=List.eq_nil_of_length_eq_zero (by simpa using hl)
     subst this
     exact⟨w,by simp[storeCells],by simpa using BlkAt.pre (l:=[]) hblk,rfl,fun _ _=>rfl,rfl,rfl,rfl⟩
    ·have ho:o=0:=by
      rcases ho with h|h
      ·exact h
      ·exact absurd h hc0
     subst ho
     obtain⟨L',hf1,hf2,r,hf3⟩:=hblk.full
     obtain⟨w',g1,g2,g3⟩:=run_storeCells_blk (P:=P) (b:=b) (off:=0+len*i.size) news 0 w L' hf1 (by omega) hone
     refine⟨w',g1,?_,g3⟩
     have e1:L'.take (0+len*i.size+0)=L.take (len*i.size):=by
      rw[hf3,Nat.add_zero,Nat.zero_add,List.take_append_of_le_length hL]
     rw[e1,<- List.append_assoc] at g2
     exact BlkAt.pre g2
   obtain⟨w',g1,g2,g3,g4,g5,g6,g7⟩:=hst
   refine⟨b,o,cap,N,L,w',rfl,hroom,ho,hblk,?_,g2,g3,g4,g5,g6,g7⟩
   simp[Builtin.append_,run_underlying ht,sizeOf,typeInfo,hi,hlu,hroom,hf,add_off,g1]
  ·rcases hu with ⟨_,h0⟩|⟨ad,cap',rfl,h⟩
   ·omega
   have hge:=grownCap_ge w (len+m) cap e
   have hol:(L.take (len*i.size)).length=len*i.size:=by simp;omega
   refine .inr (.inr ⟨grownCap w (len+m) cap e,(Builtin.zeroCells z.cells (grownCap w (len+m) cap e-(len+m))).toList,hge,?_,?_⟩)
   ·simp only[List.length_append,hol,Array.length_toList,size_zeroCells,hzs,hl,<- Nat.add_mul]
    congr 1;omega
   ·rw[run_append_grow (P:=P) w t ty e i z ht hi hz ⟨b,o,none⟩ len cap (L.take (len*i.size)) hol (fun j v hj=>?_) ad m cap' news hl h (by omega) (by omega) (growslice_fits (by omega) hb)]
    ·congr 3
     apply Array.ext';simp
    ·have hjl:j<len*i.size:=by
      have:=(List.getElem?_eq_some_iff.1 hj).1
      rw[hol] at this;exact this
     have ho:o=0:=by
      rcases ho with h|h
      ·exact h
      ·have:len=0:=by omega
       subst this;simp at hjl
     subst ho
     rw[add_off,Nat.zero_add]
     refine hblk.cell ?_
     rw[List.getElem?_take] at hj
     simpa[hjl] using hj
theorem eff_new (hc:Ctx w0 id ρ B w) {wr:List (Nat × List Cell)} {b n:Nat} {cs:List Cell} {l:List Value} {w':World} (x:SV) (p:List Prop) (hb:w.heap.size<=b\/∃ q∈wr,ρ q.1=some b/\q.2=[])
  (h1:w'.os=w.os) (h2:w'.tape=w.tape) (h3:w'.output=w.output) (hsize:w.heap.size<=w'.heap.size) (hsame:∀ b',b'<w.heap.size->(∀ p∈wr,ρ p.1≠some b')->w'.heap[b']?=w.heap[b']?)
  (hblk:BlkAt w' b n l) (hr:cellsRel ρ cs l) (hwu:∀ p∈wr,∀ q∈wr,p.1=q.1->p=q) (hwr:∀ p∈wr,(∃ cs,B p.1=some cs/\cs≠[])/\p.2=[]) :
  Eff id B { val:=x,new:=[(id,cs)],wr:=wr,pre:=p } ρ (ρ.push id b n) w w':=by
 have hle:Rho.le ρ (ρ.push id b n):=Rho.push_le (hc.free id (Nat.le_refl _) (by omega))
 refine⟨hle,?_,?_,h1,h2,h3,hsize,hsame,?_,?_,hwu,fun p hp=>⟨(hwr p hp).1,fun _ _ h=>absurd (hwr p hp).2 h⟩,fun _ _ h=>.inl h⟩
 ·intro i b' h
  by_cases e:i=id
  ·subst e;rw[Rho.push_self] at h;simp at h;subst h
   refine .inr ⟨Nat.le_refl _,by omega,⟨(i,cs),by simp,rfl⟩,?_⟩
   rcases hb with hb|⟨q,hq,hq1,_⟩
   ·exact .inl hb
   ·exact .inr ⟨q,hq,hq1⟩
  ·rw[Rho.push_ne e] at h;exact .inl h
 ·intro i b' h
  by_cases e:i=id
  ·subst e;rw[Rho.push_self] at h;simp at h;subst h;exact hblk.lt
  ·rw[Rho.push_ne e] at h;have:=hc.bound i b' h;omega
 ·intro p hp
  simp at hp
  subst hp
  refine⟨Nat.le_refl _,by show id<id+8;omega,fun b' hb' _=>?_⟩
  rw[Rho.push_self] at hb';simp at hb';subst hb'
  exact⟨hb,l,by rw[Rho.push_n];exact hblk,cellsRel_mono hle hr⟩
 ·intro p hp q hq _ _ _
  simp at hp hq
  rw[hp,hq]
theorem eff_none (hc:Ctx w0 id ρ B w) {wr:List (Nat × List Cell)} {cs:List Cell} (x:SV) (p:List Prop) (hwu:∀ p∈wr,∀ q∈wr,p.1=q.1->p=q) (hwr:∀ p∈wr,(∃ cs,B p.1=some cs/\cs≠[])/\p.2=[]) :
  Eff id B { val:=x,new:=[(id,cs)],wr:=wr,pre:=p } ρ ρ w w:=by
 have hfree:=hc.free id (Nat.le_refl _) (by omega)
 refine⟨Rho.le_refl _,fun _ _ h=>.inl h,hc.bound,rfl,rfl,rfl,Nat.le_refl _,fun _ _ _=>rfl,?_,?_,hwu,fun p hp=>⟨(hwr p hp).1,fun _ _ h=>absurd (hwr p hp).2 h⟩,fun _ _ h=>.inl h⟩
 ·intro p hp
  simp at hp
  subst hp
  exact⟨Nat.le_refl _,by show id<id+8;omega,fun b hb _=>by rw[show ρ (id,cs).1=none from hfree] at hb;cases hb⟩
 ·intro p hp q hq _ _ _
  simp at hp hq
  rw[hp,hq]
theorem BlkAt.size_eq {b N N':Nat} {L L':List Value} (h:BlkAt w b N L) (h':BlkAt w b N' L'):N=N':=by
 obtain⟨r,el,fr,h1,h2,_⟩:=h
 obtain⟨r',el',fr',h1',h2',_⟩:=h'
 rw[h1] at h1'
 simp only[Option.some.injEq,Obj.cells.injEq,Array.mk.injEq] at h1'
 rw[<- h2,<- h2',h1'.1]
theorem blk_drew (w:World) (l r:List Value) (e:TypeId):BlkAt (w.drew.alloc (.cells ⟨l++r⟩ e)) w.heap.size (l++r).length l:=by
 refine⟨r,e,(0,0),?_,rfl,.inl rfl⟩
 show (w.heap.push _)[w.heap.size]?=_
 simp
theorem s_append (hc:Ctx w0 id ρ B w) {ts:Array TypeId} {args:Array Operand} {vs:List SV} (h:xAppend P id ts vs B=some out) (hp:∀ p∈out.pre,p) (hv:valsRel ρ vs (args.toList.map a.eval)):Sound1 P id B ⟨dst,.call ⟨.builtin .append,args,ts⟩,ty,pos,af,gd⟩ out ρ a w:=by
 have ex:execOp a.eval ⟨dst,.call ⟨.builtin .append,args,ts⟩,ty,pos,af,gd⟩=(do pure (.value (<- Builtin.append_ ts ty (args.map a.eval)))):=rfl
 have hfree:=hc.free id (Nat.le_refl _) (by omega)
 unfold xAppend at h
 split at h
 ·rename_i t t' d x hts
  split at h
  ·rename_i e htt hu
   have htt:=beq_true htt
   subst htt
   have hts:ts=#[t,t]:=by rw[<- Array.toArray_toList (xs:=ts),hts]
   subst hts
   obtain⟨y,u,e1,hy,hu2⟩:=valsRel_two hv
   have hargs:args.map a.eval=#[y,u]:=by
    apply Array.ext';simpa using e1
   rw[hargs] at ex
   split at h
   ·rename_i κ hel
    obtain⟨i,z,hi,hz,hzc,hsz,hm,hm0,hby,hzk⟩:=elemKd_spec hel
    have hzs:z.cells.size=i.size:=by
     rw[<- Array.length_toList,hzc,hsz,zeroVals_len hzk]
    split at h
    ·rename_i m ys p i0 len c hsrc
     split at h
     ·rename_i c0 hB hcc
      have hcc:=beq_true hcc
      subst hcc
      split at h
      ·rename_i e' n xs hrow
       split at h
       ·rename_i he _
        subst he
        simp only[castL_rfl,Option.some.injEq] at h;subst h
        have hp1:len<=n:=hp _ (by simp)
        have hp3:(len+m)*bytesOf P e<=140737488355328:=hp _ (by simp)
        have hp4:len+m<=4611686018427387904:=hp _ (by simp)
        obtain⟨hyl,news,hnews,hsrc⟩:=srcOf_rel hc hsrc (fun q hq=>hp q (by simp[hq])) hu2
        have hnl:news.length=m*i.size:=by rw[RdL_len (fun _ _=>Rd_len) hnews,hyl,hsz]
        have hy':=rel_sl hy
        have hcond:∃ olds,RdL (Rd ρ.M e') (xs.take len) olds/\(xs.take len).length=len/\((y=.slice none 0 0/\len=0/\olds=[])\/∃ b o cap N L,y=.slice (some ⟨b,o,none⟩) len cap/\len<=cap/\(o=0\/cap=0)/\o+cap*i.size<=N/\BlkAt w b N L/\len*i.size<=L.length/\olds=L.take (len*i.size)):=by
         rcases hy' with ⟨h0,ey⟩|⟨b,o,cap,hb,hl,ho,hn,ey⟩
         ·subst h0;exact⟨[],rfl,rfl,.inl ⟨ey,rfl,rfl⟩⟩
         ·obtain⟨l,hblk,hr⟩:=hc.blks _ _ hB (by simp) b hb
          obtain⟨k1,k2,k3⟩:=asRow_rel hrow (cellsRel_one1_inv hr)
          simp only at k1 k2 k3
          have hll:=RdL_len (fun _ _=>Rd_len) k2
          have hle:len*width e'<=l.length:=by rw[hll];exact Nat.mul_le_mul_right _ (by omega)
          exact⟨_,(RdL_split (fun _ _=>Rd_len) len k2).1,by simp;omega,.inr ⟨b,o,cap,ρ.n i0,l,ey,hl,by simpa using ho,by rw[hsz];exact hn,hblk,by rw[hsz];exact hle,by rw[hsz]⟩⟩
        obtain⟨olds,holds,hxl,hcond⟩:=hcond
        have hap:=run_append_any (P:=P) (w:=w) (ty:=ty) hu hi hz hzs hcond hsrc hnl (RdL_all (fun _ _=>Rd_one) hnews) (by rw[hby];exact hp3) hp4
        have hrel:cellsRel ρ [mkRow e' (len+m) (xs.take len++ys)] (olds++news):=cellsRel_one1 (mkRow_rel (by rw[List.length_append,hxl,hyl]) (RdL_append holds hnews))
        have hwu:∀ p∈[(i0,([]:List Cell))],∀ q∈[(i0,([]:List Cell))],p.1=q.1->p=q:=by
         intro p hp q hq _;simp at hp hq;rw[hp,hq]
        have hwr:∀ p∈[(i0,([]:List Cell))],(∃ cs,B p.1=some cs/\cs≠[])/\p.2=[]:=by
         intro p hp;simp at hp;subst hp;exact⟨⟨_,hB,by simp⟩,rfl⟩
        intro next Q hn
        unfold Oper.wp
        rcases hap with ⟨ey,hm0',hrun⟩|⟨b,o,cap,N,L,w',ey,hcap,ho,hblk,hrun,g2,g3,g4,g5,g6,g7⟩|⟨ncap,rest,hge,hlen,hrun⟩
        ·rw[run_v ex hrun]
         refine hn _ _ ρ (.inl ⟨?_,rfl⟩) (eff_none hc _ _ hwu hwr)
         rcases hy' with ⟨h0,_⟩|⟨b,o,cap,hb,hl,ho,hn',ey'⟩
         ·omega
         ·rw[ey] at ey';cases ey'
        ·rw[run_v ex hrun]
         rcases hy' with ⟨h0,ey'⟩|⟨b',o',cap',hb,hl,ho',hn',ey'⟩
         ·rw[ey] at ey';cases ey'
         ·rw[ey] at ey'
          simp only[Value.slice.injEq,Option.some.injEq,Addr.mk.injEq,and_true,true_and] at ey'
          obtain⟨⟨rfl,rfl⟩,rfl⟩:=ey'
          obtain⟨l,hblk',hr'⟩:=hc.blks _ _ hB (by simp) b hb
          have hNN:=hblk.size_eq hblk'
          subst hNN
          refine hn _ _ (ρ.push id b (ρ.n i0)) (.inr ⟨b,o,cap,Rho.push_self,hcap,by simpa using ho',by rw[Rho.push_n];exact hn',rfl⟩)
           (eff_new hc _ _ (.inr ⟨(i0,[]),by simp,hb,rfl⟩) g5 g6 g7 (by omega) (fun b' _ hne=>g4 b' (fun e=>by subst e;exact hne (i0,[]) (by simp) hb)) g2 hrel hwu hwr)
        ·rw[run_v ex hrun]
         rw[hsz] at hlen
         have hb2:=blk_drew w (olds++news) rest e
         refine hn _ _ (ρ.push id w.heap.size (ncap*width e')) (.inr ⟨w.heap.size,0,ncap,Rho.push_self,hge,.inl (by simp),by rw[Rho.push_n];omega,rfl⟩)
          (eff_new hc _ _ (.inl (Nat.le_refl _)) rfl rfl rfl (by simp) (fun b' hb' _=>Below.heap_alloc w.drew _ b' hb') (by rw[<- hlen];exact hb2) hrel hwu hwr)
       ·simp at h
      ·simp at h
     ·simp at h
    ·rename_i m ys p hsrc
     simp only[Option.some.injEq] at h;subst h
     have hp3:m*bytesOf P e<=140737488355328:=hp _ (by simp)
     have hp4:m<=4611686018427387904:=hp _ (by simp)
     obtain⟨hyl,news,hnews,hsrc⟩:=srcOf_rel hc hsrc (fun q hq=>hp q (by simp[hq])) hu2
     have hnl:news.length=m*i.size:=by rw[RdL_len (fun _ _=>Rd_len) hnews,hyl,hsz]
     have ey:=rel_v hy
     have hap:=run_append_any (P:=P) (w:=w) (ty:=ty) (len:=0) hu hi hz hzs (.inl ⟨ey,rfl,rfl⟩) hsrc hnl (RdL_all (fun _ _=>Rd_one) hnews) (by rw[hby,Nat.zero_add];exact hp3) (by omega)
     have hrel:cellsRel ρ [mkRow κ m ys] ([]++news):=cellsRel_one1 (mkRow_rel hyl hnews)
     have hwu:∀ p∈([]:List (Nat × List Cell)),∀ q∈([]:List (Nat × List Cell)),p.1=q.1->p=q:=by
      intro p hp;cases hp
     have hwr:∀ p∈([]:List (Nat × List Cell)),(∃ cs,B p.1=some cs/\cs≠[])/\p.2=[]:=by
      intro p hp;cases hp
     intro next Q hn
     unfold Oper.wp
     rcases hap with ⟨_,hm0',hrun⟩|⟨b,o,cap,N,L,w',ey',_⟩|⟨ncap,rest,hge,hlen,hrun⟩
     ·rw[run_v ex hrun]
      exact hn _ _ ρ (.inl ⟨hm0',rfl⟩) (eff_none hc _ _ hwu hwr)
     ·rw[ey] at ey';cases ey'
     ·rw[run_v ex hrun]
      rw[hsz] at hlen
      have hb2:=blk_drew w ([]++news) rest e
      rw[Nat.zero_add]
      refine hn _ _ (ρ.push id w.heap.size (ncap*width κ)) (.inr ⟨w.heap.size,0,ncap,Rho.push_self,by omega,.inl (by simp),by rw[Rho.push_n];omega,rfl⟩)
       (eff_new hc _ _ (.inl (Nat.le_refl _)) rfl rfl rfl (by simp) (fun b' hb' _=>Below.heap_alloc w.drew _ b' hb') (by rw[<- hlen];exact hb2) hrel hwu hwr)
    ·simp at h
   ·simp at h
  ·simp at h
 ·simp at h
theorem s_convert (hc:Ctx w0 id ρ B w) {s d:TypeId} {x:Operand} {vs:List SV} (h:xConvert P id s d vs B=some out) (hv:valsRel ρ vs [a.eval x]):Sound1 P id B ⟨dst,.convert s d x,ty,pos,af,gd⟩ out ρ a w:=by
 unfold xConvert at h
 split at h
 ·rename_i k1 k2 k3 i hs hd
  obtain⟨z,e,hz1⟩:=valsRel_one hv
  simp at e;subst e
  have ex:=rel_v hz1
  simp[retV] at h;subst h
  exact sound_val hc (run_v rfl (by rw[ex];simp[convert,underlying_run hs,underlying_run hd,Conv.intToInt])) (mk_v rfl)
 ·rename_i e y hs hd
  obtain⟨z,e1,hz1⟩:=valsRel_one hv
  simp at e1;subst e1
  have ex:=rel_v hz1
  split at h
  ·rename_i he
   simp at h;subst h
   have hrun:=run_bytes_of_string (P:=P) w s d e (y) hs hd he
   have hsz:(y).data.size=(y).size:=rfl
   have hge:=grownCap_ge w (y).size 0 e
   intro next Q hn
   unfold Oper.wp
   rw[run_v rfl (by rw[ex];exact hrun)]
   have hrow:(bytesRow (y) (grownCap w (y).size 0 e)).toList=(sbytes (y)).map (Value.int .u8)++List.replicate (grownCap w (y).size 0 e-(y).size) (.int .u8 0):=by
    simp[bytesRow,sbytes,Function.comp_def]
   have hlen:(sbytes (y)).length=(y).size:=by simp only[sbytes,List.length_map,Array.length_toList];rfl
   have hlen2:(bytesRow (y) (grownCap w (y).size 0 e)).size=grownCap w (y).size 0 e:=by
    rw[<- Array.length_toList,hrow,List.length_append,List.length_map,List.length_replicate,hlen];omega
   have hblk:BlkAt (w.drew.alloc (.cells (bytesRow (y) (grownCap w (y).size 0 e)) e ((bytesRow (y) (grownCap w (y).size 0 e)).size,(bytesRow (y) (grownCap w (y).size 0 e)).size+1))) w.heap.size (grownCap w (y).size 0 e) ((sbytes (y)).map (Value.int .u8)):=by
    refine⟨List.replicate (grownCap w (y).size 0 e-(y).size) (.int .u8 0),e,((bytesRow (y) (grownCap w (y).size 0 e)).size,(bytesRow (y) (grownCap w (y).size 0 e)).size+1),?_,?_,.inr ?_⟩
    ·show (w.heap.push _)[w.heap.size]?=_
     rw[<- hrow];simp
    ·rw[<- hrow,Array.length_toList,hlen2]
    ·rw[hlen2];exact Nat.le_refl _
   exact hn _ _ (ρ.push id w.heap.size (grownCap w (y).size 0 e)) (.inr ⟨w.heap.size,0,_,Rho.push_self,hge,.inl (by simp),by rw[Rho.push_n];omega,rfl⟩)
    (eff_new hc _ _ (.inl (Nat.le_refl _)) rfl rfl rfl (by simp) (fun b' hb' _=>Below.heap_alloc w.drew _ b' hb') hblk ⟨_,[],(List.append_nil _).symm,⟨hlen,rfl⟩,rfl⟩ (by intro p hp;cases hp) (by intro p hp;cases hp))
  ·simp at h
 ·rename_i e0 e i base off len c hs hd
  obtain⟨z,e1,hz1⟩:=valsRel_one hv
  simp at e1;subst e1
  split at h
  ·rename_i ki k ks hsd he hB
   simp at h;subst h
   have hsd:=beq_true hsd
   subst hsd
   rcases rel_sl hz1 with ⟨h0,_⟩|⟨b,o,cap,hb,hl,ho,hn,ex⟩
   ·omega
   ·obtain⟨l,⟨rest,el,fr,hh,hsz,hf⟩,hr⟩:=hc.blks i _ hB (by simp) b hb
    have hsh:w.shape? b=some (el,ρ.n i):=by
     unfold World.shape?
     rw[hh]
     simp only[List.size_toArray,hsz]
    have hfz:∃ fr',(w.freeze ⟨b,ρ.n i,none⟩ 1).heap[b]?=some (.cells ⟨l++rest⟩ el fr')/\ρ.n i<=fr'.1:=by
     obtain⟨lo,hi⟩:=fr
     unfold World.freeze
     rw[if_neg (by decide)]
     show ∃ fr',(w.heap.modify b _)[b]?=_/\_
     rw[Array.getElem?_modify,if_pos rfl,hh]
     simp only[Option.map_some]
     by_cases hlh:lo=hi
     ·subst hlh
      exact⟨(ρ.n i,ρ.n i+1),by simp,Nat.le_refl _⟩
     ·refine⟨(min lo (ρ.n i),max hi (ρ.n i+1)),by simp[hlh],?_⟩
      rcases hf with hf|hf
      ·simp only[Prod.mk.injEq] at hf
       exact absurd (hf.1.trans hf.2.symm) hlh
      ·have hf:ρ.n i<=lo:=hf
       exact Nat.le_min.2 ⟨hf,Nat.le_refl _⟩
    have hrun:(convert s s (.slice (some ⟨b,o,none⟩) (len+1) cap)).run P w=.ok (.slice (some ⟨b,o,none⟩) (len+1) cap) (w.freeze ⟨b,ρ.n i,none⟩ 1):=by
     have hee:e0=e:=by rw[hs] at hd;simpa using hd
     subst hee
     have hmk:(markStringish ⟨b,o,none⟩).run P w=.ok () (w.freeze ⟨b,ρ.n i,none⟩ 1):=by
      simp[markStringish,hsh]
     simp[convert,underlying_run hs,underlying_run he,hmk]
    obtain⟨fr',hfz1,hfz2⟩:=hfz
    have hsize:(w.freeze ⟨b,ρ.n i,none⟩ 1).heap.size=w.heap.size:=by
     unfold World.freeze;rw[if_neg (by decide)];simp
    intro next Q hn'
    unfold Oper.wp
    rw[run_v rfl (by rw[ex];exact hrun)]
    refine hn' _ _ ρ (.inr ⟨b,o,cap,hb,hl,ho,hn,rfl⟩) ⟨Rho.le_refl _,fun _ _ h=>.inl h,fun j c hj=>by rw[hsize];exact hc.bound j c hj,?_,?_,?_,by omega,?_,fun _ h=>(nomatch h),fun _ h=>(nomatch h),fun p hp q hq _=>by simp at hp hq;rw[hp,hq],?_,fun _ _ h=>.inl h⟩
    ·unfold World.freeze;rw[if_neg (by decide)]
    ·unfold World.freeze;rw[if_neg (by decide)]
    ·unfold World.freeze;rw[if_neg (by decide)]
    ·intro b' _ hne
     have hbb:b'≠b:=fun e=>hne (i,k::ks) (by simp) (by rw[e];exact hb)
     unfold World.freeze
     rw[if_neg (by decide)]
     show (w.heap.modify b _)[b']?=_
     rw[Array.getElem?_modify,if_neg (fun e=>hbb e.symm)]
    ·intro q hq
     simp at hq
     subst hq
     refine⟨⟨_,hB,by simp⟩,fun b' hb' _=>?_⟩
     rw[hb] at hb';simp at hb';subst hb'
     exact⟨l,⟨rest,el,fr',hfz1,hsz,.inr hfz2⟩,hr⟩
  ·simp at h
 ·simp at h
theorem s_copy (hc:Ctx w0 id ρ B w) {ts:Array TypeId} {args:Array Operand} {vs:List SV} (h:xCopy P ts vs B=some out) (hp:∀ p∈out.pre,p) (hv:valsRel ρ vs (args.toList.map a.eval)):Sound1 P id B ⟨dst,.call ⟨.builtin .copy,args,ts⟩,ty,pos,af,gd⟩ out ρ a w:=by
 have ex:execOp a.eval ⟨dst,.call ⟨.builtin .copy,args,ts⟩,ty,pos,af,gd⟩=(do pure (.value (<- Builtin.copy_ ts ty (args.map a.eval)))):=rfl
 unfold xCopy at h
 split at h
 ·rename_i t t' i0 base off len c x hts
  split at h
  ·rename_i e hu
   have hts:ts=#[t,t']:=by rw[<- Array.toArray_toList (xs:=ts),hts]
   subst hts
   obtain⟨y,u,e1,hy,hu2⟩:=valsRel_two hv
   have hargs:args.map a.eval=#[y,u]:=by
    apply Array.ext';simpa using e1
   rw[hargs] at ex
   split at h
   ·rename_i d ds hB hcc
    simp only[Bool.and_eq_true] at hcc
    obtain⟨hcc,hinf⟩:=hcc
    have hcc:=beq_true hcc
    subst hcc
    split at h
    ·rename_i a0 κ n xs q r hseg
     split at h
     ·rename_i m ys p hsrc hqq
      simp only[Bool.and_eq_true] at hqq
      have hq0:=beq_true hqq.1
      have hcw:=beq_true hqq.2
      subst hq0
      simp only[Option.some.injEq] at h;subst h
      have hp1:off+len<=n:=hp _ (by simp)
      obtain⟨hyl,news,hnews,hsrc⟩:=srcOf_rel hc hsrc (fun q hq=>hp q (by simp[hq])) hu2
      have hnl:=RdL_len (fun _ _=>Rd_len) hnews
      obtain⟨inf,hinf⟩:=Option.isSome_iff_exists.1 hinf
      have hlu:Builtin.lenOf u=pure m:=by
       rcases hsrc with ⟨rfl,rfl⟩|⟨ad,cap,rfl,_⟩<;>rfl
      generalize hn0:Nat.min m len=n0 at *
      have hn1:n0<=m:=by rw[<- hn0];exact Nat.min_le_left _ _
      have hn2:n0<=len:=by rw[<- hn0];exact Nat.min_le_right _ _
      rw[<- hcw,hyl] at hnl
      have hm1:n0*P.cellsOf e<=m*P.cellsOf e:=Nat.mul_le_mul_right _ hn1
      have hm2:n0*P.cellsOf e<=len*P.cellsOf e:=Nat.mul_le_mul_right _ hn2
      have hnt:=(RdL_split (fun _ _=>Rd_len) n0 hnews).1
      rw[<- hcw] at hnt
      have hf:(Builtin.firstCells (P.cellsOf e) n0 u).run P w=.ok (news.take (n0*P.cellsOf e)).toArray w:=by
       rcases hsrc with ⟨rfl,rfl⟩|⟨ad,cap,rfl,h⟩
       ·have:n0=0:=by omega
        subst this
        simpa using run_firstCells_none (P:=P) w (P.cellsOf e) 0 0 0
       ·exact run_firstCells_some w (P.cellsOf e) n0 ad m cap _ (by simp;omega) (fun j v hj=>h j v (by
         rw[List.getElem?_take] at hj
         split at hj
         ·exact hj
         ·cases hj))
      have hu':=rel_sl hy
      intro next Q hn
      unfold Oper.wp
      by_cases h0:len=0
      ·have h00:n0=0:=by omega
       subst h00
       have hrun:(Builtin.copy_ #[t,t'] ty #[y,u]).run P w=.ok (.int .i64 ((0:Nat):Int)) w:=by
        have hmin:Nat.min m len=0:=hn0
        rcases hu' with ⟨_,ey⟩|⟨b,o,cap,hb,hl,ho,hsz,ey⟩
        ·rw[ey]
         rw[h0] at hmin
         simp only[Builtin.copy_,List.getElem?_toArray,List.getElem?_cons_zero,List.getElem?_cons_succ,Sem.run_bind,underlying_run hu,Result.andThen_ok,hlu,Sem.run_pure,sizeOf_run hinf,hmin,hf]
         rfl
        ·rw[ey]
         simp only[Builtin.copy_,List.getElem?_toArray,List.getElem?_cons_zero,List.getElem?_cons_succ,Sem.run_bind,underlying_run hu,Result.andThen_ok,hlu,Sem.run_pure,sizeOf_run hinf,hmin,hf]
         simp[storeCells,goInt]
       rw[run_v ex hrun]
       refine hn _ w ρ (mk_v rfl) ⟨Rho.le_refl _,fun _ _ h=>.inl h,hc.bound,rfl,rfl,rfl,Nat.le_refl _,fun _ _ _=>rfl,fun _ h=>(nomatch h),fun _ h=>(nomatch h),fun p hp q hq _=>by simp at hp hq;rw[hp,hq],?_,fun _ _ h=>.inl h⟩
       intro q hq
       simp at hq
       subst hq
       refine⟨⟨_,hB,by simp⟩,fun b hb _=>?_⟩
       obtain⟨l,hblk,hr⟩:=hc.blks _ _ hB (by simp) b hb
       obtain⟨l1,mm,l2,el,k1,k2,k3,k4,k5⟩:=segF_rel hseg hr
       refine⟨l,hblk,?_⟩
       rw[el]
       exact cellsRel_append k2 ⟨mm,l2,rfl,mkRow_rel (by simpa using k4) (by simpa using k5),k3⟩
      ·rcases hu' with ⟨h0',_⟩|⟨b,o,cap,hb,hl,ho,hsz,ey⟩
       ·exact absurd h0' h0
       have ho:o=base+off*P.cellsOf e:=by
        rcases ho with h|h
        ·exact h
        ·omega
       subst ho
       obtain⟨l,hblk,hr⟩:=hc.blks _ _ hB (by simp) b hb
       obtain⟨l1,mm,l2,el,k1,k2,k3,k4,k5⟩:=segF_rel hseg hr
       simp only at k4 k5
       have hmm:=RdL_len (fun _ _=>Rd_len) k5
       rw[<- hcw,k4] at hmm
       have hul:(news.take (n0*P.cellsOf e)).length=n0*P.cellsOf e:=by simp;omega
       have hlen:l.length=l1.length+(mm.length+l2.length):=by rw[el];simp
       have hfit:off*P.cellsOf e+n0*P.cellsOf e<=mm.length:=by rw[hmm,<- Nat.add_mul];exact Nat.mul_le_mul_right _ (by omega)
       obtain⟨w',g1,g2,g3,g4,g5,g6,g7⟩:=run_storeCells_blk (P:=P) (b:=b) (off:=base+off*P.cellsOf e) (news.take (n0*P.cellsOf e)) 0 w l hblk (by rw[hul];omega) (RdL_all (fun _ _=>Rd_one) hnt)
       have hrun:(Builtin.copy_ #[t,t'] ty #[y,u]).run P w=.ok (.int .i64 (n0:Int)) w':=by
        rw[ey]
        simp only[Builtin.copy_,List.getElem?_toArray,List.getElem?_cons_zero,List.getElem?_cons_succ,Sem.run_bind,underlying_run hu,Result.andThen_ok,hlu,Sem.run_pure,sizeOf_run hinf,hn0,hf,g1]
        rfl
       rw[run_v ex hrun]
       refine hn _ w' ρ (mk_v rfl) ⟨Rho.le_refl _,fun _ _ h=>.inl h,fun j c hj=>by rw[g3];exact hc.bound j c hj,g5,g6,g7,by omega,?_,fun _ h=>(nomatch h),fun _ h=>(nomatch h),fun p hp q hq _=>by simp at hp hq;rw[hp,hq],?_,fun _ _ h=>.inl h⟩
       ·intro b' _ hne
        exact g4 b' (fun e=>by subst e;exact hne _ (List.mem_singleton.2 rfl) hb)
       ·intro q hq
        simp at hq
        subst hq
        refine⟨⟨_,hB,by simp⟩,fun b' hb' _=>?_⟩
        rw[hb] at hb';simp at hb';subst hb'
        refine⟨_,g2,?_⟩
        rw[Nat.add_zero,hul,el]
        have e1:(l1++(mm++l2)).take (base+off*P.cellsOf e)=l1++mm.take (off*P.cellsOf e):=by
         rw[List.take_append,List.take_of_length_le (by omega),show base+off*P.cellsOf e-l1.length=off*P.cellsOf e by omega,List.take_append_of_le_length (by omega)]
        have e2:(l1++(mm++l2)).drop (base+off*P.cellsOf e+n0*P.cellsOf e)=mm.drop (off*P.cellsOf e+n0*P.cellsOf e)++l2:=by
         rw[List.drop_append,List.drop_of_length_le (by omega),List.nil_append,show base+off*P.cellsOf e+n0*P.cellsOf e-l1.length=off*P.cellsOf e+n0*P.cellsOf e by omega,List.drop_append_of_le_length (by omega)]
        rw[e1,e2,List.append_assoc]
        have hput:=RdL_put (fun _ _=>Rd_len) k5 hnt off
        have hyt:(ys.take n0).length=n0:=by simp;omega
        rw[hyt,hul,<- hcw] at hput
        exact cellsRel_append k2 ⟨_,l2,by simp only[List.append_assoc],mkRow_rel (by simp;omega) hput,k3⟩
     ·simp at h
    ·simp at h
   ·simp at h
  ·simp at h
 ·simp at h
theorem s_call (hc:Ctx w0 id ρ B w) {sp:FuncId->Option Spec} (hsp:SpecsOk P sp) {f:FuncId} {ts:Array TypeId} {args:Array Operand} {vs:List SV} {F:Spec} (hF:sp f=some F) (h:F w0 id vs B=some out) (hp:∀ p∈out.pre,p)
  (hv:valsRel ρ vs (args.toList.map a.eval)):Sound1 P id B ⟨dst,.call ⟨.value (.func f),args,ts⟩,ty,pos,af,gd⟩ out ρ a w:=by
 intro next Q hn
 have hok:=hsp f F hF w0 id vs B out h hp ρ _ w hv hc
 have ex:execOp a.eval ⟨dst,.call ⟨.value (.func f),args,ts⟩,ty,pos,af,gd⟩=(callFunc f ((#[]++args.map a.eval) ++ #[])):=rfl
 have earr:(#[]++args.map a.eval) ++ #[]=(⟨args.toList.map a.eval⟩:Array Value):=by
  apply Array.ext';simp
 unfold Oper.wp
 rw[ex,earr]
 rcases hok with ⟨h1,h2⟩|⟨v,w',h1,ρ',h2,h3⟩
 ·rw[h1]
  refine h2.mono ?_
  rintro e w' ⟨v,rfl,ρ',hv',hE⟩
  exact hn v w' ρ' hv' hE
 ·rw[h1]
  exact hn v w' ρ' h2 h3
theorem s_callv (hc:Ctx w0 id ρ B w) {sp:FuncId->Option Spec} (hsp:SpecsOk P sp) {f:FuncId} {fo:Operand} (hfo:a.eval fo=.func (.func f) #[] #[]) {ts:Array TypeId} {args:Array Operand} {vs:List SV} {F:Spec} (hF:sp f=some F) (h:F w0 id vs B=some out) (hp:∀ p∈out.pre,p)
  (hv:valsRel ρ vs (args.toList.map a.eval)):Sound1 P id B ⟨dst,.call ⟨.value fo,args,ts⟩,ty,pos,af,gd⟩ out ρ a w:=by
 intro next Q hn
 have hok:=hsp f F hF w0 id vs B out h hp ρ _ w hv hc
 have ex:execOp a.eval ⟨dst,.call ⟨.value fo,args,ts⟩,ty,pos,af,gd⟩=(callFunc f ((#[]++args.map a.eval) ++ #[])):=by
  show (do let d <- Deferred.ofValue (a.eval fo) (args.map a.eval);invoke d.target d.args)=_
  rw[hfo];rfl
 have earr:(#[]++args.map a.eval) ++ #[]=(⟨args.toList.map a.eval⟩:Array Value):=by
  apply Array.ext';simp
 unfold Oper.wp
 rw[ex,earr]
 rcases hok with ⟨h1,h2⟩|⟨v,w',h1,ρ',h2,h3⟩
 ·rw[h1]
  refine h2.mono ?_
  rintro e w' ⟨v,rfl,ρ',hv',hE⟩
  exact hn v w' ρ' hv' hE
 ·rw[h1]
  exact hn v w' ρ' h2 h3
theorem s_callc (hc:Ctx w0 id ρ B w) {sp:FuncId->Option Spec} (hsp:SpecsOk P sp) {f:FuncId} {fo:Operand} {caps:List Value} (hfo:a.eval fo=.func (.func f) ⟨[]⟩ ⟨caps⟩) {ts:Array TypeId} {args:Array Operand} {vs:List SV} {F:Spec} (hF:sp f=some F) (h:F w0 id vs B=some out) (hp:∀ p∈out.pre,p)
  (hv:valsRel ρ vs (args.toList.map a.eval++caps)):Sound1 P id B ⟨dst,.call ⟨.value fo,args,ts⟩,ty,pos,af,gd⟩ out ρ a w:=by
 intro next Q hn
 have hok:=hsp f F hF w0 id vs B out h hp ρ _ w hv hc
 have ex:execOp a.eval ⟨dst,.call ⟨.value fo,args,ts⟩,ty,pos,af,gd⟩=(callFunc f ((#[]++args.map a.eval)++⟨caps⟩)):=by
  show (do let d <- Deferred.ofValue (a.eval fo) (args.map a.eval);invoke d.target d.args)=_
  rw[hfo];rfl
 have earr:(#[]++args.map a.eval)++(⟨caps⟩:Array Value)=(⟨args.toList.map a.eval++caps⟩:Array Value):=by
  apply Array.ext';simp
 unfold Oper.wp
 rw[ex,earr]
 rcases hok with ⟨h1,h2⟩|⟨v,w',h1,ρ',h2,h3⟩
 ·rw[h1]
  refine h2.mono ?_
  rintro e w' ⟨v,rfl,ρ',hv',hE⟩
  exact hn v w' ρ' hv' hE
 ·rw[h1]
  exact hn v w' ρ' h2 h3
theorem vals_join:∀ {l m:List SV} {us vs:List Value},valsRel ρ l us->valsRel ρ m vs->valsRel ρ (l++m) (us++vs):=by
 intro l
 induction l with
 | nil=>intro m us vs h h2;have h:us=[]:=h;subst h;exact h2
 | cons a l ih=>intro m us vs ⟨y,ys,e,h1,h3⟩ h2;subst e;exact⟨y,ys++vs,rfl,h1,ih h3 h2⟩
theorem capF_rel:∀ {κ:Kd} {x:Car κ} {f:FuncId} {l:List SV} {v:Value},capF κ x=some (f,l)->Rd ρ.M κ x [v]->∃ caps,v=.func (.func f) ⟨[]⟩ ⟨caps⟩/\valsRel ρ l caps:=by
 intro κ
 induction κ with
 | fn g =>
  intro x f l v h hr
  simp only[capF,Option.some.injEq,Prod.mk.injEq] at h
  obtain⟨rfl,rfl⟩:=h
  have hr:[v]=[_]:=hr
  simp only[List.cons.injEq,and_true] at hr
  exact⟨[],hr,rfl⟩
 | cap c e ihc ihe =>
  intro x f l v h hr
  simp only[capF] at h
  split at h
  ·rename_i f' l' hc
   simp only[Option.some.injEq,Prod.mk.injEq] at h
   obtain⟨rfl,rfl⟩:=h
   obtain⟨g,caps,b,o,h1,h2,h3⟩:=hr
   obtain⟨caps',k1,k2⟩:=ihc hc h2
   simp only[Value.func.injEq,Array.mk.injEq] at k1
   obtain⟨rfl,_,rfl⟩:=k1
   simp only[List.cons.injEq,and_true] at h1
   refine⟨_,h1,vals_join k2 ⟨_,[],rfl,mk_rp h3 (by simp) (by simp),rfl⟩⟩
  ·simp at h
 | _=>intro x f l v h;simp[capF] at h
theorem clo_rel:∀ {l:List Nat} {us:List Value},cloCaps ρ l us->valsRel ρ (cloArgs l) us:=by
 intro l
 induction l with
 | nil=>intro us h;exact h
 | cons i l ih =>
  intro us ⟨b,vs,h1,h2,h3⟩
  subst h3
  exact vals_join (ih h2) ⟨_,[],rfl,⟨b,h1,rfl⟩,rfl⟩
theorem capIds_rel:∀ {vs:List SV} {l m:List Nat} {us ws:List Value},capIds vs l=some m->valsRel ρ vs us->cloCaps ρ l ws->cloCaps ρ m (ws++us):=by
 intro vs
 induction vs with
 | nil =>
  intro l m us ws h hv hl
  simp only[capIds,Option.some.injEq] at h
  subst h
  have hv:us=[]:=hv
  subst hv
  rw[List.append_nil];exact hl
 | cons v vs ih =>
  intro l m us ws h hv hl
  unfold capIds at h
  split at h
  ·rename_i h1;cases h1
  ·rename_i i vs' h1
   simp only[List.cons.injEq] at h1
   obtain⟨rfl,rfl⟩:=h1
   obtain⟨y,ys,e,h1,h2⟩:=hv
   obtain⟨b,hb,ey⟩:=rel_ptr h1
   subst ey e
   have:=ih h h2 (ws:=ws++[.pointer (some ⟨b,0,none⟩)]) ⟨b,ws,hb,hl,rfl⟩
   simpa using this
  ·simp at h
theorem s_makeFunc (hc:Ctx w0 id ρ B w) {fn:Fn} {first captured:Array Operand} {vs:List SV} (h:xMakeFunc fn first vs=some out) (hv:valsRel ρ vs ((first++captured).toList.map a.eval)):Sound1 P id B ⟨dst,.makeFunc fn first captured,ty,pos,af,gd⟩ out ρ a w:=by
 have key:∀ (f:FuncId) (m:List Nat),first.size=0->capIds vs []=some m->cloCaps ρ m (captured.toList.map a.eval)/\(execOp a.eval ⟨dst,.makeFunc (.func f) first captured,ty,pos,af,gd⟩).run P w=.ok (.value (.func (.func f) ⟨[]⟩ ⟨captured.toList.map a.eval⟩)) w:=by
  intro f m h0 hm
  have hf:first=#[]:=Array.eq_empty_of_size_eq_zero h0
  subst hf
  refine⟨?_,?_⟩
  ·have:=capIds_rel (ws:=[]) hm hv rfl
   simpa using this
  ·refine run_v (s:=Instr.makeFunc (.func f) ((#[]:Array Operand).map a.eval) (captured.map a.eval)) rfl ?_
   show Result.ok _ w=Result.ok _ w
   congr 1
   show Value.func _ _ _=Value.func _ _ _
   congr 1
   all_goals (apply Array.ext';simp)
 unfold xMakeFunc at h
 split at h
 ·rename_i f h0 hm
  simp[retV] at h;subst h
  obtain⟨k1,k2⟩:=key f [] h0 hm
  have k1:captured.toList.map a.eval=[]:=k1
  rw[k1] at k2
  exact sound_val hc k2 (mk_v rfl)
 ·rename_i f m _ h0 hm
  simp[ret] at h;subst h
  obtain⟨k1,k2⟩:=key f m h0 hm
  exact sound_val hc k2 ⟨_,k1,rfl⟩
 ·simp at h
theorem norm_rel (hc:Ctx w0 id ρ B w) {s:SV} {v:Value} (h:s.rel ρ v):(norm w0 s).rel ρ v:=by
 unfold norm
 split
 ·rename_i g
  split
  ·rename_i e x hg
   have ev:=rel_v h
   subst ev
   exact mk_rp (hc.glob g e x hg) (by simp) (by simp)
  ·exact h
 ·exact h
theorem unrn_rel {s:SV} {v:Value} (h:s.rel ρ v):(unrn s).rel ρ v:=by
 unfold unrn
 split
 ·exact h.1
 ·exact h
theorem norm_vals (hc:Ctx w0 id ρ B w):∀ {vs:List SV} {us:List Value},valsRel ρ vs us->valsRel ρ (vs.map fun s=>unrn (norm w0 s)) us:=by
 intro vs
 induction vs with
 | nil=>intro us h;exact h
 | cons v vs ih=>intro us ⟨x,xs,e,h1,h2⟩;exact⟨x,xs,e,unrn_rel (norm_rel hc h1),ih h2⟩
theorem run_eqGuard_sl {op:BinOp} {t:TypeId} {x y:Operand} {p q:Option Addr} {n m c d:Nat}:(eqGuard op t x y (.slice p n c) (.slice q m d)).run P w=.ok () w:=by
 cases op<;>simp[eqGuard]
theorem run_equal_sl {t e:TypeId} (hu:P.underlying t=some (.slice e)) {ad:Option Addr} {n c:Nat}:(Op.equal t (.slice ad n c) (.slice none 0 0)).run P w=.ok ad.isNone w:=by
 unfold Op.equal Op.maxDepth
 rw[show (10000:Nat)=9999+1 from rfl,Op.equalIn]
 cases ad<;>simp only[Sem.run_bind,underlying_run hu,Result.andThen_ok,Sem.run_pure]<;>rfl
theorem s_nilSl (hc:Ctx w0 id ρ B w) {op:BinOp} {t t':TypeId} {x y:Operand} {vs:List SV} (h:xNilSl P op t vs=some out) (hv:valsRel ρ vs [a.eval x,a.eval y]):Sound1 P id B ⟨dst,.binOp op t x y t',ty,pos,af,gd⟩ out ρ a w:=by
 unfold xNilSl at h
 split at h
 ·obtain⟨z1,z2,e1,hz1,hz2⟩:=valsRel_two hv
  simp only[List.cons.injEq,and_true] at e1;obtain⟨rfl,rfl⟩:=e1
  have ey:=rel_v hz2
  split at h
  ·rename_i e hu
   split at h
   ·obtain⟨_,p,n,c,ex⟩:=hz1
    simp only[List.cons.injEq,and_true] at ex
    simp[ret] at h;subst h
    refine sound_val hc (v:=.bool false) (run_v rfl ?_) rfl
    rw[ex,ey]
    simp only[Sem.run_bind,run_eqGuard_sl,Result.andThen_ok,binOp,run_equal_sl hu,Sem.run_pure,Option.isNone_some]
   ·have ex:=rel_v hz1
    simp[ret] at h;subst h
    refine sound_val hc (v:=.bool true) (run_v rfl ?_) rfl
    rw[ex,ey]
    simp only[Sem.run_bind,run_eqGuard_sl,Result.andThen_ok,binOp,run_equal_sl hu,Sem.run_pure,Option.isNone_none]
   ·simp at h
  ·rename_i e hu
   split at h
   ·obtain⟨_,p,n,c,ex⟩:=hz1
    simp only[List.cons.injEq,and_true] at ex
    simp[ret] at h;subst h
    refine sound_val hc (v:=.bool true) (run_v rfl ?_) rfl
    rw[ex,ey]
    simp only[Sem.run_bind,run_eqGuard_sl,Result.andThen_ok,binOp,run_equal_sl hu,Sem.run_pure,Option.isNone_some,Bool.not_false]
   ·have ex:=rel_v hz1
    simp[ret] at h;subst h
    refine sound_val hc (v:=.bool false) (run_v rfl ?_) rfl
    rw[ex,ey]
    simp only[Sem.run_bind,run_eqGuard_sl,Result.andThen_ok,binOp,run_equal_sl hu,Sem.run_pure,Option.isNone_none,Bool.not_true]
   ·simp at h
  ·simp at h
 ·simp at h
theorem xop1_sound (hc:Ctx w0 id ρ B w) {sp:FuncId->Option Spec} (hsp:SpecsOk P sp) {o:Oper} {vs:List SV} (h:xop1 P sp w0 id o.op vs B=some out) (hp:∀ p∈out.pre,p)
  (hv:valsRel ρ vs (o.op.operands.toList.map a.eval)):Sound1 P id B o out ρ a w:=by
 obtain⟨dst,op,ty,pos,af,gd⟩:=o
 unfold xop1 at h
 split at h
 ·simp at h
 ·rename_i hok
  dsimp only at h hok hv
  cases op<;>dsimp only at h<;>try (simp at h;done)
  case move x=>exact s_move hc h hv
  case assign x=>exact s_assign hc h hv
  case pick c x y=>exact s_pick hc h hv
  case alloc t=>exact s_alloc hc h
  case box t x=>exact s_box hc h hv
  case build t ps=>exact s_build hc hok h hp (by simpa[Op.operands,Function.comp_def] using hv)
  case buildSlice t n ps=>exact s_buildSlice hc hok h hp (by simpa[Op.operands,Function.comp_def] using hv)
  case load t x=>exact s_load hc (typeOk_spec hok).2.1 (typeOk_spec hok).2.2 h hp hv
  case store t x y=>exact s_store hc (typeOk_spec hok).1 h hp hv
  case fieldAddr t x f=>exact s_fieldAddr hc (fun fd hfd=>(elemsOk_field hok hfd).1) h hv
  case indexAddr t x i=>exact s_indexAddr hc hok h hp hv
  case index t x i=>exact s_index hc hok h hp hv
  case field t x f=>exact s_field hc hok h hv
  case extract x i=>exact s_extract hc h hv
  case binOp op t x y t'=>exact s_bin hc h hp hv
  case unOp op t x=>exact s_un hc h hv
  case convert s d x=>exact s_convert hc h hv
  case nilCheck x=>exact s_nil hc h hv
  case sliceToArrayPointer t x=>exact s_arr hc h hp hv
  case makeSlice t x y=>exact s_make hc h hp hv
  case slice t x lo hi mx =>
   refine s_slice hc hok h hp ?_
   simp only[Op.operands] at hv
   cases lo<;>cases hi<;>cases mx<;>simpa using hv
  case makeFunc fn first captured=>exact s_makeFunc hc h (by simpa[Op.operands] using hv)
  case call c =>
   obtain⟨ce,args,ts⟩:=c
   unfold xCall at h
   split at h
   ·rename_i f v vs' hce
    dsimp only at hce
    subst hce
    split at h
    ·rename_i F hF
     simp only[Op.operands,Call.operands,Array.toList_append,List.map_cons,List.cons_append,List.nil_append] at hv
     obtain⟨y,ys,e1,_,hys⟩:=hv
     simp only[List.cons.injEq] at e1
     obtain⟨_,rfl⟩:=e1
     exact s_call hc hsp hF h hp hys
    ·simp at h
   ·rename_i fo f vs' _ hce
    dsimp only at hce
    subst hce
    split at h
    ·rename_i F hF
     simp only[Op.operands,Call.operands,Array.toList_append,List.map_cons,List.cons_append,List.nil_append] at hv
     obtain⟨y,ys,e1,hy,hys⟩:=hv
     simp only[List.cons.injEq] at e1
     obtain⟨hfo,rfl⟩:=e1
     have hy2:=rel_v hy
     rw[hy2] at hfo
     exact s_callv hc hsp hfo hF h hp hys
    ·simp at h
   ·rename_i fo κ x vs' _ hce
    dsimp only at hce
    subst hce
    split at h
    ·rename_i f l hcap
     split at h
     ·rename_i F hF
      simp only[Op.operands,Call.operands,Array.toList_append,List.map_cons,List.cons_append,List.nil_append] at hv
      obtain⟨y,ys,e1,hy,hys⟩:=hv
      simp only[List.cons.injEq] at e1
      obtain⟨hfo,rfl⟩:=e1
      obtain⟨caps,hy2,hcv⟩:=capF_rel hcap hy.1
      rw[hy2] at hfo
      exact s_callc hc hsp hfo hF h hp (vals_join hys hcv)
     ·simp at h
    ·simp at h
   ·rename_i fo f l vs' _ hce
    dsimp only at hce
    subst hce
    split at h
    ·rename_i F hF
     simp only[Op.operands,Call.operands,Array.toList_append,List.map_cons,List.cons_append,List.nil_append] at hv
     obtain⟨y,ys,e1,hy,hys⟩:=hv
     simp only[List.cons.injEq] at e1
     obtain⟨hfo,rfl⟩:=e1
     obtain⟨us,hcu,hy2⟩:=hy
     simp only[List.cons.injEq,and_true] at hy2
     rw[hy2] at hfo
     exact s_callc hc hsp hfo hF h hp (vals_join hys (clo_rel hcu))
    ·simp at h
   ·rename_i hce
    dsimp only at hce
    subst hce
    exact s_len hc h (by simpa[Op.operands,Call.operands] using hv)
   ·rename_i hce
    dsimp only at hce
    subst hce
    exact s_append hc h hp (by simpa[Op.operands,Call.operands] using hv)
   ·rename_i hce
    dsimp only at hce
    subst hce
    exact s_copy hc h hp (by simpa[Op.operands,Call.operands] using hv)
   ·rename_i k x k' y hce
    dsimp only at hce
    subst hce
    obtain⟨u,v,e,hu,hv'⟩:=valsRel_two hv
    simp only[Op.operands,Call.operands] at e
    have e1:=rel_v hu
    have e2:=rel_v hv'
    subst e1 e2
    simp[retV] at h;subst h
    refine sound_val hc (run_v (s:=Builtin.max_ ts _ (args.map a.eval)) rfl ?_) (mk_v rfl)
    have e:(args.map a.eval).toList=[Value.int k x,Value.int k' y]:=by simpa using e
    unfold Builtin.max_
    rw[e];rfl
   ·rename_i k x k' y hce
    dsimp only at hce
    subst hce
    obtain⟨u,v,e,hu,hv'⟩:=valsRel_two hv
    simp only[Op.operands,Call.operands] at e
    have e1:=rel_v hu
    have e2:=rel_v hv'
    subst e1 e2
    simp[retV] at h;subst h
    refine sound_val hc (run_v (s:=Builtin.min_ ts _ (args.map a.eval)) rfl ?_) (mk_v rfl)
    have e:(args.map a.eval).toList=[Value.int k x,Value.int k' y]:=by simpa using e
    unfold Builtin.min_
    rw[e];rfl
   ·simp at h
theorem frzO_sound (hc:Ctx w0 id ρ B w) {o:Oper} {out out':Out} (hf:frzO (some out)=some out') (h:(∀ p∈out.pre,p)->Sound1 P id B o out ρ a w) (hp:∀ p∈out'.pre,p):Sound1 P id B o out' ρ a w:=by
 classical
 unfold frzO at hf
 split at hf
 ·rename_i o' i k c j cell wr pre heq
  simp only[Option.some.injEq] at heq
  subst heq
  split at hf
  ·rename_i e k' xs hij hrow
   simp only[Option.some.injEq] at hf
   subst hf
   simp only[Bool.and_eq_true,List.all_eq_true] at hij
   obtain⟨hij,hwr⟩:=hij
   have hij:=beq_true hij
   subst hij
   have hxk:xs.length=k:=hp _ (List.mem_cons_self ..)
   intro next Q hk
   refine h (fun p hp'=>hp p (List.mem_cons_of_mem _ hp')) next Q ?_
   intro v w' ρ' hv he
   have hwe:∀ p∈wr,p.2=[]:=fun p hp'=>List.isEmpty_iff.1 (hwr p hp')
   rcases hv with ⟨hz,hv⟩|⟨b,o',cap,hb,hcap,ho,hsz,hv⟩
   ·simp only[List.cons.injEq,and_true] at hv
    have hx0:xs=[]:=List.eq_nil_of_length_eq_zero (by omega)
    refine hk v w' ρ ?_ { le:=Rho.le_refl _,dom:=fun _ _ h=>.inl h,bound:=fun i b hi=>Nat.lt_of_lt_of_le (hc.bound i b hi) he.size,os:=he.os,tape:=he.tape,output:=he.output,size:=he.size,same:=he.same,new:=(fun p hp'=>by cases hp'),newinj:=(fun p hp'=>by cases hp'),wruniq:=he.wruniq,wr:=fun p hp'=>⟨(he.wr p hp').1,fun _ _ h=>absurd (hwe p hp') h⟩,mem:=fun _ _ h=>.inl h }
    subst hx0
    rw[hv]
    exact .inl ⟨rfl,none,0,rfl,fun _=>rfl⟩
   ·simp only[List.cons.injEq,and_true] at hv
    have hcell:([cell]:List Cell)≠[]:=by simp
    obtain⟨_,_,hnew⟩:=he.new (i,[cell]) (by simp)
    obtain⟨hfresh,l,hblk,hcr⟩:=hnew b hb hcell
    obtain⟨v1,v2,el,hc1,hc2⟩:=hcr
    have hc2:v2=[]:=hc2
    subst hc2
    rw[List.append_nil] at el
    subst el
    obtain⟨_,hrd,_⟩:=asRow_rel hrow hc1
    obtain⟨rest,elm,fr,hheap,_⟩:=hblk
    have hold:∀ l',ρ.M b≠some l':=by
     intro l' hm
     rcases hfresh with hlt|⟨q,hq,hqb,_⟩
     ·obtain⟨el,fr,hh⟩:=hc.mem b l' hm
      have:=Array.getElem?_eq_none hlt
      rw[this] at hh;cases hh
     ·obtain⟨⟨cs,hB,hne⟩,_⟩:=he.wr q hq
      exact hc.apart b l' hm q.1 cs hB hne hqb
    have hnone:ρ'.M b=none:=by
     cases hm:ρ'.M b with
     | none=>rfl
     | some l' =>
      rcases he.mem b l' hm with h1|⟨h1,_⟩
      ·exact absurd h1 (hold l')
      ·exact absurd hb (h1 (i,[cell]) (by simp))
    let ρ2:Rho:=⟨ρ.m,ρ.n,fun b'=>if b'=b/\l++rest≠[] then some (l++rest) else ρ'.M b'⟩
    have hM:Mem.le ρ'.M ρ2.M:=by
     intro b' l' h'
     show (if b'=b/\l++rest≠[] then _ else ρ'.M b')=some l'
     by_cases e:b'=b/\l++rest≠[]
     ·obtain⟨rfl,_⟩:=e;rw[hnone] at h';cases h'
     ·rw[if_neg e];exact h'
    have hMb:l++rest≠[]->ρ2.M b=some (l++rest):=fun hn=>by show (if b=b/\l++rest≠[] then _ else _)=_;rw[if_pos ⟨rfl,hn⟩]
    refine hk v w' ρ2 ?_ { le:=⟨fun _ _ h=>⟨h,rfl⟩,fun b' l' h'=>hM b' l' (he.le.mem b' l' h')⟩,dom:=fun _ _ h=>.inl h,bound:=fun i b hi=>Nat.lt_of_lt_of_le (hc.bound i b hi) he.size,os:=he.os,tape:=he.tape,output:=he.output,size:=he.size,same:=he.same,new:=(fun p hp'=>by cases hp'),newinj:=(fun p hp'=>by cases hp'),wruniq:=he.wruniq,wr:=fun p hp'=>⟨(he.wr p hp').1,fun _ _ h=>absurd (hwe p hp') h⟩,mem:=?_ }
    ·rw[hv]
     show Rd ρ2.M (.sl e) xs _
     rcases ho with rfl|rfl
     ·have hl:=RdL_len (fun _ _=>Rd_len) hrd
      have hz:0+0*c=0:=by rw[Nat.zero_mul]
      refine .inr ⟨b,0+0*c,cap,by rw[hxk],by rw[hxk];exact hcap,l++rest,hMb,by rw[hz,List.length_append,hl,Nat.zero_add];exact Nat.le_add_right _ _,?_⟩
      rw[hz,List.drop_zero,<- hl,List.take_left' rfl]
      exact RdL_mono (fun _ _ h=>Rd_mono hM h) hrd
     ·have hk0:k=0:=Nat.le_zero.1 hcap
      exact .inl ⟨List.eq_nil_of_length_eq_zero (hxk.trans hk0),some ⟨b,o',none⟩,0,by rw[hk0],fun h=>by cases h⟩
    ·intro b' l' h'
     have h':(if b'=b/\l++rest≠[] then some (l++rest) else ρ'.M b')=some l':=h'
     by_cases e:b'=b/\l++rest≠[]
     ·have h2:some (l++rest)=some l':=(if_pos e).symm.trans h'
      obtain⟨rfl,hn⟩:=e
      obtain rfl:=Option.some.inj h2
      exact .inr ⟨(fun p hp'=>by cases hp'),hfresh,elm,fr,by rw[objOf_cells hn];exact hheap⟩
     ·rw[if_neg e] at h'
      rcases he.mem b' l' h' with h1|⟨_,h2,h3⟩
      ·exact .inl h1
      ·exact .inr ⟨(fun p hp'=>by cases hp'),h2,h3⟩
  ·cases hf
 ·cases hf
theorem xopA_sound (hc:Ctx w0 id ρ B w) {sp:FuncId->Option Spec} (hsp:SpecsOk P sp) {o:Oper} {vs:List SV} (h:xopA P sp w0 id o.op vs B=some out) (hp:∀ p∈out.pre,p)
  (hv:valsRel ρ vs (o.op.operands.toList.map a.eval)):Sound1 P id B o out ρ a w:=by
 obtain⟨dst,op,ty,pos,af,gd⟩:=o
 unfold xopA at h
 dsimp only at h hv
 split at h
 ·exact s_move hc h hv
 ·exact s_assign hc h hv
 ·rename_i c
  split at h
  ·cases hx:xop1 P sp w0 id (.call c) (vs.map fun s=>unrn (norm w0 s)) B with
   | none=>rw[hx] at h;cases h
   | some out' =>
    rw[hx] at h
    exact frzO_sound hc h (fun hp'=>xop1_sound (o:=⟨dst,.call c,ty,pos,af,gd⟩) hc hsp hx hp' (norm_vals hc hv)) hp
  ·exact xop1_sound (o:=⟨dst,.call c,ty,pos,af,gd⟩) hc hsp h hp (norm_vals hc hv)
 ·rename_i op t x y t' 
  split at h
  ·rename_i out' hx
   simp only[Option.some.injEq] at h
   subst h
   exact s_nilSl hc hx hv
  ·exact xop1_sound (o:=⟨dst,.binOp op t x y t',ty,pos,af,gd⟩) hc hsp h hp (norm_vals hc hv)
 ·exact xop1_sound (o:=⟨dst,op,ty,pos,af,gd⟩) hc hsp h hp (norm_vals hc hv)
end
end Go.Eng
