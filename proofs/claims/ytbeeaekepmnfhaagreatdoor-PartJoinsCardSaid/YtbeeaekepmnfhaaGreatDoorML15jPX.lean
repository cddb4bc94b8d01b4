import Derived.Test.YtbeeaekepmnfhaaGreatDoorML15jPW
set_option maxRecDepth 100000
namespace Go.Proofs.YtbeeaekepmnfhaaGreatDoor.part
open Go Go.Eng Go.RowKit Cr
theorem ent_clone:enters Tryz.prog 48 Tryz.f48:=ek
abbrev preClone:HL [.sl partK]->Prop:=fun (c,_)=>List.length c<1048576
theorem fn_clone:FnOk Tryz.prog 48 [.sl partK] [.own partK] noG preClone (fun (c,_)=>(c,())):=by
 have hsp:SpecsOk Tryz.prog (sps []):=snl
 refine fn_of_trN (sp:=sps []) ent_clone (by decide) (by decide) (by kernel_rfl) ?_ ?_
 ·rintro w M0 ⟨⟩ _ hp
  show Tr _ _ _ _ _ _ _
  refine tr_vc hsp mixed _ _ ?_
  refine vcx (X:=((([]:List PT),())=(([]:List PT),()))) (by kernel_rfl) rfl
 ·rintro w M0 c ⟨⟩ _ _ hp
  revert c
  intro (c:List PT) _ hp
  have hp:c.length<1048576:=hp
  show Tr _ _ _ _ _ _ _
  refine tr_vc hsp mixed _ _ ?_
  refine vcx (X:=((0:Nat)<=(0:Nat)/\((0:Nat)+c.length)*(200:Nat)<=(140737488355328:Nat)/\(0:Nat)+c.length<=(4611686018427387904:Nat)/\(0:Nat)+((0:Nat)+c.length)<=(0:Nat)+c.length/\(List.take ((0:Nat)+c.length) (List.take 0 []++c),())=(c,()))) (by kernel_rfl) ?_
  rw[List.take_zero,List.nil_append,Nat.zero_add,List.take_length]
  exact⟨Nat.le_refl _,by omega,by omega,by omega,rfl⟩
noncomputable def spClone:Nat × Eng.Spec:=(48,fnSpec [.sl partK] [.own partK] preClone (fun (c,_)=>(c,())))
theorem fn_clone0:FnOk Tryz.prog 48 [.sl partK] [.val (.sl partK)] noG preClone (fun (c,_)=>(c,())):=by
 have hsp:SpecsOk Tryz.prog (sps []):=snl
 refine fn_of_trN (sp:=sps []) ent_clone (by decide) (by decide) (by kernel_rfl) ?_ ?_
 ·rintro w M0 ⟨⟩ _ hp
  show Tr _ _ _ _ _ _ _
  refine tr_vc hsp mixed _ _ ?_
  refine vcx (X:=((([]:List PT),())=(([]:List PT),()))) (by kernel_rfl) rfl
 ·rintro w M0 c ⟨⟩ _ _ hp
  revert c
  intro (c:List PT) _ hp
  have hp:c.length<1048576:=hp
  show Tr _ _ _ _ _ _ _
  refine tr_vc hsp mixed _ _ ?_
  refine vcx (X:=((0:Nat)<=(0:Nat)/\((0:Nat)+c.length)*(200:Nat)<=(140737488355328:Nat)/\(0:Nat)+c.length<=(4611686018427387904:Nat)/\(0:Nat)+((0:Nat)+c.length)<=(0:Nat)+c.length/\(List.take ((0:Nat)+c.length) (List.take 0 []++c),())=(c,()))) (by kernel_rfl) ?_
  rw[List.take_zero,List.nil_append,Nat.zero_add,List.take_length]
  exact⟨Nat.le_refl _,by omega,by omega,by omega,rfl⟩
noncomputable def spClone0:Nat × Eng.Spec:=(48,fnSpec [.sl partK] [.val (.sl partK)] preClone (fun (c,_)=>(c,())))
end Go.Proofs.YtbeeaekepmnfhaaGreatDoor.part
namespace Go.Proofs.YtbeeaekepmnfhaaGreatDoor.part
noncomputable section
open Go Go.Eng Go.RowKit Cr
def i0I (_:Unit):St:=mkSt Tryz.f129.ntmps 24 [(2,sI .i64 0),(8,sI .i64 1)] []
abbrev preIns0:HL [.sl partK,iK,iK,fnK]->Prop:=fun (_,a,b,_)=>(a:Int)=0/\(b:Int)=0
theorem fn_ins0:FnOk Tryz.prog 129 [.sl partK,iK,iK,fnK] [] noG preIns0 (fun _=>()):=by
 have hsp:SpecsOk Tryz.prog (sps []):=snl
 refine fn_of_tr (sp:=sps []) ent_ins (by decide) (by decide) (by kernel_rfl) ?_
 rintro w M0 ⟨xs,a,b,q,⟨⟩⟩
 revert xs a b q
 intro (xs:List PT) (a:Int) (b:Int) (q:Unit) _ ⟨ha,hb⟩
 have ha:a=0:=ha
 have hb:b=0:=hb
 subst ha hb
 show Tr _ _ _ _ _ _ _
 refine tr_cut hsp mixed 1 (i0I ()) True ?_ (fun _=>?_)
 ·refine vcx (X:=((i0I ()).triv True)) (by kernel_rfl) ?_
  exact tvi trivial
 refine tr_whileT noSw (fun _=>()) i0I (fun _=>True) (fun _=>0)
  (fun _=>()) i0I (fun _=>True) () (c:=nthC (codeOf Tryz.f129) 1) (by kernel_rfl) (by kernel_rfl) (le_of_proj (by kernel_rfl) (by kernel_rfl) ?_) ?_ ?_
 ·trivial
 ·rintro⟨⟩ _
  refine tr_cut hsp mixed 2 (i0I ()) False ?_ (fun h=>h.elim)
  refine vcx (X:=((decide ((1:Int)<(0:Int))=true->(i0I ()).triv False)/\(decide ((1:Int)<(0:Int))=false->(i0I ()).triv True))) (by kernel_rfl) ?_
  exact⟨fun h=>absurd h (by decide),fun _=>tvi trivial⟩
 rintro⟨⟩ _
 refine tr_vc hsp mixed _ _ ?_
 refine vcx (X:=(()=())) (by kernel_rfl) ?_
 rfl
def spIns0:Nat × Eng.Spec:=(129,fnSpec [.sl partK,iK,iK,fnK] [] preIns0 (fun _=>()))
def p0I (xs:List PT) (q:Int) (_:Unit):St:=mkSt Tryz.f89.ntmps 16 [(0,.is (.one (.ro partK xs))),(1,sI .i64 0),(2,sI .i64 0),(3,sI .i64 q),(4,fnC)] []
abbrev prePdq0:HL [.sl partK,iK,iK,iK,fnK]->Prop:=fun (_,a,b,_)=>(a:Int)=0/\(b:Int)=0
theorem fn_pdq0:FnOk Tryz.prog 89 [.sl partK,iK,iK,iK,fnK] [] noG prePdq0 (fun _=>()):=by
 have hsp:SpecsOk Tryz.prog (sps [spIns0]):=spk (fok fn_ins0) snl
 refine fn_of_tr (sp:=sps [spIns0]) ent_pdq (by decide) (by decide) (by kernel_rfl) ?_
 rintro w M0 ⟨xs,a,b,q,f,⟨⟩⟩
 revert xs a b q f
 intro (xs:List PT) (a:Int) (b:Int) (q:Int) (f:Unit) _ ⟨ha,hb⟩
 have ha:a=0:=ha
 have hb:b=0:=hb
 subst ha hb
 show Tr _ _ _ _ _ _ _
 refine tr_cut hsp mixed 2 (p0I xs q ()) True ?_ (fun _=>?_)
 ·refine vcx (X:=((p0I xs q ()).triv True)) (by kernel_rfl) ?_
  exact tvi trivial
 refine tr_whileT noSw (fun _=>()) (p0I xs q) (fun _=>True) (fun _=>0)
  (fun _=>()) (p0I xs q) (fun _=>False) () (c:=nthC (codeOf Tryz.f89) 2) (by kernel_rfl) (by kernel_rfl) (le_of_proj (by kernel_rfl) (by kernel_rfl) ?_) ?_ ?_
 ·trivial
 ·rintro⟨⟩ _
  refine tr_block (c:=nthC (loopOf (nthC (codeOf Tryz.f89) 2)) 0) (by kernel_rfl) (by kernel_rfl) ?_
  refine tr_cut hsp mixed 3 (p0I xs q ()) False ?_ (fun h=>h.elim)
  refine vcx (X:=((decide (IntKind.i64.wrap ((0:Int)-(0:Int))<=(12:Int))=true->preIns0 (xs,(0:Int),(0:Int),(),())/\()=())/\(decide (IntKind.i64.wrap ((0:Int)-(0:Int))<=(12:Int))=false->(p0I xs q ()).triv False))) (by kernel_rfl) ?_
  exact⟨fun _=>⟨⟨rfl,rfl⟩,rfl⟩,fun h=>absurd h (by decide)⟩
 ·rintro _ h
  exact absurd h id
def spPdq0:Nat × Eng.Spec:=(89,fnSpec [.sl partK,iK,iK,iK,fnK] [] prePdq0 (fun _=>()))
abbrev preSort0:HL [.sl partK,fnK]->Prop:=fun (xs,_)=>List.length xs=0
theorem fn_sort0:FnOk Tryz.prog 49 [.sl partK,fnK] [] noG preSort0 (fun _=>()):=by
 have hsp:SpecsOk Tryz.prog (sps [spLen,spPdq0]):=spk (fok fn_len) (spk (fok fn_pdq0) snl)
 refine fn_of_tr (sp:=sps [spLen,spPdq0]) ent_sort (by decide) (by decide) (by kernel_rfl) ?_
 rintro w M0 ⟨xs,f,⟨⟩⟩
 revert xs f
 intro (xs:List PT) (f:Unit) _ hl
 have hl:xs.length=0:=hl
 show Tr _ _ _ _ _ _ _
 refine tr_vc hsp mixed _ _ ?_
 refine vcx (X:=(((0:Int)<=IntKind.u64.wrap (↑xs.length:Int)/\IntKind.u64.wrap (↑xs.length:Int)<=(12:Int))/\prePdq0 (xs,(0:Int),(↑xs.length:Int),lenT (IntKind.u64.wrap (↑xs.length:Int)),(),())/\()=())) (by kernel_rfl) ?_
 have e:IntKind.u64.wrap (xs.length:Int)=0:=by rw[hl];decide
 rw[e]
 exact⟨⟨by decide,by decide⟩,⟨rfl,by show ((xs.length:Nat):Int)=0;omega⟩,rfl⟩
def spSort0:Nat × Eng.Spec:=(49,fnSpec [.sl partK,fnK] [] preSort0 (fun _=>()))
end
end Go.Proofs.YtbeeaekepmnfhaaGreatDoor.part
namespace Go.Proofs.YtbeeaekepmnfhaaGreatDoor.part
noncomputable section
open Go Go.Eng Go.RowKit Cr poly
abbrev z2:(Fp × Fp) × (Fp × Fp):=((0,0),(0,0))
def jn (m:Nat) (ss:List PT):((Fp × Fp) × (Fp × Fp)) × Int × Unit :=
 if scn none (ss.map keyP)=0 then (if m=0\/ss.length<m then (z2,32,()) else ((mixS ((ss.take m).map keyP) ((ss.take m).map Prod.snd)).1,(mixS ((ss.take m).map keyP) ((ss.take m).map Prod.snd)).2,()))
 else (z2,scn none (ss.map keyP),())
theorem scn_step {ks:List Int} {k:Nat} (hk:k<ks.length) (q:Option Int):scn q (ks.drop k)=if memI (ks.getD k 0)=false then 34 else if q=some (ks.getD k 0) then 33 else scn (some (ks.getD k 0)) (ks.drop (k+1)):=by
 have e:ks.getD k 0=ks[k]:=by rw[List.getD_eq_getElem?_getD,List.getElem?_eq_getElem hk];rfl
 rw[List.drop_eq_getElem_cons hk,e,scn]
theorem scn0:∀ {l:List Int} {q:Option Int},scn q l=0->∀ x∈l,memI x=true
 | [],_,_,x,hx=>by cases hx
 | y::l,q,h,x,hx=>by
  unfold scn at h
  by_cases h1:memI y=false
  ·rw[if_pos h1] at h;cases h
  ·rw[if_neg h1] at h
   by_cases h2:q=some y
   ·rw[if_pos h2] at h;cases h
   ·rw[if_neg h2] at h
    rcases List.mem_cons.1 hx with rfl|hx
    ·simpa using h1
    ·exact scn0 h x hx
theorem set_getD {α:Type} {l:List α} {k:Nat} (hk:k<l.length) (v z:α) (j:Nat):(l.set k v).getD j z=if j=k then v else l.getD j z:=by
 simp only[List.getD_eq_getElem?_getD,List.getElem?_set]
 by_cases h:j=k
 ·subst h;simp[hk]
 ·rw[if_neg (fun e=>h e.symm),if_neg h]
theorem ext_map {α β:Type} {ss:List α} {zα:α} {f:α->β} {zβ:β} {m:Nat} {xs:List β} (hm:m<=ss.length) (hl:xs.length=m) (h:∀ j,j<m->xs.getD j zβ=f (ss.getD j zα)):xs=(ss.take m).map f:=by
 refine List.ext_getElem (by rw[List.length_map,List.length_take];omega) fun j h1 h2=>?_
 have:=h j (by omega)
 rw[List.getD_eq_getElem?_getD,List.getD_eq_getElem?_getD,List.getElem?_eq_getElem h1,List.getElem?_eq_getElem (by omega)] at this
 simpa using this
def prv (ks:List Int):Nat->Option Int
 | 0=>none
 | k+1=>some (ks.getD k 0)
theorem ent_join:enters Tryz.prog 17 Tryz.f17:=ek
def j0I (c:List (Fp × Fp)) (ps:List PT) (_:Unit):St:=mkSt Tryz.f17.ntmps 80 [(0,.is (.one (.ro pt1 c))),(4,.is (.one (.ptr 0 0))),(6,.is (.one (.ro partK ps))),(17,sI .i64 0),(18,sI .i64 0)] [(0,g2.pc (0,0))]
theorem fn_join0:FnOk Tryz.prog 17 [.sl pt1,.sl partK] [.val pt2,.val iK] noG (fun (_,ps,_)=>List.length ps=0) (fun _=>(z2,32,())):=by
 have hsp:SpecsOk Tryz.prog (sps [spClone0,spSort0]):=spk (fok fn_clone0) (spk (fok fn_sort0) snl)
 refine fn_of_tr (sp:=sps [spClone0,spSort0]) ent_join (by decide) (by decide) (by kernel_rfl) ?_
 rintro w M0 ⟨c,ps,⟨⟩⟩
 revert c ps
 intro (c:List (Fp × Fp)) (ps:List PT) _ hl
 have hl:ps.length=0:=hl
 have hn:ps=[]:=List.eq_nil_of_length_eq_zero hl
 show Tr _ _ _ _ _ _ _
 refine tr_cutF hsp mixed 4 (fun σ=>rdS iK 17 σ) (fun n=>mkSt Tryz.f17.ntmps 80 [(0,.is (.one (.ro pt1 c))),(4,.is (.one (.ptr 0 0))),(6,.is (.one (.ro partK ps))),(17,sI .i64 n),(18,sI .i64 0)] [(0,g2.pc (0,0))]) (fun n=>n=0) ?_ ?_
 ·refine vcx (X:=(preClone (ps,())/\preSort0 (ps,(),())/\(mkSt Tryz.f17.ntmps (80:Nat) [((0:Nat),SV.is (TV.one (Cell.ro pt1 c))),((4:Nat),SV.is (TV.one (Cell.ptr (0:Nat) (0:Nat)))),((6:Nat),SV.is (TV.one (Cell.ro partK ps))),((17:Nat),sI IntKind.i64 (↑(ps,()).fst.length:Int)),((18:Nat),sI IntKind.i64 (0:Int))] [((0:Nat),g2.pc ((0:F2),(0:F2)))]).triv ((↑ps.length:Int)=(0:Car iK)))) (by kernel_rfl) ?_
  exact⟨by show ps.length<_;omega,hl,tvi (by show (ps.length:Int)=0;omega)⟩
 intro (n:Int) (hn:n=0)
 subst hn
 refine tr_whileT noSw (fun _=>()) (j0I c ps) (fun _=>True) (fun _=>0)
  (fun _=>()) (j0I c ps) (fun _=>True) () (c:=nthC (codeOf Tryz.f17) 4) (by kernel_rfl) (by kernel_rfl) (le_of_proj (by kernel_rfl) (by kernel_rfl) ?_) ?_ ?_
 ·trivial
 ·rintro⟨⟩ _
  refine tr_cut hsp mixed 2 (j0I c ps ()) False ?_ (fun h=>h.elim)
  refine vcx (X:=((decide ((0:Int)<(0:Int))=true->(j0I c ps ()).triv False)/\(decide ((0:Int)<(0:Int))=false->(j0I c ps ()).triv True))) (by kernel_rfl) ?_
  exact⟨fun h=>absurd h (by decide),fun _=>tvi trivial⟩
 rintro⟨⟩ _
 refine tr_cut hsp mixed 2 (j0I c ps ()) False ?_ (fun h=>h.elim)
 refine vcx (X:=((((↑c.length:Int)==(0:Int))=true->((((0:Fp),(0:Fp)),(0:Fp),(0:Fp)),(32:Int),())=(z2,(32:Int),()))/\(((↑c.length:Int)==(0:Int))=false->(decide ((↑ps.length:Int)<(↑c.length:Int))=true->((((0:Fp),(0:Fp)),(0:Fp),(0:Fp)),(32:Int),())=(z2,(32:Int),()))/\(decide ((↑ps.length:Int)<(↑c.length:Int))=false->(j0I c ps ()).triv False)))) (by kernel_rfl) ?_
 refine⟨fun _=>rfl,fun h1=>⟨fun _=>rfl,fun h2=>?_⟩⟩
 have h1:¬ (c.length:Int)=0:=fun e=>by rw[e] at h1;cases h1
 have h2:=of_decide_eq_false h2
 omega
def jI (c:List (Fp × Fp)) (ss:List PT) (i:Int):St:=mkSt Tryz.f17.ntmps 80 [(0,.is (.one (.ro pt1 c))),(4,.is (.one (.ptr 0 0))),(6,.is (.one (.ro partK ss))),(16,.is (.one (.ro partK ss))),(17,sI .i64 ss.length),(18,sI .i64 i)] [(0,g2.pc (0,0))]
def jK (ss:List PT) (m:Nat) (g:Int × List Int × List ((Fp × Fp) × (Fp × Fp))):St:=mkSt Tryz.f17.ntmps 248 [(4,.is (.one (.ptr 0 0))),(6,.is (.one (.ro partK ss))),(9,.is (.one (.sl 176 0 0 m 1))),(10,.is (.one (.sl 208 0 0 m 24))),(61,sI .i64 m),(62,sI .i64 g.1)] [(0,g2.pc (0,0)),(176,[.ints .i64 m g.2.1]),(208,[.row pt2 m g.2.2])]
def jO (c:List (Fp × Fp)) (ss:List PT) (_:Unit):St:=mkSt Tryz.f17.ntmps 80 [(0,.is (.one (.ro pt1 c))),(4,.is (.one (.ptr 0 0))),(6,.is (.one (.ro partK ss)))] [(0,g2.pc (0,0))]
def jL (m:Nat) (g:List Int × List ((Fp × Fp) × (Fp × Fp))):St:=mkSt Tryz.f17.ntmps 248 [(4,.is (.one (.ptr 0 0))),(9,.is (.one (.sl 176 0 0 m 1))),(10,.is (.one (.sl 208 0 0 m 24)))] [(0,g2.pc (0,0)),(176,[.ints .i64 m g.1]),(208,[.row pt2 m g.2])]
def jJ (ss:List PT) (i:Int):Prop:=∃ k:Nat,k<=ss.length/\i=(k:Int)/\scn none (ss.map keyP)=scn (prv (ss.map keyP) k) ((ss.map keyP).drop k)
def jJ2 (ss:List PT) (m:Nat) (g:Int × List Int × List ((Fp × Fp) × (Fp × Fp))):Prop:=∃ k:Nat,k<=m/\g.1=(k:Int)/\g.2.1.length=m/\g.2.2.length=m/\∀ j,j<k->g.2.1.getD j 0=(ss.getD j zP).1/\g.2.2.getD j z2=(ss.getD j zP).2
abbrev preJoin1:HL [.sl pt1,.sl partK]->Prop:=fun (c,ps,_)=>0<List.length ps/\List.length ps<=12/\List.length c<1048576
theorem fn_join1:FnOk Tryz.prog 17 [.sl pt1,.sl partK] [.val pt2,.val iK] noG preJoin1 (fun (c,ps,_)=>jn (List.length c) (srtP ps)):=by
 have hsp:SpecsOk Tryz.prog (sps [spClone,spSort,spMember,spSig]):=spk (fok fn_clone) (spk (fnSpecS_ok fn_sort) (spk (fok fn_member) (spk (fok fn_sig) snl)))
 refine fn_of_tr (sp:=sps [spClone,spSort,spMember,spSig]) ent_join (by decide) (by decide) (by kernel_rfl) ?_
 rintro w M0 ⟨c,ps,⟨⟩⟩
 revert c ps
 intro (c:List (Fp × Fp)) (ps:List PT) _ hp
 obtain⟨h0,h1,h2⟩:=hp
 have h0:0<ps.length:=h0
 have h1:ps.length<=12:=h1
 have h2:c.length<1048576:=h2
 have hsl:(srtP ps).length=ps.length:=(srtA_perm zP keyP ps).length_eq
 show Tr _ _ _ _ _ _ _
 refine tr_cutF hsp mixed 3 (fun σ=>rdR partK 24 σ) (fun ss=>mkSt Tryz.f17.ntmps 56 [(0,.is (.one (.ro pt1 c))),(4,.is (.one (.ptr 0 0))),(6,.is (.one (.sl 24 0 0 ps.length 25)))] [(0,g2.pc (0,0)),(24,[.row partK ps.length ss])]) (fun ss=>ss=srtP ps) ?_ ?_
 ·refine vcx (X:=(preClone (ps,())/\ps.length=ps.length/\(0:Nat)<ps.length/\preSort (ps,(),())/\(mkSt Tryz.f17.ntmps (56:Nat) [((0:Nat),SV.is (TV.one (Cell.ro pt1 c))),((4:Nat),SV.is (TV.one (Cell.ptr (0:Nat) (0:Nat)))),((6:Nat),SV.is (TV.one (Cell.sl (24:Nat) (0:Nat) (0:Nat) ps.length (25:Nat))))] [((0:Nat),g2.pc ((0:F2),(0:F2))),((24:Nat),[Cell.row partK ps.length (srtP (ps,()).fst,()).fst])]).triv (srtP ps=srtP ps))) (by kernel_rfl) ?_
  exact⟨by show ps.length<_;omega,rfl,h0,h1,tvi rfl⟩
 intro (ss:List PT) (hss:ss=srtP ps)
 have hsn:ss.length=ps.length:=by rw[hss];exact hsl
 have hkl:(ss.map keyP).length=ss.length:=List.length_map ..
 have hkg:∀ k,k<ss.length->(ss.map keyP).getD k 0=(ss.getD k zP).1:=fun k hk=>by
  rw[List.getD_eq_getElem?_getD,List.getD_eq_getElem?_getD,List.getElem?_map,List.getElem?_eq_getElem hk];rfl
 refine tr_frz 6 24 ps.length 25 partK ss rfl rfl hsn ?_
 refine tr_cut hsp mixed 1 (jI c ss 0) True ?_ (fun _=>?_)
 ·refine vcx (X:=((jI c ss (0:Int)).triv True)) (by kernel_rfl) ?_
  exact tvi trivial
 refine tr_while hsp mixed noSw (fun σ=>rdS iK 18 σ) (jI c ss) (jJ ss) (fun i=>ss.length-i.toNat)
  (fun _=>()) (jO c ss) (fun _=>scn none (ss.map keyP)=0) 0 (c:=nthC (codeOf Tryz.f17) 4) (by kernel_rfl) (by kernel_rfl) (le_of_proj (by kernel_rfl) (by kernel_rfl) ?_) ?_ ?_
 ·exact⟨0,Nat.zero_le _,rfl,rfl⟩
 ·intro (i:Int) ⟨k,hk,ei,es⟩
  subst ei
  refine vcx (X:=((decide ((↑k:Int)<(↑ss.length:Int))=true->((0:Int)<=(↑k:Int)/\(↑k:Int)<(↑ss.length:Int))/\(↑k:Int).toNat<ss.length/\True/\((!memI (ss.getD (↑k:Int).toNat ((0:Int),((0:Fp),(0:Fp)),(0:Fp),(0:Fp))).fst)=true->((((0:Fp),(0:Fp)),(0:Fp),(0:Fp)),(34:Int),())=jn c.length (srtP ps))/\((!memI (ss.getD (↑k:Int).toNat ((0:Int),((0:Fp),(0:Fp)),(0:Fp),(0:Fp))).fst)=false->(decide ((↑k:Int)>(0:Int))=true->((0:Int)<=IntKind.i64.wrap ((↑k:Int)-(1:Int))/\IntKind.i64.wrap ((↑k:Int)-(1:Int))<(↑ss.length:Int))/\(IntKind.i64.wrap ((↑k:Int)-(1:Int))).toNat<ss.length/\(((ss.getD (IntKind.i64.wrap ((↑k:Int)-(1:Int))).toNat ((0:Int),((0:Fp),(0:Fp)),(0:Fp),(0:Fp))).fst==(ss.getD (↑k:Int).toNat ((0:Int),((0:Fp),(0:Fp)),(0:Fp),(0:Fp))).fst)=true->((((0:Fp),(0:Fp)),(0:Fp),(0:Fp)),(33:Int),())=jn c.length (srtP ps))/\(((ss.getD (IntKind.i64.wrap ((↑k:Int)-(1:Int))).toNat ((0:Int),((0:Fp),(0:Fp)),(0:Fp),(0:Fp))).fst==(ss.getD (↑k:Int).toNat ((0:Int),((0:Fp),(0:Fp)),(0:Fp),(0:Fp))).fst)=false->(jI c ss (IntKind.i64.wrap ((↑k:Int)+(1:Int)))).triv (jJ ss (IntKind.i64.wrap ((↑k:Int)+(1:Int)))/\ss.length-(IntKind.i64.wrap ((↑k:Int)+(1:Int))).toNat<ss.length-(↑k:Int).toNat)))/\(decide ((↑k:Int)>(0:Int))=false->(jI c ss (IntKind.i64.wrap ((↑k:Int)+(1:Int)))).triv (jJ ss (IntKind.i64.wrap ((↑k:Int)+(1:Int)))/\ss.length-(IntKind.i64.wrap ((↑k:Int)+(1:Int))).toNat<ss.length-(↑k:Int).toNat))))/\(decide ((↑k:Int)<(↑ss.length:Int))=false->(jO c ss ()).triv (scn none (List.map keyP ss)=(0:Int))))) (by kernel_rfl) ?_
  rw[Int.toNat_natCast]
  refine⟨fun h=>?_,fun h=>tvi ?_⟩
  ·have hlt:k<ss.length:=by have:=of_decide_eq_true h;omega
   have st:=scn_step (ks:=ss.map keyP) (k:=k) (by rw[hkl];exact hlt) (prv (ss.map keyP) k)
   have pn:prv (ss.map keyP) (k+1)=some (ss.getD k zP).1:=by rw[prv,hkg k hlt]
   rw[hkg k hlt,<- es] at st
   rw[wrap_i64' (show -9223372036854775808<=(k:Int)+1 by omega) (by omega)]
   have hmu:ss.length-((k:Int)+1).toNat<ss.length-k:=by omega
   refine⟨⟨by omega,by omega⟩,hlt,trivial,fun hm=>?_,fun hm=>?_⟩
   ·have hm:memI (ss.getD k zP).1=false:=by simpa using hm
    rw[if_pos hm] at st
    rw[<- hss,jn,st,if_neg (by decide)]
   have hm:¬ memI (ss.getD k zP).1=false:=by simpa using hm
   rw[if_neg hm] at st
   refine⟨fun h0=>?_,fun h0=>tvi ?_⟩
   ·obtain⟨u,rfl⟩:∃ u,k=u+1:=⟨k-1,by have:=of_decide_eq_true h0;omega⟩
    have e1:IntKind.i64.wrap (((u+1:Nat):Int)-1)=(u:Int):=by rw[wrap_i64' (by omega) (by omega)];omega
    have pu:prv (ss.map keyP) (u+1)=some (ss.getD u zP).1:=by rw[prv,hkg u (by omega)]
    rw[pu] at st
    rw[e1,Int.toNat_natCast]
    refine⟨⟨by omega,by omega⟩,by omega,fun he=>?_,fun he=>tvi ?_⟩
    ·have he:(ss.getD u zP).1=(ss.getD (u+1) zP).1:=eq_of_beq he
     rw[if_pos (by rw[he])] at st
     rw[<- hss,jn,st,if_neg (by decide)]
    ·rw[if_neg (fun e=>by rw[Option.some.inj e,beq_self_eq_true] at he;cases he)] at st
     exact⟨⟨u+1+1,hlt,rfl,by rw[pn];exact st⟩,hmu⟩
   ·have:k=0:=by have:=of_decide_eq_false h0;omega
    subst this
    rw[if_neg (fun e=>by cases e)] at st
    exact⟨⟨0+1,hlt,rfl,by rw[pn];exact st⟩,hmu⟩
  ·have:k=ss.length:=by have:=of_decide_eq_false h;omega
   subst this
   rw[es,<- hkl,List.drop_length,scn]
 rintro⟨⟩ hs0
 refine tr_cut hsp mixed 5 (jK ss c.length (0,List.replicate c.length 0,List.replicate c.length z2)) (0<c.length/\c.length<=ss.length) ?_ (fun hm=>?_)
 ·refine vcx (X:=((((↑c.length:Int)==(0:Int))=true->((((0:Fp),(0:Fp)),(0:Fp),(0:Fp)),(32:Int),())=jn c.length (srtP ps))/\(((↑c.length:Int)==(0:Int))=false->(decide ((↑ss.length:Int)<(↑c.length:Int))=true->((((0:Fp),(0:Fp)),(0:Fp),(0:Fp)),(32:Int),())=jn c.length (srtP ps))/\(decide ((↑ss.length:Int)<(↑c.length:Int))=false->((0:Int)<=(↑c.length:Int)/\(↑c.length:Int)<=(↑c.length:Int)/\(↑(8:Nat):Int)*(↑c.length:Int)<=(281474976710656:Int)/\(↑c.length:Int)<=(9223372036854775807:Int))/\((0:Int)<=(↑c.length:Int)/\(↑c.length:Int)<=(↑c.length:Int)/\(↑(192:Nat):Int)*(↑c.length:Int)<=(281474976710656:Int)/\(↑c.length:Int)<=(9223372036854775807:Int))/\(jK ss c.length ((0:Int),List.replicate c.length (0:Int),List.replicate c.length z2)).triv ((0:Nat)<c.length/\c.length<=ss.length))))) (by kernel_rfl) ?_
  refine⟨fun h=>?_,fun h=>⟨fun h2=>?_,fun h2=>⟨⟨by omega,Int.le_refl _,by omega,by omega⟩,⟨by omega,Int.le_refl _,by omega,by omega⟩,tvi ⟨?_,?_⟩⟩⟩⟩
  ·have h:(c.length:Int)=0:=eq_of_beq h
   rw[<- hss,jn,if_pos hs0,if_pos (.inl (by omega))]
  ·have h2:=of_decide_eq_true h2
   rw[<- hss,jn,if_pos hs0,if_pos (.inr (by omega))]
  ·have h:¬ (c.length:Int)=0:=fun e=>by rw[e] at h;cases h
   omega
  ·have h2:=of_decide_eq_false h2
   omega
 obtain⟨hm0,hm⟩:=hm
 refine tr_while hsp mixed noSw (fun σ=>(rdS iK 62 σ,rdR iK 176 σ,rdR pt2 208 σ)) (jK ss c.length) (jJ2 ss c.length) (fun g=>c.length-g.1.toNat)
  (fun σ=>(rdR iK 176 σ,rdR pt2 208 σ)) (jL c.length) (fun g=>g=((ss.take c.length).map keyP,(ss.take c.length).map Prod.snd)) (0,List.replicate c.length 0,List.replicate c.length z2) (c:=nthC (codeOf Tryz.f17) 10) (by kernel_rfl) (by kernel_rfl) (le_of_proj (by kernel_rfl) (by kernel_rfl) ?_) ?_ ?_
 ·exact⟨0,Nat.zero_le _,rfl,List.length_replicate ..,List.length_replicate ..,fun j hj=>absurd hj (Nat.not_lt_zero j)⟩
 ·rintro⟨i,xs,qs⟩ hj
  revert i xs qs
  intro (i:Int) (xs:List Int) (qs:List ((Fp × Fp) × (Fp × Fp))) ⟨k,hk,ei,lx,lq,ea⟩
  have ei:i=(k:Int):=ei
  subst ei
  have lx:xs.length=c.length:=lx
  have lq:qs.length=c.length:=lq
  have ea:∀ j,j<k->xs.getD j 0=(ss.getD j zP).1/\qs.getD j z2=(ss.getD j zP).2:=ea
  refine vcx (X:=((decide ((↑k:Int)<(↑c.length:Int))=true->((0:Int)<=(↑k:Int)/\(↑k:Int)<(↑ss.length:Int))/\(↑k:Int).toNat<ss.length/\((0:Int)<=(↑k:Int)/\(↑k:Int)<(↑ss.length:Int))/\(↑k:Int).toNat<ss.length/\((0:Int)<=(↑k:Int)/\(↑k:Int)<(↑c.length:Int))/\(↑k:Int).toNat<c.length/\((0:Int)<=(↑k:Int)/\(↑k:Int)<(↑c.length:Int))/\(↑k:Int).toNat<c.length/\(jK ss c.length (IntKind.i64.wrap ((↑k:Int)+(1:Int)),xs.set (↑k:Int).toNat (ss.getD (↑k:Int).toNat ((0:Int),((0:Fp),(0:Fp)),(0:Fp),(0:Fp))).fst,qs.set (↑k:Int).toNat (ss.getD (↑k:Int).toNat ((0:Int),((0:Fp),(0:Fp)),(0:Fp),(0:Fp))).snd)).triv (jJ2 ss c.length (IntKind.i64.wrap ((↑k:Int)+(1:Int)),xs.set (↑k:Int).toNat (ss.getD (↑k:Int).toNat ((0:Int),((0:Fp),(0:Fp)),(0:Fp),(0:Fp))).fst,qs.set (↑k:Int).toNat (ss.getD (↑k:Int).toNat ((0:Int),((0:Fp),(0:Fp)),(0:Fp),(0:Fp))).snd)/\c.length-(IntKind.i64.wrap ((↑k:Int)+(1:Int))).toNat<c.length-(↑k:Int).toNat))/\(decide ((↑k:Int)<(↑c.length:Int))=false->(jL c.length (xs,qs)).triv ((xs,qs)=(List.map keyP (List.take c.length ss),List.map Prod.snd (List.take c.length ss)))))) (by kernel_rfl) ?_
  rw[Int.toNat_natCast]
  refine⟨fun h=>?_,fun h=>tvi ?_⟩
  ·have hlt:k<c.length:=by have:=of_decide_eq_true h;omega
   rw[wrap_i64' (show -9223372036854775808<=(k:Int)+1 by omega) (by omega)]
   refine⟨⟨by omega,by omega⟩,by omega,⟨by omega,by omega⟩,by omega,⟨by omega,by omega⟩,hlt,⟨by omega,by omega⟩,hlt,tvi ⟨⟨k+1,hlt,rfl,?_,?_,fun j hj=>?_⟩,by omega⟩⟩
   ·show List.length _=_;rw[List.length_set,lx]
   ·show List.length _=_;rw[List.length_set,lq]
   ·show (xs.set k _).getD j 0=_/\(qs.set k _).getD j z2=_
    rw[set_getD (by omega),set_getD (by omega)]
    by_cases e:j=k
    ·rw[if_pos e,if_pos e,e];exact⟨rfl,rfl⟩
    ·rw[if_neg e,if_neg e];exact ea j (by omega)
  ·have:k=c.length:=by have:=of_decide_eq_false h;omega
   rw[this] at ea
   exact Prod.ext (ext_map (zα:=zP) (f:=keyP) (zβ:=0) hm lx (fun j hj=>(ea j hj).1)) (ext_map (zα:=zP) (f:=Prod.snd) (zβ:=z2) hm lq (fun j hj=>(ea j hj).2))
 rintro _ rfl
 refine tr_vc hsp mixed _ _ ?_
 refine vcx (X:=((0:Nat)+c.length<=c.length/\(0:Nat)+c.length<=c.length/\preMixS (List.take c.length (List.map keyP (List.take c.length ss)),List.take c.length (List.map Prod.snd (List.take c.length ss)),())/\((mixS (List.take c.length (List.map keyP (List.take c.length ss))) (List.take c.length (List.map Prod.snd (List.take c.length ss)))).fst,(mixS (List.take c.length (List.map keyP (List.take c.length ss))) (List.take c.length (List.map Prod.snd (List.take c.length ss)))).snd,())=jn c.length (srtP ps))) (by kernel_rfl) ?_
 have lk:((ss.take c.length).map keyP).length=c.length:=by rw[List.length_map,List.length_take];omega
 have lp:((ss.take c.length).map (Prod.snd:PT->(Fp × Fp) × (Fp × Fp))).length=c.length:=by rw[List.length_map,List.length_take];omega
 rw[List.take_of_length_le (Nat.le_of_eq lk),List.take_of_length_le (Nat.le_of_eq lp)]
 refine⟨by omega,by omega,⟨by show List.length _<_;rw[lk];omega,fun x hx=>?_⟩,?_⟩
 ·have hx:x∈ss.map keyP:=List.map_subset _ (fun y hy=>List.mem_of_mem_take hy) hx
  have:=scn0 hs0 x hx
  simp[memI] at this
  exact⟨by omega,by omega⟩
 ·rw[<- hss,jn,if_pos hs0,if_neg (by omega)]
abbrev preJoin:HL [.sl pt1,.sl partK]->Prop:=fun (c,ps,_)=>List.length ps<=12/\List.length c<1048576
theorem fn_join:FnOk Tryz.prog 17 [.sl pt1,.sl partK] [.val pt2,.val iK] noG preJoin (fun (c,ps,_)=>jn (List.length c) (srtP ps)):=by
 rintro w M us ⟨c,ps,⟨⟩⟩ hM hG hin ⟨h1,h2⟩
 revert c ps
 intro (c:List (Fp × Fp)) (ps:List PT) hin (h1:ps.length<=12) (h2:c.length<1048576)
 by_cases h0:ps.length=0
 ·have e:=fn_join0 w M us (c,ps,()) hM hG hin h0
  have hn:ps=[]:=List.eq_nil_of_length_eq_zero h0
  subst hn
  have ej:jn c.length (srtP [])=(z2,32,()):=by
   show jn c.length []=_
   have hc:c.length=0\/([]:List PT).length<c.length:=by
    by_cases hc:c.length=0
    ·exact .inl hc
    ·exact .inr (by show 0<_;omega)
   rw[jn,if_pos (show scn none (([]:List PT).map keyP)=0 from rfl),if_pos hc]
  show CallOk _ _ _ _ _
  rw[show (fun x:HL [.sl pt1,.sl partK]=>jn (List.length x.1) (srtP x.2.1)) (c,[],())=(z2,32,()) from ej]
  exact e
 ·exact fn_join1 w M us (c,ps,()) hM hG hin ⟨by show 0<ps.length;omega,h1,h2⟩
end
end Go.Proofs.YtbeeaekepmnfhaaGreatDoor.part
namespace Go.Proofs.YtbeeaekepmnfhaaGreatDoor.poly
open Go Go.Eng Go.RowKit Cr
noncomputable def mxR (ws:List Fr) (ts:List (Fr)):Nat->Fr
 | 0=>0
 | k+1=>mxR ws ts k+(ts.getD k 0)*(ws.getD k 0)
noncomputable def mixR (xs:List Int) (ts:List (Fr)):(Fr) × Int:=if xs.length=ts.length then (if plE [] xs=0 then (mxR (wtsF xs) ts xs.length,0) else (0,plE [] xs)) else (0,1)
end Go.Proofs.YtbeeaekepmnfhaaGreatDoor.poly
namespace Go.Proofs.YtbeeaekepmnfhaaGreatDoor.poly
open Go Go.Eng Go.RowKit Cr Rg Fd
theorem sm_snoc {F:Type} [Rg F]:∀ (l:List F) (a:F),sm (l++[a])=sm l+a
 | [],a=>by show a+0=0+a;rw[Rg.add_comm]
 | b::l,a=>by show b+sm (l++[a])=b+sm l+a;rw[sm_snoc l a,Rg.add_assoc]
theorem getD_map {α β:Type} (f:α->β) {l:List α} {k:Nat} (h:k<l.length) (d:β):(l.map f).getD k d=f l[k]:=by
 rw[List.getD_eq_getElem?_getD,List.getElem?_map,List.getElem?_eq_getElem h];rfl
theorem mxR_map (xs:List Int) (g f:Int->Fr):∀ k,k<=xs.length->mxR (xs.map g) (xs.map f) k=sm ((xs.take k).map fun x=>g x*f x)
 | 0,_=>rfl
 | k+1,h=>by
  have hk:k<xs.length:=h
  rw[mxR,mxR_map xs g f k (by omega),getD_map f hk,getD_map g hk,List.take_succ_eq_append_getElem hk,List.map_append,List.map_cons,List.map_nil,sm_snoc,mul_comm (f _)]
theorem nodup_zm {xs:List Int} (h:∀ x∈xs,1<=x/\x<=9) (hd:xs.Nodup):(xs.map fun y=>(zm y:Fr)).Nodup:=by
 induction xs with
 | nil=>exact List.nodup_nil
 | cons a l ih =>
  obtain⟨h1,h2⟩:=List.nodup_cons.1 hd
  refine List.nodup_cons.2 ⟨fun hm=>?_,ih (fun x hx=>h x (by simp[hx])) h2⟩
  obtain⟨y,hy,e⟩:=List.mem_map.1 hm
  exact h1 (zm_inj9 (h y (by simp[hy])) (h a (by simp)) e▸hy)
theorem lag_sum {xs:List Int} (h:plE [] xs=0) {q:List Fr} (hq:q.length<=xs.length):sm (xs.map fun x=>wtI xs x*peval q (zm x))=peval q 0:=by
 obtain⟨h1,h2⟩:=plE_ok h
 have hl:=lagrange (nodup_zm (fun x hx=>(h1 x hx).1) h2) q (by simpa using hq)
 rw[List.map_map] at hl
 rw[<- hl]
 refine sm_congr fun x _=>?_
 rw[wtI,opq_eq];rfl
theorem mix_ok {xs:List Int} (h:plE [] xs=0) {p:List Fr} (hp:p.length<=xs.length):mixR xs (xs.map (pat p))=(pat p 0,0):=by
 rw[mixR,if_pos (by simp),if_pos h,wtsF,if_pos h,mxR_map xs _ _ _ (Nat.le_refl _),List.take_length,pat_eq,<- show (0:Fr)=zm 0 from rfl,<- lag_sum h hp]
 congr 1
 refine sm_congr fun x _=>?_
 rw[pat_eq]
end Go.Proofs.YtbeeaekepmnfhaaGreatDoor.poly
namespace Cr
open Rg Fd
theorem pigeon:∀ (B A:Nat) (f:Nat->Nat),(∀ i,i<A->f i<B)->(∀ i j,i<A->j<A->f i=f j->i=j)->A<=B:=by
 intro B
 induction B with
 | zero =>
  intro A f h _
  cases A with
  | zero=>exact Nat.le_refl 0
  | succ A=>exact absurd (h 0 (by omega)) (by omega)
 | succ B ih =>
  intro A f h inj
  cases A with
  | zero=>omega
  | succ A =>
   have ne:∀ i,i<A->f i≠f A:=fun i hi e=>by have:=inj i A (by omega) (by omega) e;omega
   have:=ih A (fun i=>if f i>f A then f i-1 else f i) (fun i hi=>by
    have h1:=h i (by omega)
    have h2:=h A (by omega)
    have h3:=ne i hi
    show (if f i>f A then f i-1 else f i)<B
    split<;>omega) (fun i j hi hj e=>by
    have h3:=ne i hi
    have h4:=ne j hj
    have e:(if f i>f A then f i-1 else f i)=(if f j>f A then f j-1 else f j):=e
    refine inj i j (by omega) (by omega) ?_
    split at e<;>split at e<;>omega)
   omega
theorem bez (m n:Nat):∃ u v:Int,u*(m:Int)+v*(n:Int)=((Nat.gcd m n:Nat):Int):=by
 induction m,n using Nat.gcd.induction with
 | H0 n=>exact⟨0,1,by simp⟩
 | H1 m n hm ih =>
  obtain⟨u,v,h⟩:=ih
  refine⟨v-u*((n/m:Nat):Int),u,?_⟩
  rw[Nat.gcd_rec,<- h]
  have e:(n:Int)=(m:Int)*((n/m:Nat):Int)+((n%m:Nat):Int):=by
   have:=Nat.div_add_mod n m
   rw[<- Int.natCast_mul,<- Int.natCast_add,this]
  generalize ((n/m:Nat):Int)=q at *
  generalize ((n%m:Nat):Int)=t at *
  rw[e,Int.sub_mul,Int.mul_add]
  have:u*q*(m:Int)=u*((m:Int)*q):=by rw[Int.mul_assoc,Int.mul_comm q]
  omega
theorem inv_mod {l a:Nat} (h:Nat.Coprime l a) (hl:1<l):∃ s:Nat,a*s%l=1:=by
 obtain⟨u,v,e⟩:=bez l a
 rw[h] at e
 refine⟨(v%(l:Int)).toNat,?_⟩
 have hv:(((v%(l:Int)).toNat:Nat):Int)=v%(l:Int):=Int.toNat_of_nonneg (Int.emod_nonneg _ (by omega))
 have:(((a*(v%(l:Int)).toNat%l:Nat)):Int)=1:=by
  rw[Int.natCast_emod,Int.natCast_mul,hv,Int.mul_emod,Int.emod_emod_of_dvd _ (Int.dvd_refl _),<- Int.mul_emod]
  have e2:(a:Int)*v=1+(l:Int)*(-u):=by
   rw[Int.mul_neg,Int.mul_comm (l:Int) u,Int.mul_comm (a:Int) v]
   omega
  rw[e2,Int.add_mul_emod_self_left]
  exact Int.emod_eq_of_lt (by omega) (by omega)
 omega
section
variable {F:Type} [Fd F] {b:F} (hb:b≠0)
include hb
theorem nmul_gcd {S:F × F} (oS:OnP b S) (m n:Nat):nmul S m=O2->nmul S n=O2->nmul S (Nat.gcd m n)=O2:=by
 induction m,n using Nat.gcd.induction with
 | H0 n=>intro _ h;rw[Nat.gcd_zero_left];exact h
 | H1 m n hm ih =>
  intro h1 h2
  rw[Nat.gcd_rec]
  refine ih ?_ h1
  have e:=Nat.div_add_mod n m
  rw[<- e,nmul_add hb oS,<- nmul_mul hb oS,h1,nmul_O,O_add] at h2
  exact h2
theorem nmul_red {S:F × F} (oS:OnP b S) {l:Nat} (h:nmul S l=O2) (n:Nat):nmul S n=nmul S (n%l):=by
 conv=>lhs;rw[<- Nat.div_add_mod n l]
 rw[nmul_add hb oS,<- nmul_mul hb oS,h,nmul_O,O_add]
theorem ord_dvd {P:F × F} (oP:OnP b P) {l n a:Nat} (hl:Prm l) (hk:nmul P (n*l)=O2) (hne:nmul P n≠O2) (ha:nmul P a=O2):l∣a:=by
 refine Classical.byContradiction fun hd=>hne ?_
 have hc:Nat.gcd l a=1:=hl.coprime hd
 have oS:=nmul_on hb oP n
 have h1:nmul (nmul P n) l=O2:=by rw[nmul_mul hb oP];exact hk
 have h2:nmul (nmul P n) a=O2:=by rw[nmul_mul hb oP,Nat.mul_comm,<- nmul_mul hb oP,ha,nmul_O]
 have:=nmul_gcd hb oS l a h1 h2
 rw[hc,nmul_one] at this
 exact this
theorem ind2 {U V:F × F} (oU:OnP b U) (oV:OnP b V) {l:Nat} (hl:Prm l) (hU:nmul U l=O2) (hV:nmul V l=O2) (hV0:V≠O2) (hj:∀ j,j<l->padd U (nmul V j)≠O2) {a c:Nat}
  (h:padd (nmul U a) (nmul V c)=O2):l∣a/\l∣c:=by
 by_cases hd:l∣a
 ·refine⟨hd,?_⟩
  obtain⟨t,rfl⟩:=hd
  rw[<- nmul_mul hb oU,hU,nmul_O,O_add] at h
  refine Classical.byContradiction fun hc=>hV0 ?_
  have:=nmul_gcd hb oV l c hV h
  rw[show Nat.gcd l c=1 from hl.coprime hc,nmul_one] at this
  exact this
 ·obtain⟨s,hs⟩:=inv_mod (hl.coprime hd) hl.1
  have h2:nmul (padd (nmul U a) (nmul V c)) s=O2:=by rw[h,nmul_O]
  rw[nmul_padd hb (nmul_on hb oU _) (nmul_on hb oV _),nmul_mul hb oU,nmul_mul hb oV,nmul_red hb oU hU (a*s),hs,nmul_one,nmul_red hb oV hV (c*s)] at h2
  exact absurd h2 (hj _ (Nat.mod_lt _ (by have:=hl.1;omega)))
def InH (P1 P2 P:F × F):Prop:=∃ a c:Nat,P=padd (nmul P1 a) (nmul P2 c)
variable {P1 P2:F × F} (o1:OnP b P1) (o2:OnP b P2)
include o1 o2
theorem inH_on {P:F × F} (h:InH P1 P2 P):OnP b P:=by
 obtain⟨a,c,rfl⟩:=h
 exact padd_on hb (nmul_on hb o1 _) (nmul_on hb o2 _)
theorem inH_add {P Q:F × F} (h:InH P1 P2 P) (k:InH P1 P2 Q):InH P1 P2 (padd P Q):=by
 obtain⟨a,c,rfl⟩:=h
 obtain⟨a',c',rfl⟩:=k
 refine⟨a+a',c+c',?_⟩
 rw[nmul_add hb o1,nmul_add hb o2]
 exact add4 hb (nmul_on hb o1 _) (nmul_on hb o2 _) (nmul_on hb o1 _) (nmul_on hb o2 _)
theorem inH_mul {P:F × F} (h:InH P1 P2 P) (n:Nat):InH P1 P2 (nmul P n):=by
 obtain⟨a,c,rfl⟩:=h
 refine⟨a*n,c*n,?_⟩
 rw[nmul_padd hb (nmul_on hb o1 _) (nmul_on hb o2 _),nmul_mul hb o1,nmul_mul hb o2]
omit o1 o2 in
theorem neg_mul_of {P:F × F} (oP:OnP b P) {N:Nat} (h:nmul P N=O2) (hN:0<N):pneg P=nmul P (N-1):=by
 have e:N=1+(N-1):=by omega
 rw[e,nmul_add hb oP,nmul_one] at h
 have:=cancel hb oP (nmul_on hb oP (N-1))
 rw[h,add_O] at this
 exact this
variable {n1 n2:Nat} (k1:nmul P1 n1=O2) (k2:nmul P2 n2=O2)
include k1 k2
theorem inH_kill {P:F × F} (h:InH P1 P2 P):nmul P (n1*n2)=O2:=by
 obtain⟨a,c,rfl⟩:=h
 rw[nmul_padd hb (nmul_on hb o1 _) (nmul_on hb o2 _),nmul_mul hb o1,nmul_mul hb o2]
 rw[show a*(n1*n2)=n1*(n2*a) by rw[Nat.mul_comm a,Nat.mul_assoc],show c*(n1*n2)=n2*(n1*c) by rw[Nat.mul_comm c,Nat.mul_comm n1,Nat.mul_assoc]]
 rw[<- nmul_mul hb o1,<- nmul_mul hb o2,k1,k2,nmul_O,nmul_O,O_add]
theorem inH_neg (hN:0<n1*n2) {P:F × F} (h:InH P1 P2 P):InH P1 P2 (pneg P):=by
 rw[neg_mul_of hb (inH_on hb o1 o2 h) (inH_kill hb o1 o2 k1 k2 h) hN]
 exact inH_mul hb o1 o2 h _
theorem inH_half (hodd:n1*n2%2=1) (no2:∀ P:F × F,OnP b P->padd P P=O2->P=O2) {Q:F × F} (oQ:OnP b Q) (h:InH P1 P2 (padd Q Q)):InH P1 P2 Q:=by
 have hk:=inH_kill hb o1 o2 k1 k2 h
 rw[nmul_padd hb oQ oQ] at hk
 have hz:=no2 _ (nmul_on hb oQ _) hk
 have e:nmul Q (2*((n1*n2+1)/2))=Q:=by
  rw[show 2*((n1*n2+1)/2)=n1*n2+1 by omega,nmul_add hb oQ,hz,O_add,nmul_one]
 rw[<- nmul_mul hb oQ,nmul_two] at e
 rw[<- e]
 exact inH_mul hb o1 o2 h _
theorem inH_sub (hN:0<n1*n2) {X Y U V:F × F} (oX:OnP b X) (oY:OnP b Y) (hU:InH P1 P2 U) (hV:InH P1 P2 V) (e:padd X U=padd Y V):∃ W,InH P1 P2 W/\X=padd Y W/\(W=O2->U=V):=by
 have oU:=inH_on hb o1 o2 hU
 have oV:=inH_on hb o1 o2 hV
 have onU:=pneg_onP oU
 refine⟨padd V (pneg U),inH_add hb o1 o2 hV (inH_neg hb o1 o2 k1 k2 hN hU),?_,?_⟩
 ·rw[<- padd_assoc hb oY oV onU,<- e,padd_assoc hb oX oU onU,add_neg_self,add_O]
 ·intro h
  have:padd (padd V (pneg U)) U=padd O2 U:=by rw[h]
  rw[padd_assoc hb oV onU oU,neg_add_self,add_O,O_add] at this
  exact this.symm
theorem inH_inj (ind:∀ a c,padd (nmul P1 a) (nmul P2 c)=O2->n1∣a/\n2∣c) {a c a' c':Nat} (ha:a<n1) (ha':a'<n1) (hc:c<n2) (hc':c'<n2)
  (e:padd (nmul P1 a) (nmul P2 c)=padd (nmul P1 a') (nmul P2 c')):a=a'/\c=c':=by
 have h:padd (padd (nmul P1 a) (nmul P2 c)) (padd (nmul P1 (n1-a)) (nmul P2 (n2-c)))=O2:=by
  rw[add4 hb (nmul_on hb o1 _) (nmul_on hb o2 _) (nmul_on hb o1 _) (nmul_on hb o2 _),<- nmul_add hb o1,<- nmul_add hb o2,show a+(n1-a)=n1 by omega,show c+(n2-c)=n2 by omega,k1,k2,O_add]
 rw[e,add4 hb (nmul_on hb o1 _) (nmul_on hb o2 _) (nmul_on hb o1 _) (nmul_on hb o2 _),<- nmul_add hb o1,<- nmul_add hb o2] at h
 obtain⟨⟨u,hu⟩,⟨v,hv⟩⟩:=ind _ _ h
 refine⟨?_,?_⟩
 ·match u with
  | 0=>omega
  | 1=>omega
  | u+2=>have:n1*(u+2)=n1*u+n1+n1:=by rw[Nat.mul_add];omega
         omega
 ·match v with
  | 0=>omega
  | 1=>omega
  | v+2=>have:n2*(v+2)=n2*v+n2+n2:=by rw[Nat.mul_add];omega
         omega
def cQ (Q:F × F) (c:Nat):F × F:=if c=0 then O2 else if c=1 then Q else pneg Q
omit k1 k2 o1 o2 hb in
theorem cQ_on {Q:F × F} (oQ:OnP b Q) (c:Nat):OnP b (cQ Q c):=by
 unfold cQ
 split
 ·exact .inl rfl
 ·split
  ·exact oQ
  ·exact pneg_onP oQ
theorem gen_all (hodd:n1*n2%2=1) (ind:∀ a c,padd (nmul P1 a) (nmul P2 c)=O2->n1∣a/\n2∣c) (no2:∀ P:F × F,OnP b P->padd P P=O2->P=O2)
  (code:F × F->Nat) (B:Nat) (hB:∀ P,OnP b P->code P<B) (hinj:∀ P Q,OnP b P->OnP b Q->code P=code Q->P=Q) (hsz:B<3*(n1*n2)) {Q:F × F} (oQ:OnP b Q):InH P1 P2 Q:=by
 refine Classical.byContradiction fun hQ=>?_
 have hN:0<n1*n2:=by omega
 have hn2:0<n2:=Nat.pos_of_ne_zero fun e=>by rw[e] at hN;simp at hN
 have hH:∀ t,InH P1 P2 (padd (nmul P1 (t/n2)) (nmul P2 (t%n2))):=fun t=>⟨_,_,rfl⟩
 have hneg:∀ P,OnP b P->InH P1 P2 (pneg P)->InH P1 P2 P:=fun P _ h=>by have:=inH_neg hb o1 o2 k1 k2 hN h;rwa [pneg_pneg] at this
 have h2Q:¬ InH P1 P2 (padd Q Q):=fun h=>hQ (inH_half hb o1 o2 k1 k2 hodd no2 oQ h)
 have key:∀ c c',c<3->c'<3->c≠c'->∀ W,InH P1 P2 W->cQ Q c=padd (cQ Q c') W->False:=by
  intro c c' hc hc' hne W hW e
  have oW:=inH_on hb o1 o2 hW
  have oN:=pneg_onP oQ
  have hc:c=0\/c=1\/c=2:=by omega
  have hc':c'=0\/c'=1\/c'=2:=by omega
  have e0:cQ Q 0=O2:=rfl
  have e1:cQ Q 1=Q:=rfl
  have e2:cQ Q 2=pneg Q:=rfl
  rcases hc with rfl|rfl|rfl<;>rcases hc' with rfl|rfl|rfl
  ·exact hne rfl
  ·rw[e0,e1] at e
   have:=cancel hb oQ oW
   rw[<- e,add_O] at this
   exact hQ (hneg Q oQ (this▸hW))
  ·rw[e0,e2] at e
   have:=cancel hb oN oW
   rw[<- e,add_O,pneg_pneg] at this
   exact hQ (this▸hW)
  ·rw[e1,e0,O_add] at e
   exact hQ (e▸hW)
  ·exact hne rfl
  ·rw[e1,e2] at e
   have:padd Q Q=W:=by
    have:=cancel hb oN oW
    rw[<- e,pneg_pneg] at this
    exact this
   exact h2Q (this▸hW)
  ·rw[e2,e0,O_add] at e
   exact hQ (hneg Q oQ (e▸hW))
  ·rw[e2,e1] at e
   have:pneg (padd Q Q)=W:=by
    have:=cancel hb oQ oW
    rw[<- e] at this
    rw[<- this]
    exact pneg_add hb oQ oQ
   exact h2Q (hneg _ (padd_on hb oQ oQ) (this▸hW))
  ·exact hne rfl
 have:=pigeon B (3*(n1*n2)) (fun i=>code (padd (cQ Q (i/(n1*n2))) (padd (nmul P1 (i%(n1*n2)/n2)) (nmul P2 (i%(n1*n2)%n2))))) (fun i _=>hB _ (padd_on hb (cQ_on oQ _) (inH_on hb o1 o2 (hH _)))) (fun i j hi hj e=>by
  have e:=hinj _ _ (padd_on hb (cQ_on oQ _) (inH_on hb o1 o2 (hH _))) (padd_on hb (cQ_on oQ _) (inH_on hb o1 o2 (hH _))) e
  obtain⟨W,hW,eW,hz⟩:=inH_sub hb o1 o2 k1 k2 hN (cQ_on oQ _) (cQ_on oQ _) (hH _) (hH _) e
  have di:i/(n1*n2)<3:=Nat.div_lt_of_lt_mul (by rw[Nat.mul_comm];exact hi)
  have dj:j/(n1*n2)<3:=Nat.div_lt_of_lt_mul (by rw[Nat.mul_comm];exact hj)
  by_cases hc:i/(n1*n2)=j/(n1*n2)
  ·rw[hc] at eW
   have oc:=cQ_on oQ (j/(n1*n2))
   have hW0:W=O2:=by
    have:=cancel hb oc (inH_on hb o1 o2 hW)
    rw[<- eW,neg_add_self] at this
    exact this.symm
   have li:i%(n1*n2)<n1*n2:=Nat.mod_lt _ hN
   have lj:j%(n1*n2)<n1*n2:=Nat.mod_lt _ hN
   obtain⟨ea,ec⟩:=inH_inj hb o1 o2 k1 k2 ind (Nat.div_lt_of_lt_mul (by rw[Nat.mul_comm n2];exact li)) (Nat.div_lt_of_lt_mul (by rw[Nat.mul_comm n2];exact lj)) (Nat.mod_lt _ hn2) (Nat.mod_lt _ hn2) (hz hW0)
   have f1:=Nat.div_add_mod (i%(n1*n2)) n2
   have f2:=Nat.div_add_mod (j%(n1*n2)) n2
   have f3:=Nat.div_add_mod i (n1*n2)
   have f4:=Nat.div_add_mod j (n1*n2)
   rw[ea,ec,f2] at f1
   rw[<- f1,hc] at f3
   omega
  ·exact (key _ _ di dj hc W hW eW).elim)
 omega
omit k1 k2 o1 o2 in
theorem no2_of (hx:∀ x:F,x*x*x+b≠0) (P:F × F) (oP:OnP b P) (h:padd P P=O2):P=O2:=by
 rcases oP with rfl|oP
 ·rfl
 ·have:=cancel hb (.inr oP) (.inr oP)
  rw[h,add_O] at this
  have e : -P.2=P.2:=congrArg Prod.snd this
  have e0:=eq_neg_self e.symm
  have oP:P.2*P.2=P.1*P.1*P.1+b:=oP
  rw[e0,Rg.mul_zero] at oP
  exact absurd oP.symm (hx _)
omit k1 k2 in
theorem ind_all {k l l':Nat} (hl:Prm l) (hl':Prm l') (hll:Nat.Coprime l l') (hkl:Nat.Coprime k (l*l')) (k1:nmul P1 (k*(l*l'))=O2) (k2:nmul P2 (l*l')=O2)
  (hk:∀ a,nmul P1 a=O2->k∣a)
  (v1:nmul P2 l'≠O2) (j1:∀ j,j<l->padd (nmul P1 (k*l')) (nmul (nmul P2 l') j)≠O2)
  (v2:nmul P2 l≠O2) (j2:∀ j,j<l'->padd (nmul P1 (k*l)) (nmul (nmul P2 l) j)≠O2) (a c:Nat) (h:padd (nmul P1 a) (nmul P2 c)=O2):k*(l*l')∣a/\l*l'∣c:=by
 have h1:nmul (padd (nmul P1 a) (nmul P2 c)) (l*l')=O2:=by rw[h,nmul_O]
 rw[nmul_padd hb (nmul_on hb o1 _) (nmul_on hb o2 _),nmul_mul hb o1,nmul_mul hb o2,Nat.mul_comm c,<- nmul_mul hb o2,k2,nmul_O,add_O] at h1
 obtain⟨a',rfl⟩:k∣a:=hkl.dvd_of_dvd_mul_right (hk _ h1)
 have part:∀ {l l':Nat},Prm l->nmul P1 (k*(l*l'))=O2->nmul P2 (l*l')=O2->nmul P2 l'≠O2->(∀ j,j<l->padd (nmul P1 (k*l')) (nmul (nmul P2 l') j)≠O2)->l∣a'/\l∣c:=by
  intro l l' hl k1 k2 v1 j1
  have e:nmul (padd (nmul P1 (k*a')) (nmul P2 c)) l'=O2:=by rw[h,nmul_O]
  rw[nmul_padd hb (nmul_on hb o1 _) (nmul_on hb o2 _),nmul_mul hb o1,nmul_mul hb o2,show k*a'*l'=k*l'*a' by rw[Nat.mul_assoc,Nat.mul_comm a',Nat.mul_assoc],Nat.mul_comm c,<- nmul_mul hb o1,<- nmul_mul hb o2] at e
  exact ind2 hb (nmul_on hb o1 _) (nmul_on hb o2 _) hl (by rw[nmul_mul hb o1,Nat.mul_assoc,Nat.mul_comm l'];exact k1) (by rw[nmul_mul hb o2,Nat.mul_comm];exact k2) v1 j1 e
 obtain⟨d1,d2⟩:=part hl k1 k2 v1 j1
 obtain⟨d3,d4⟩:=part hl' (by rw[Nat.mul_comm l'];exact k1) (by rw[Nat.mul_comm l'];exact k2) v2 j2
 exact⟨Nat.mul_dvd_mul (Nat.dvd_refl k) (hll.mul_dvd_of_dvd_of_dvd d1 d3),hll.mul_dvd_of_dvd_of_dvd d2 d4⟩
end
end Cr
namespace Cr
theorem prm_1367711:Prm 1367711:=trial (f:=11) (by decide) (by decide) (by kernel_rfl)
theorem prm_541:Prm 541:=trial (f:=5) (by decide) (by decide) (by kernel_rfl)
theorem prm_12192593745179:Prm 12192593745179:=by
 refine Classical.byContradiction fun hp=>?_
 obtain⟨d,hd,hdn,hdd⟩:=small_prime (n:=12192593745179) (by decide) hp
 have h0:1367711∣d-1:=pock (k:=8914598) (a:=2) (f:=44) prm_1367711 (by kernel_rfl) (of_decide_eq_true (by kernel_rfl)) (by kernel_rfl) (by kernel_rfl) hd hdn
 have h1:541∣d-1:=pock (k:=22537141858) (a:=2) (f:=44) prm_541 (by kernel_rfl) (of_decide_eq_true (by kernel_rfl)) (by kernel_rfl) (by kernel_rfl) hd hdn
 have g1:1367711*541∣d-1:=Nat.Coprime.mul_dvd_of_dvd_of_dvd (show Nat.gcd 1367711 541=1 by kernel_rfl) h0 h1
 rw[show 1367711*541=739931651 by kernel_rfl] at g1
 exact pock_fin hd.1 g1 hdd (of_decide_eq_true (by kernel_rfl))
theorem prm_512088937297519:Prm 512088937297519:=by
 refine Classical.byContradiction fun hp=>?_
 obtain⟨d,hd,hdn,hdd⟩:=small_prime (n:=512088937297519) (by decide) hp
 have h0:12192593745179∣d-1:=pock (k:=42) (a:=2) (f:=49) prm_12192593745179 (by kernel_rfl) (of_decide_eq_true (by kernel_rfl)) (by kernel_rfl) (by kernel_rfl) hd hdn
 exact pock_fin hd.1 h0 hdd (of_decide_eq_true (by kernel_rfl))
theorem prm_1857858664515398933:Prm 1857858664515398933:=by
 refine Classical.byContradiction fun hp=>?_
 obtain⟨d,hd,hdn,hdd⟩:=small_prime (n:=1857858664515398933) (by decide) hp
 have h0:512088937297519∣d-1:=pock (k:=3628) (a:=2) (f:=61) prm_512088937297519 (by kernel_rfl) (of_decide_eq_true (by kernel_rfl)) (by kernel_rfl) (by kernel_rfl) hd hdn
 exact pock_fin hd.1 h0 hdd (of_decide_eq_true (by kernel_rfl))
theorem prm_22294303974184787197:Prm 22294303974184787197:=by
 refine Classical.byContradiction fun hp=>?_
 obtain⟨d,hd,hdn,hdd⟩:=small_prime (n:=22294303974184787197) (by decide) hp
 have h0:1857858664515398933∣d-1:=pock (k:=12) (a:=2) (f:=65) prm_1857858664515398933 (by kernel_rfl) (of_decide_eq_true (by kernel_rfl)) (by kernel_rfl) (by kernel_rfl) hd hdn
 exact pock_fin hd.1 h0 hdd (of_decide_eq_true (by kernel_rfl))
theorem prm_19931107752921199754119:Prm 19931107752921199754119:=by
 refine Classical.byContradiction fun hp=>?_
 obtain⟨d,hd,hdn,hdd⟩:=small_prime (n:=19931107752921199754119) (by decide) hp
 have h0:22294303974184787197∣d-1:=pock (k:=894) (a:=2) (f:=75) prm_22294303974184787197 (by kernel_rfl) (of_decide_eq_true (by kernel_rfl)) (by kernel_rfl) (by kernel_rfl) hd hdn
 exact pock_fin hd.1 h0 hdd (of_decide_eq_true (by kernel_rfl))
theorem prm_81162125843606155545104998607900118769099783:Prm 81162125843606155545104998607900118769099783:=by
 refine Classical.byContradiction fun hp=>?_
 obtain⟨d,hd,hdn,hdd⟩:=small_prime (n:=81162125843606155545104998607900118769099783) (by decide) hp
 have h0:19931107752921199754119∣d-1:=pock (k:=4072133212551150901578) (a:=2) (f:=146) prm_19931107752921199754119 (by kernel_rfl) (of_decide_eq_true (by kernel_rfl)) (by kernel_rfl) (by kernel_rfl) hd hdn
 exact pock_fin hd.1 h0 hdd (of_decide_eq_true (by kernel_rfl))
theorem prm_26935696298915610574513298451669528361624243820491956655650666425177:Prm 26935696298915610574513298451669528361624243820491956655650666425177:=by
 refine Classical.byContradiction fun hp=>?_
 obtain⟨d,hd,hdn,hdd⟩:=small_prime (n:=26935696298915610574513298451669528361624243820491956655650666425177) (by decide) hp
 have h0:81162125843606155545104998607900118769099783∣d-1:=pock (k:=331875194481953911837672) (a:=2) (f:=224) prm_81162125843606155545104998607900118769099783 (by kernel_rfl) (of_decide_eq_true (by kernel_rfl)) (by kernel_rfl) (by kernel_rfl) hd hdn
 exact pock_fin hd.1 h0 hdd (of_decide_eq_true (by kernel_rfl))
theorem prm_4638704574076146691498289350639807119782054683906549022985642612861209609656189848749536921852444848596916990932297:Prm 4638704574076146691498289350639807119782054683906549022985642612861209609656189848749536921852444848596916990932297:=by
 refine Classical.byContradiction fun hp=>?_
 obtain⟨d,hd,hdn,hdd⟩:=small_prime (n:=4638704574076146691498289350639807119782054683906549022985642612861209609656189848749536921852444848596916990932297) (by decide) hp
 have h0:26935696298915610574513298451669528361624243820491956655650666425177∣d-1:=pock (k:=172214021222941014338396330402661971150362189448) (a:=2) (f:=381) prm_26935696298915610574513298451669528361624243820491956655650666425177 (by kernel_rfl) (of_decide_eq_true (by kernel_rfl)) (by kernel_rfl) (by kernel_rfl) hd hdn
 exact pock_fin hd.1 h0 hdd (of_decide_eq_true (by kernel_rfl))
theorem prm_m:Prm 402096035359507321594726366720466575392706800671181159425656785868777272553337714697862511267018014931937703598282857976535744623203249:=by
 refine Classical.byContradiction fun hp=>?_
 obtain⟨d,hd,hdn,hdd⟩:=small_prime (n:=402096035359507321594726366720466575392706800671181159425656785868777272553337714697862511267018014931937703598282857976535744623203249) (by decide) hp
 have h0:4638704574076146691498289350639807119782054683906549022985642612861209609656189848749536921852444848596916990932297∣d-1:=pock (k:=86682828996409959984) (a:=2) (f:=448) prm_4638704574076146691498289350639807119782054683906549022985642612861209609656189848749536921852444848596916990932297 (by kernel_rfl) (of_decide_eq_true (by kernel_rfl)) (by kernel_rfl) (by kernel_rfl) hd hdn
 exact pock_fin hd.1 h0 hdd (of_decide_eq_true (by kernel_rfl))
theorem prm_13:Prm 13:=trial (f:=1) (by decide) (by decide) (by kernel_rfl)
theorem prm_23:Prm 23:=trial (f:=2) (by decide) (by decide) (by kernel_rfl)
theorem prm_2713:Prm 2713:=trial (f:=6) (by decide) (by decide) (by kernel_rfl)
theorem prm_11953:Prm 11953:=trial (f:=7) (by decide) (by decide) (by kernel_rfl)
theorem prm_262069:Prm 262069:=trial (f:=9) (by decide) (by decide) (by kernel_rfl)
end Cr
namespace Cr
open Rg Fd Go.Eng
abbrev F6:=F2 × F2 × F2
def xi:F2:=((1:Fp),(1:Fp))
theorem xi_mul (x:F2):xi*x=(x.1-x.2,x.1+x.2):=by
 rw[F2.mul_def]
 show ((1:Fp)*x.1-1*x.2,1*x.2+1*x.1)=_
 rw[one_mul,one_mul,add_comm x.2]
theorem f6_c1 {F:Type} [Rg F] (a b c d e f x:F):a*d+x*(b*f+c*e)=d*a+x*(e*c+f*b) :=
 rid [a,b,c,d,e,f,x] ((fun (a b c d e f x:PE)=>(a*d+x*(b*f+c*e))) (.v 0) (.v 1) (.v 2) (.v 3) (.v 4) (.v 5) (.v 6)) ((fun (a b c d e f x:PE)=>(d*a+x*(e*c+f*b))) (.v 0) (.v 1) (.v 2) (.v 3) (.v 4) (.v 5) (.v 6)) (by kernel_rfl)
theorem f6_c2 {F:Type} [Rg F] (a b c d e f x:F):a*e+b*d+x*(c*f)=d*b+e*a+x*(f*c) :=
 rid [a,b,c,d,e,f,x] ((fun (a b c d e f x:PE)=>(a*e+b*d+x*(c*f))) (.v 0) (.v 1) (.v 2) (.v 3) (.v 4) (.v 5) (.v 6)) ((fun (a b c d e f x:PE)=>(d*b+e*a+x*(f*c))) (.v 0) (.v 1) (.v 2) (.v 3) (.v 4) (.v 5) (.v 6)) (by kernel_rfl)
theorem f6_c3 {F:Type} [Rg F] (a b c d e f x:F):a*f+b*e+c*d=d*c+e*b+f*a :=
 rid [a,b,c,d,e,f,x] ((fun (a b c d e f x:PE)=>(a*f+b*e+c*d)) (.v 0) (.v 1) (.v 2) (.v 3) (.v 4) (.v 5) (.v 6)) ((fun (a b c d e f x:PE)=>(d*c+e*b+f*a)) (.v 0) (.v 1) (.v 2) (.v 3) (.v 4) (.v 5) (.v 6)) (by kernel_rfl)
theorem f6_s1 {F:Type} [Rg F] (a b c d e f g h k x:F):(a*d+x*(b*f+c*e))*g+x*((a*e+b*d+x*(c*f))*k+(a*f+b*e+c*d)*h)=a*(d*g+x*(e*k+f*h))+x*(b*(d*k+e*h+f*g)+c*(d*h+e*g+x*(f*k))) :=
 rid [a,b,c,d,e,f,g,h,k,x] ((fun (a b c d e f g h k x:PE)=>((a*d+x*(b*f+c*e))*g+x*((a*e+b*d+x*(c*f))*k+(a*f+b*e+c*d)*h))) (.v 0) (.v 1) (.v 2) (.v 3) (.v 4) (.v 5) (.v 6) (.v 7) (.v 8) (.v 9)) ((fun (a b c d e f g h k x:PE)=>(a*(d*g+x*(e*k+f*h))+x*(b*(d*k+e*h+f*g)+c*(d*h+e*g+x*(f*k))))) (.v 0) (.v 1) (.v 2) (.v 3) (.v 4) (.v 5) (.v 6) (.v 7) (.v 8) (.v 9)) (by kernel_rfl)
theorem f6_s2 {F:Type} [Rg F] (a b c d e f g h k x:F):(a*d+x*(b*f+c*e))*h+(a*e+b*d+x*(c*f))*g+x*((a*f+b*e+c*d)*k)=a*(d*h+e*g+x*(f*k))+b*(d*g+x*(e*k+f*h))+x*(c*(d*k+e*h+f*g)) :=
 rid [a,b,c,d,e,f,g,h,k,x] ((fun (a b c d e f g h k x:PE)=>((a*d+x*(b*f+c*e))*h+(a*e+b*d+x*(c*f))*g+x*((a*f+b*e+c*d)*k))) (.v 0) (.v 1) (.v 2) (.v 3) (.v 4) (.v 5) (.v 6) (.v 7) (.v 8) (.v 9)) ((fun (a b c d e f g h k x:PE)=>(a*(d*h+e*g+x*(f*k))+b*(d*g+x*(e*k+f*h))+x*(c*(d*k+e*h+f*g)))) (.v 0) (.v 1) (.v 2) (.v 3) (.v 4) (.v 5) (.v 6) (.v 7) (.v 8) (.v 9)) (by kernel_rfl)
theorem f6_s3 {F:Type} [Rg F] (a b c d e f g h k x:F):(a*d+x*(b*f+c*e))*k+(a*e+b*d+x*(c*f))*h+(a*f+b*e+c*d)*g=a*(d*k+e*h+f*g)+b*(d*h+e*g+x*(f*k))+c*(d*g+x*(e*k+f*h)) :=
 rid [a,b,c,d,e,f,g,h,k,x] ((fun (a b c d e f g h k x:PE)=>((a*d+x*(b*f+c*e))*k+(a*e+b*d+x*(c*f))*h+(a*f+b*e+c*d)*g)) (.v 0) (.v 1) (.v 2) (.v 3) (.v 4) (.v 5) (.v 6) (.v 7) (.v 8) (.v 9)) ((fun (a b c d e f g h k x:PE)=>(a*(d*k+e*h+f*g)+b*(d*h+e*g+x*(f*k))+c*(d*g+x*(e*k+f*h)))) (.v 0) (.v 1) (.v 2) (.v 3) (.v 4) (.v 5) (.v 6) (.v 7) (.v 8) (.v 9)) (by kernel_rfl)
theorem f6_o1 {F:Type} [Rg F] (a b c x:F):1*a+x*(0*c+0*b)=a :=
 rid [a,b,c,x] ((fun (a b c x:PE)=>(1*a+x*(0*c+0*b))) (.v 0) (.v 1) (.v 2) (.v 3)) ((fun (a b c x:PE)=>(a)) (.v 0) (.v 1) (.v 2) (.v 3)) (by kernel_rfl)
theorem f6_o2 {F:Type} [Rg F] (a b c x:F):1*b+0*a+x*(0*c)=b :=
 rid [a,b,c,x] ((fun (a b c x:PE)=>(1*b+0*a+x*(0*c))) (.v 0) (.v 1) (.v 2) (.v 3)) ((fun (a b c x:PE)=>(b)) (.v 0) (.v 1) (.v 2) (.v 3)) (by kernel_rfl)
theorem f6_o3 {F:Type} [Rg F] (a b c:F):1*c+0*b+0*a=c :=
 rid [a,b,c] ((fun (a b c:PE)=>(1*c+0*b+0*a)) (.v 0) (.v 1) (.v 2)) ((fun (a b c:PE)=>(c)) (.v 0) (.v 1) (.v 2)) (by kernel_rfl)
theorem f6_d1 {F:Type} [Rg F] (a b c d e f g h k x:F):(a+d)*g+x*((b+e)*k+(c+f)*h)=a*g+x*(b*k+c*h)+(d*g+x*(e*k+f*h)) :=
 rid [a,b,c,d,e,f,g,h,k,x] ((fun (a b c d e f g h k x:PE)=>((a+d)*g+x*((b+e)*k+(c+f)*h))) (.v 0) (.v 1) (.v 2) (.v 3) (.v 4) (.v 5) (.v 6) (.v 7) (.v 8) (.v 9)) ((fun (a b c d e f g h k x:PE)=>(a*g+x*(b*k+c*h)+(d*g+x*(e*k+f*h)))) (.v 0) (.v 1) (.v 2) (.v 3) (.v 4) (.v 5) (.v 6) (.v 7) (.v 8) (.v 9)) (by kernel_rfl)
theorem f6_d2 {F:Type} [Rg F] (a b c d e f g h k x:F):(a+d)*h+(b+e)*g+x*((c+f)*k)=a*h+b*g+x*(c*k)+(d*h+e*g+x*(f*k)) :=
 rid [a,b,c,d,e,f,g,h,k,x] ((fun (a b c d e f g h k x:PE)=>((a+d)*h+(b+e)*g+x*((c+f)*k))) (.v 0) (.v 1) (.v 2) (.v 3) (.v 4) (.v 5) (.v 6) (.v 7) (.v 8) (.v 9)) ((fun (a b c d e f g h k x:PE)=>(a*h+b*g+x*(c*k)+(d*h+e*g+x*(f*k)))) (.v 0) (.v 1) (.v 2) (.v 3) (.v 4) (.v 5) (.v 6) (.v 7) (.v 8) (.v 9)) (by kernel_rfl)
theorem f6_d3 {F:Type} [Rg F] (a b c d e f g h k:F):(a+d)*k+(b+e)*h+(c+f)*g=a*k+b*h+c*g+(d*k+e*h+f*g) :=
 rid [a,b,c,d,e,f,g,h,k] ((fun (a b c d e f g h k:PE)=>((a+d)*k+(b+e)*h+(c+f)*g)) (.v 0) (.v 1) (.v 2) (.v 3) (.v 4) (.v 5) (.v 6) (.v 7) (.v 8)) ((fun (a b c d e f g h k:PE)=>(a*k+b*h+c*g+(d*k+e*h+f*g))) (.v 0) (.v 1) (.v 2) (.v 3) (.v 4) (.v 5) (.v 6) (.v 7) (.v 8)) (by kernel_rfl)
section
variable {R:Type} [Rg R] (v:R)
noncomputable def cadd (x y:R × R × R):R × R × R:=opq (x.1+y.1,x.2.1+y.2.1,x.2.2+y.2.2)
noncomputable def csub (x y:R × R × R):R × R × R:=opq (x.1-y.1,x.2.1-y.2.1,x.2.2-y.2.2)
noncomputable def cneg (x:R × R × R):R × R × R:=opq (-x.1,-x.2.1,-x.2.2)
noncomputable def cmul (x y:R × R × R):R × R × R:=opq (x.1*y.1+v*(x.2.1*y.2.2+x.2.2*y.2.1),x.1*y.2.1+x.2.1*y.1+v*(x.2.2*y.2.2),x.1*y.2.2+x.2.1*y.2.1+x.2.2*y.1)
theorem cadd_def (x y:R × R × R):cadd x y=(x.1+y.1,x.2.1+y.2.1,x.2.2+y.2.2):=opq_eq _
theorem csub_def (x y:R × R × R):csub x y=(x.1-y.1,x.2.1-y.2.1,x.2.2-y.2.2):=opq_eq _
theorem cneg_def (x:R × R × R):cneg x=(-x.1,-x.2.1,-x.2.2):=opq_eq _
theorem cmul_def (x y:R × R × R):cmul v x y=(x.1*y.1+v*(x.2.1*y.2.2+x.2.2*y.2.1),x.1*y.2.1+x.2.1*y.1+v*(x.2.2*y.2.2),x.1*y.2.2+x.2.1*y.2.1+x.2.2*y.1):=opq_eq _
omit [Rg R] in
theorem cext {x y:R × R × R} (h1:x.1=y.1) (h2:x.2.1=y.2.1) (h3:x.2.2=y.2.2):x=y:=Prod.ext h1 (Prod.ext h2 h3)
theorem c_l1 (a b:R × R × R):cadd a b=cadd b a:=by rw[cadd_def,cadd_def,add_comm,add_comm a.2.1,add_comm a.2.2]
theorem c_l2 (a b c:R × R × R):cadd (cadd a b) c=cadd a (cadd b c):=by rw[cadd_def,cadd_def,cadd_def,cadd_def,add_assoc,add_assoc,add_assoc]
theorem c_l3 (a:R × R × R):cadd (0,0,0) a=a:=by rw[cadd_def,zero_add,zero_add,zero_add]
theorem c_l4 (a:R × R × R):cadd (cneg a) a=(0,0,0):=by rw[cadd_def,cneg_def,neg_add,neg_add,neg_add]
theorem c_l5 (a b:R × R × R):csub a b=cadd a (cneg b):=by rw[cadd_def,cneg_def,csub_def,Rg.sub_def,Rg.sub_def,Rg.sub_def]
theorem c_l6 (a b:R × R × R):cmul v a b=cmul v b a:=by rw[cmul_def,cmul_def];exact cext (f6_c1 _ _ _ _ _ _ _) (f6_c2 _ _ _ _ _ _ _) (f6_c3 _ _ _ _ _ _ (0:R))
theorem c_l7 (a b c:R × R × R):cmul v (cmul v a b) c=cmul v a (cmul v b c):=by rw[cmul_def,cmul_def,cmul_def,cmul_def];exact cext (f6_s1 _ _ _ _ _ _ _ _ _ _) (f6_s2 _ _ _ _ _ _ _ _ _ _) (f6_s3 _ _ _ _ _ _ _ _ _ _)
theorem c_l8 (a:R × R × R):cmul v (1,0,0) a=a:=by rw[cmul_def];exact cext (f6_o1 _ _ _ _) (f6_o2 _ _ _ _) (f6_o3 _ _ _)
theorem c_l9 (a b c:R × R × R):cmul v (cadd a b) c=cadd (cmul v a c) (cmul v b c):=by rw[cadd_def,cmul_def,cmul_def,cmul_def,cadd_def];exact cext (f6_d1 _ _ _ _ _ _ _ _ _ _) (f6_d2 _ _ _ _ _ _ _ _ _ _) (f6_d3 _ _ _ _ _ _ _ _ _)
end
noncomputable instance rgF6:Rg F6 where
 zero:=(0,0,0)
 one:=(1,0,0)
 add:=cadd
 sub:=csub
 neg:=cneg
 mul:=cmul xi
 add_comm:=c_l1
 add_assoc:=c_l2
 zero_add:=c_l3
 neg_add:=c_l4
 sub_def:=c_l5
 mul_comm:=c_l6 xi
 mul_assoc:=c_l7 xi
 one_mul:=c_l8 xi
 add_mul:=c_l9 xi
theorem F6.ext {x y:F6} (h1:x.1=y.1) (h2:x.2.1=y.2.1) (h3:x.2.2=y.2.2):x=y:=Prod.ext h1 (Prod.ext h2 h3)
theorem F6.add_def (x y:F6):x+y=(x.1+y.1,x.2.1+y.2.1,x.2.2+y.2.2):=cadd_def x y
theorem F6.sub_def (x y:F6):x-y=(x.1-y.1,x.2.1-y.2.1,x.2.2-y.2.2):=csub_def x y
theorem F6.neg_def (x:F6) : -x=(-x.1,-x.2.1,-x.2.2):=cneg_def x
theorem F6.mul_def (x y:F6):x*y=(x.1*y.1+xi*(x.2.1*y.2.2+x.2.2*y.2.1),x.1*y.2.1+x.2.1*y.1+xi*(x.2.2*y.2.2),x.1*y.2.2+x.2.1*y.2.1+x.2.2*y.1):=cmul_def xi x y
theorem f2_nn {F:Type} [Rg F] (a b c d:F):(a*c-b*d)*(a*c-b*d)+(a*d+b*c)*(a*d+b*c)=(a*a+b*b)*(c*c+d*d) :=
 rid [a,b,c,d] ((fun (a b c d:PE)=>((a*c-b*d)*(a*c-b*d)+(a*d+b*c)*(a*d+b*c))) (.v 0) (.v 1) (.v 2) (.v 3)) ((fun (a b c d:PE)=>((a*a+b*b)*(c*c+d*d))) (.v 0) (.v 1) (.v 2) (.v 3)) (by kernel_rfl)
noncomputable def nm2 (x:F2):Fp:=x.1*x.1+x.2*x.2
theorem nm2_mul (x y:F2):nm2 (x*y)=nm2 x*nm2 y:=by
 unfold nm2
 rw[F2.mul1,F2.mul2]
 exact f2_nn _ _ _ _
theorem nm2_xi:nm2 xi=1+1:=by
 unfold nm2 xi
 show (1:Fp)*1+1*1=1+1
 rw[one_mul]
section
variable {M:Int} [Md M]
theorem zpow_add' (x:Zm M) (m n:Nat):zpow x (m+n)=zpow x m*zpow x n:=by
 induction n with
 | zero=>show zpow x m=zpow x m*1;rw[mul_one]
 | succ n ih=>show zpow x (m+n)*x=zpow x m*(zpow x n*x);rw[ih,mul_assoc]
theorem zpow_mul' (x:Zm M) (m n:Nat):zpow x (m*n)=zpow (zpow x m) n:=by
 induction n with
 | zero=>rfl
 | succ n ih=>show zpow x (m*n+m)=zpow (zpow x m) n*zpow x m;rw[zpow_add',ih]
end
def fpP:Nat:=4002409555221667393417789825735904156556882819939007885332058136124031650490837864442687629129015664037894272559787
theorem fp_fermat {x:Fp} (hx:x≠0):zpow x (fpP-1)=1:=by
 have h1:=zm_fermat Mp_nat prm_p hx (n:=fpP-2) (of_decide_eq_true (by kernel_rfl))
 have h3:zpow x (fpP-1)=zpow x (fpP-2+1):=congrArg (zpow x) (of_decide_eq_true (by kernel_rfl))
 have h4:zpow x (fpP-2+1)=zpow x (fpP-2)*x:=rfl
 rw[h3,h4,mul_comm,h1]
def npm (m x:Nat):Nat->Nat->Nat
 | 0,_=>1
 | f+1,n=>match n with
  | 0=>1
  | n+1=>fc (npm m x f ((n+1)/2)) fun h=>match (n+1)%2 with
   | 0=>h*h%m
   | _=>h*h%m*x%m
theorem npm_eq (m x:Nat) (hm:1<m):∀ f n,n<2^f->npm m x f n=x^n%m
 | 0,n,h=>by
  have:n=0:=by simpa using h
  subst this
  show 1=1%m
  rw[Nat.mod_eq_of_lt hm]
 | f+1,0,_=>by show 1=1%m;rw[Nat.mod_eq_of_lt hm]
 | f+1,n+1,h=>by
  have ih:=npm_eq m x hm f ((n+1)/2) (by rw[Nat.pow_succ] at h;omega)
  rw[npm,fc_eq,ih]
  have e:n+1=(n+1)/2+(n+1)/2+(n+1)%2:=by omega
  have e2:x^(n+1)=x^((n+1)/2)*x^((n+1)/2)*x^((n+1)%2):=by rw[<- Nat.pow_add,<- Nat.pow_add,<- e]
  rw[e2]
  rcases Nat.mod_two_eq_zero_or_one (n+1) with h0|h0
  ·rw[h0,Nat.pow_zero,Nat.mul_one,<- Nat.mul_mod]
   rfl
  ·rw[h0,Nat.pow_one]
   show x^((n+1)/2)%m*(x^((n+1)/2)%m)%m*x%m=_
   rw[<- Nat.mul_mod,Nat.mul_mod (_%m) x,Nat.mod_mod,<- Nat.mul_mod]
theorem zpow_two_v (n:Nat):(zpow (1+1:Fp) n).v=((2^n%fpP:Nat):Int):=by
 rw[zpow_v]
 have:(1+1:Fp).v=2:=by decide
 rw[this,Mp_nat,Int.natCast_emod,Int.natCast_pow];rfl
theorem no_pow2 {s:Fp} {k:Nat} {q:Nat} (hq:q*k=fpP-1) (h:zpow s k=1+1):(2:Nat)^q%fpP=1:=by
 have hs:zpow (1+1:Fp) q=1:=by
  rw[<- h,<- zpow_mul',Nat.mul_comm,hq]
  refine fp_fermat ?_
  intro e
  subst e
  cases k with
  | zero=>rw[Nat.mul_zero] at hq;exact absurd hq (by decide)
  | succ k =>
   have:zpow (0:Fp) (k+1)=zpow (0:Fp) k*0:=rfl
   rw[this,mul_zero] at h
   exact absurd h (by decide)
 have h2:=zpow_two_v q
 rw[hs] at h2
 have:(1:Fp).v=1:=by decide
 rw[this] at h2
 omega
theorem two_sq:npm fpP 2 384 2001204777610833696708894912867952078278441409969503942666029068062015825245418932221343814564507832018947136279893=fpP-1:=by kernel_rfl
theorem two_cube:Nat.beq (npm fpP 2 384 1334136518407222464472596608578634718852294273313002628444019378708010550163612621480895876376338554679298090853262) 1=false:=by kernel_rfl
theorem xi_sq {s:F2} (h:s*s=xi):False:=by
 have e:=congrArg nm2 h
 rw[nm2_mul,nm2_xi] at e
 have k:=no_pow2 (s:=nm2 s) (k:=2) (q:=2001204777610833696708894912867952078278441409969503942666029068062015825245418932221343814564507832018947136279893) (of_decide_eq_true (by kernel_rfl)) (by
  show 1*nm2 s*nm2 s=1+1
  rw[one_mul];exact e)
 have t:=two_sq
 rw[npm_eq _ _ (by decide) 384 _ (of_decide_eq_true (by kernel_rfl)),k] at t
 exact absurd t (by decide)
theorem xi_cube {s:F2} (h:s*s*s=xi):False:=by
 have e:=congrArg nm2 h
 rw[nm2_mul,nm2_mul,nm2_xi] at e
 have k:=no_pow2 (s:=nm2 s) (k:=3) (q:=1334136518407222464472596608578634718852294273313002628444019378708010550163612621480895876376338554679298090853262) (of_decide_eq_true (by kernel_rfl)) (by
  show 1*nm2 s*nm2 s*nm2 s=1+1
  rw[one_mul];exact e)
 have t:=two_cube
 rw[npm_eq _ _ (by decide) 384 _ (of_decide_eq_true (by kernel_rfl)),k] at t
 exact absurd t (by decide)
theorem n6_id {F:Type} [Rg F] (a b c x:F):(a*(a*a-x*(b*c))+x*(c*(x*(c*c)-a*b)+b*(b*b-a*c)))*(x*(c*c*c)-b*b*b)=(x*(c*c)-a*b)*(x*(c*c)-a*b)*(x*(c*c)-a*b)+x*((c*a-b*b)*(c*a-b*b)*(c*a-b*b)) :=
 rid [a,b,c,x] ((fun (a b c x:PE)=>((a*(a*a-x*(b*c))+x*(c*(x*(c*c)-a*b)+b*(b*b-a*c)))*(x*(c*c*c)-b*b*b))) (.v 0) (.v 1) (.v 2) (.v 3)) ((fun (a b c x:PE)=>((x*(c*c)-a*b)*(x*(c*c)-a*b)*(x*(c*c)-a*b)+x*((c*a-b*b)*(c*a-b*b)*(c*a-b*b)))) (.v 0) (.v 1) (.v 2) (.v 3)) (by kernel_rfl)
theorem n6_c0 {F:Type} [Rg F] (a b x:F):a*(a*a-x*(b*0))+x*(0*(x*(0*0)-a*b)+b*(b*b-a*0))=a*a*a+x*(b*b*b) :=
 rid [a,b,x] ((fun (a b x:PE)=>(a*(a*a-x*(b*0))+x*(0*(x*(0*0)-a*b)+b*(b*b-a*0)))) (.v 0) (.v 1) (.v 2)) ((fun (a b x:PE)=>(a*a*a+x*(b*b*b))) (.v 0) (.v 1) (.v 2)) (by kernel_rfl)
theorem n6_t {F:Type} [Rg F] (a j:F):(- a*j)*(- a*j)*(- a*j)=-(a*a*a*(j*j*j)) :=
 rid [a,j] ((fun (a j:PE)=>((- a*j)*(- a*j)*(- a*j))) (.v 0) (.v 1)) ((fun (a j:PE)=>(-(a*a*a*(j*j*j)))) (.v 0) (.v 1)) (by kernel_rfl)
theorem n6_q {F:Type} [Rg F] (x c j:F):x*(c*c*c)*(j*j*j)=x*((c*j)*(c*j)*(c*j)) :=
 rid [x,c,j] ((fun (x c j:PE)=>(x*(c*c*c)*(j*j*j))) (.v 0) (.v 1) (.v 2)) ((fun (x c j:PE)=>(x*((c*j)*(c*j)*(c*j)))) (.v 0) (.v 1) (.v 2)) (by kernel_rfl)
theorem n6_p1 {F:Type} [Rg F] (b c a x:F):b*b*b-c*c*c*x=(-b)*(c*a-b*b)+(-c)*(x*(c*c)-a*b) :=
 rid [b,c,a,x] ((fun (b c a x:PE)=>(b*b*b-c*c*c*x)) (.v 0) (.v 1) (.v 2) (.v 3)) ((fun (b c a x:PE)=>((-b)*(c*a-b*b)+(-c)*(x*(c*c)-a*b))) (.v 0) (.v 1) (.v 2) (.v 3)) (by kernel_rfl)
theorem n6_p2 {F:Type} [Rg F] (b c j x:F):b*j*(b*j)*(b*j)-x*((c*j)*(c*j)*(c*j))=(j*j*j)*(b*b*b-c*c*c*x) :=
 rid [b,c,j,x] ((fun (b c j x:PE)=>(b*j*(b*j)*(b*j)-x*((c*j)*(c*j)*(c*j)))) (.v 0) (.v 1) (.v 2) (.v 3)) ((fun (b c j x:PE)=>((j*j*j)*(b*b*b-c*c*c*x))) (.v 0) (.v 1) (.v 2) (.v 3)) (by kernel_rfl)
theorem i6_1 {F:Type} [Rg F] (a b c x n:F):a*((a*a-x*(b*c))*n)+x*(b*((b*b-a*c)*n)+c*((x*(c*c)-a*b)*n))=(a*(a*a-x*(b*c))+x*(c*(x*(c*c)-a*b)+b*(b*b-a*c)))*n :=
 rid [a,b,c,x,n] ((fun (a b c x n:PE)=>(a*((a*a-x*(b*c))*n)+x*(b*((b*b-a*c)*n)+c*((x*(c*c)-a*b)*n)))) (.v 0) (.v 1) (.v 2) (.v 3) (.v 4)) ((fun (a b c x n:PE)=>((a*(a*a-x*(b*c))+x*(c*(x*(c*c)-a*b)+b*(b*b-a*c)))*n)) (.v 0) (.v 1) (.v 2) (.v 3) (.v 4)) (by kernel_rfl)
theorem i6_2 {F:Type} [Rg F] (a b c x n:F):a*((x*(c*c)-a*b)*n)+b*((a*a-x*(b*c))*n)+x*(c*((b*b-a*c)*n))=0 :=
 rid [a,b,c,x,n] ((fun (a b c x n:PE)=>(a*((x*(c*c)-a*b)*n)+b*((a*a-x*(b*c))*n)+x*(c*((b*b-a*c)*n)))) (.v 0) (.v 1) (.v 2) (.v 3) (.v 4)) ((fun (a b c x n:PE)=>(0)) (.v 0) (.v 1) (.v 2) (.v 3) (.v 4)) (by kernel_rfl)
theorem i6_3 {F:Type} [Rg F] (a b c x n:F):a*((b*b-a*c)*n)+b*((x*(c*c)-a*b)*n)+c*((a*a-x*(b*c))*n)=0 :=
 rid [a,b,c,x,n] ((fun (a b c x n:PE)=>(a*((b*b-a*c)*n)+b*((x*(c*c)-a*b)*n)+c*((a*a-x*(b*c))*n))) (.v 0) (.v 1) (.v 2) (.v 3) (.v 4)) ((fun (a b c x n:PE)=>(0)) (.v 0) (.v 1) (.v 2) (.v 3) (.v 4)) (by kernel_rfl)
theorem n6_sq {F:Type} [Rg F] (a b c x:F):(a*a+x*(b*c+c*b))*((a*a+x*(b*c+c*b))*(a*a+x*(b*c+c*b))-x*((a*b+b*a+x*(c*c))*(a*c+b*b+c*a)))+x*((a*c+b*b+c*a)*(x*((a*c+b*b+c*a)*(a*c+b*b+c*a))-(a*a+x*(b*c+c*b))*(a*b+b*a+x*(c*c)))+(a*b+b*a+x*(c*c))*((a*b+b*a+x*(c*c))*(a*b+b*a+x*(c*c))-(a*a+x*(b*c+c*b))*(a*c+b*b+c*a)))=(a*(a*a-x*(b*c))+x*(c*(x*(c*c)-a*b)+b*(b*b-a*c)))*(a*(a*a-x*(b*c))+x*(c*(x*(c*c)-a*b)+b*(b*b-a*c))) :=
 rid [a,b,c,x] ((fun (a b c x:PE)=>((a*a+x*(b*c+c*b))*((a*a+x*(b*c+c*b))*(a*a+x*(b*c+c*b))-x*((a*b+b*a+x*(c*c))*(a*c+b*b+c*a)))+x*((a*c+b*b+c*a)*(x*((a*c+b*b+c*a)*(a*c+b*b+c*a))-(a*a+x*(b*c+c*b))*(a*b+b*a+x*(c*c)))+(a*b+b*a+x*(c*c))*((a*b+b*a+x*(c*c))*(a*b+b*a+x*(c*c))-(a*a+x*(b*c+c*b))*(a*c+b*b+c*a))))) (.v 0) (.v 1) (.v 2) (.v 3)) ((fun (a b c x:PE)=>((a*(a*a-x*(b*c))+x*(c*(x*(c*c)-a*b)+b*(b*b-a*c)))*(a*(a*a-x*(b*c))+x*(c*(x*(c*c)-a*b)+b*(b*b-a*c))))) (.v 0) (.v 1) (.v 2) (.v 3)) (by kernel_rfl)
theorem n6_vv {F:Type} [Rg F] (x:F):0*(0*0-x*(1*0))+x*(0*(x*(0*0)-0*1)+1*(1*1-0*0))=x :=
 rid [x] ((fun (x:PE)=>(0*(0*0-x*(1*0))+x*(0*(x*(0*0)-0*1)+1*(1*1-0*0)))) (.v 0)) ((fun (x:PE)=>(x)) (.v 0)) (by kernel_rfl)
section
variable {R:Type} [Fd R] (x:R)
theorem c_lin (hx:∀ s:R,s*s*s=x->False) {a c:R} (h:a*a*a+x*(c*c*c)=0):a=0/\c=0:=by
 have hc:c=0:=by
  refine Classical.byContradiction fun hc=>?_
  have hi:=mul_inv c hc
  refine hx (-a*inv c) ?_
  have e:a*a*a=-(x*(c*c*c)):=by
   have:=neg_eq h
   rw[<- this,neg_neg]
  rw[n6_t,e,neg_mul,neg_neg]
  have:x*(c*c*c)*(inv c*inv c*inv c)=x*((c*inv c)*(c*inv c)*(c*inv c)):=n6_q _ _ _
  rw[this,hi,one_mul,one_mul,mul_one]
 refine⟨?_,hc⟩
 rw[hc,mul_zero,mul_zero,add_zero] at h
 rcases mul_eq_zero h with h|h
 ·rcases mul_eq_zero h with h|h<;>exact h
 ·exact h
def cadj (t:R × R × R):R × R × R:=(t.1*t.1-x*(t.2.1*t.2.2),x*(t.2.2*t.2.2)-t.1*t.2.1,t.2.1*t.2.1-t.1*t.2.2)
def cnm (t:R × R × R):R:=t.1*(t.1*t.1-x*(t.2.1*t.2.2))+x*(t.2.2*(x*(t.2.2*t.2.2)-t.1*t.2.1)+t.2.1*(t.2.1*t.2.1-t.1*t.2.2))
theorem cnm_ne (hx:∀ s:R,s*s*s=x->False) {t:R × R × R} (h:t≠(0,0,0)):cnm x t≠0:=by
 intro e
 unfold cnm at e
 by_cases hc:t.2.2=0
 ·rw[hc,n6_c0] at e
  obtain⟨h1,h2⟩:=c_lin x hx e
  exact h (cext h1 h2 hc)
 ·have k:=n6_id t.1 t.2.1 t.2.2 x
  rw[e,zero_mul] at k
  obtain⟨h1,h2⟩:=c_lin x hx k.symm
  have hi:=mul_inv _ hc
  refine hx (t.2.1*inv t.2.2) (eq_of_sub ?_)
  have p:=n6_p1 t.2.1 t.2.2 t.1 x
  rw[h1,h2,mul_zero,mul_zero,add_zero] at p
  have q:=n6_p2 t.2.1 t.2.2 (inv t.2.2) x
  rw[p,mul_zero,hi,one_mul,one_mul,mul_one] at q
  exact q
noncomputable def cinv (t:R × R × R):R × R × R:=opq ((cadj x t).1*inv (cnm x t),(cadj x t).2.1*inv (cnm x t),(cadj x t).2.2*inv (cnm x t))
theorem cinv_def (t:R × R × R):cinv x t=((cadj x t).1*inv (cnm x t),(cadj x t).2.1*inv (cnm x t),(cadj x t).2.2*inv (cnm x t)):=opq_eq _
theorem cinv_mul (hx:∀ s:R,s*s*s=x->False) {t:R × R × R} (h:t≠(0,0,0)):cmul x t (cinv x t)=(1,0,0):=by
 have hn:=mul_inv _ (cnm_ne x hx h)
 rw[cmul_def,cinv_def]
 exact cext ((i6_1 _ _ _ _ _).trans hn) (i6_2 _ _ _ _ _) (i6_3 _ _ _ _ _)
theorem cnm_sq (t:R × R × R):cnm x (cmul x t t)=cnm x t*cnm x t:=by
 rw[cmul_def]
 exact n6_sq t.1 t.2.1 t.2.2 x
theorem cnm_v:cnm x ((0:R),(1:R),(0:R))=x:=n6_vv x
end
noncomputable abbrev nm6 (t:F6):F2:=cnm xi t
noncomputable abbrev inv6 (t:F6):F6:=cinv xi t
noncomputable instance fdF6:Fd F6 where
 deq:=inferInstanceAs (DecidableEq (F2 × F2 × F2))
 inv:=inv6
 mul_inv _ h:=cinv_mul xi (fun _ e=>xi_cube e) h
 one_ne:=fun h=>absurd (congrArg Prod.fst h) one_ne
 two_ne:=fun h=>absurd (congrArg Prod.fst h) (by rw[F6.add_def];exact two_ne)
 three_ne:=fun h=>absurd (congrArg Prod.fst h) (by rw[F6.add_def,F6.add_def];exact three_ne)
end Cr
namespace Cr
open Rg
section
variable {F:Type} [Rg F]
def pwn (x:F):Nat->F
 | 0=>1
 | n+1=>pwn x n*x
theorem pwn_add (x:F) (m n:Nat):pwn x (m+n)=pwn x m*pwn x n:=by
 induction n with
 | zero=>show pwn x m=pwn x m*1;rw[mul_one]
 | succ n ih=>show pwn x (m+n)*x=pwn x m*(pwn x n*x);rw[ih,mul_assoc]
theorem pwn_mul (x:F) (m n:Nat):pwn x (m*n)=pwn (pwn x m) n:=by
 induction n with
 | zero=>rfl
 | succ n ih=>show pwn x (m*n+m)=pwn (pwn x m) n*pwn x m;rw[pwn_add,ih]
theorem pwn_prod (x y:F) (n:Nat):pwn (x*y) n=pwn x n*pwn y n:=by
 induction n with
 | zero=>show (1:F)=1*1;rw[one_mul]
 | succ n ih =>
  show pwn (x*y) n*(x*y)=pwn x n*x*(pwn y n*y)
  rw[ih,mul_assoc,mul_assoc,<- mul_assoc (pwn y n),mul_comm (pwn y n),mul_assoc x]
theorem pwn_one (n:Nat):pwn (1:F) n=1:=by
 induction n with
 | zero=>rfl
 | succ n ih=>show pwn (1:F) n*1=1;rw[ih,mul_one]
def sumN (f:Nat->F):Nat->F
 | 0=>0
 | n+1=>sumN f n+f n
def bc:Nat->Nat->Nat
 | _,0=>1
 | 0,_+1=>0
 | n+1,k+1=>bc n k+bc n (k+1)
end
end Cr
namespace Cr
open Rg Fd Go.Eng
abbrev F12:=F6 × F6
def vv:F6:=((0:F2),(1:F2),(0:F2))
theorem vv_1 {F:Type} [Rg F] (a b c x:F):0*a+x*(1*c+0*b)=x*c :=
 rid [a,b,c,x] ((fun (a b c x:PE)=>(0*a+x*(1*c+0*b))) (.v 0) (.v 1) (.v 2) (.v 3)) ((fun (a b c x:PE)=>(x*c)) (.v 0) (.v 1) (.v 2) (.v 3)) (by kernel_rfl)
theorem vv_2 {F:Type} [Rg F] (a b c x:F):0*b+1*a+x*(0*c)=a :=
 rid [a,b,c,x] ((fun (a b c x:PE)=>(0*b+1*a+x*(0*c))) (.v 0) (.v 1) (.v 2) (.v 3)) ((fun (a b c x:PE)=>(a)) (.v 0) (.v 1) (.v 2) (.v 3)) (by kernel_rfl)
theorem vv_3 {F:Type} [Rg F] (a b c:F):0*c+1*b+0*a=b :=
 rid [a,b,c] ((fun (a b c:PE)=>(0*c+1*b+0*a)) (.v 0) (.v 1) (.v 2)) ((fun (a b c:PE)=>(b)) (.v 0) (.v 1) (.v 2)) (by kernel_rfl)
section
variable {R:Type} [Rg R] (v:R)
theorem cv_mul (x:R × R × R):cmul v (0,1,0) x=(v*x.2.2,x.1,x.2.1):=by rw[cmul_def];exact cext (vv_1 _ _ _ _) (vv_2 _ _ _ _) (vv_3 _ _ _)
end
theorem vv_mul (x:F6):vv*x=(xi*x.2.2,x.1,x.2.1):=cv_mul xi x
theorem q_co1 {F:Type} [Rg F] (a b c d v:F):a*c+v*(b*d)=c*a+v*(d*b) :=
 rid [a,b,c,d,v] ((fun (a b c d v:PE)=>(a*c+v*(b*d))) (.v 0) (.v 1) (.v 2) (.v 3) (.v 4)) ((fun (a b c d v:PE)=>(c*a+v*(d*b))) (.v 0) (.v 1) (.v 2) (.v 3) (.v 4)) (by kernel_rfl)
theorem q_co2 {F:Type} [Rg F] (a b c d:F):a*d+b*c=c*b+d*a :=
 rid [a,b,c,d] ((fun (a b c d:PE)=>(a*d+b*c)) (.v 0) (.v 1) (.v 2) (.v 3)) ((fun (a b c d:PE)=>(c*b+d*a)) (.v 0) (.v 1) (.v 2) (.v 3)) (by kernel_rfl)
theorem q_as1 {F:Type} [Rg F] (a b c d e f v:F):(a*c+v*(b*d))*e+v*((a*d+b*c)*f)=a*(c*e+v*(d*f))+v*(b*(c*f+d*e)) :=
 rid [a,b,c,d,e,f,v] ((fun (a b c d e f v:PE)=>((a*c+v*(b*d))*e+v*((a*d+b*c)*f))) (.v 0) (.v 1) (.v 2) (.v 3) (.v 4) (.v 5) (.v 6)) ((fun (a b c d e f v:PE)=>(a*(c*e+v*(d*f))+v*(b*(c*f+d*e)))) (.v 0) (.v 1) (.v 2) (.v 3) (.v 4) (.v 5) (.v 6)) (by kernel_rfl)
theorem q_as2 {F:Type} [Rg F] (a b c d e f v:F):(a*c+v*(b*d))*f+(a*d+b*c)*e=a*(c*f+d*e)+b*(c*e+v*(d*f)) :=
 rid [a,b,c,d,e,f,v] ((fun (a b c d e f v:PE)=>((a*c+v*(b*d))*f+(a*d+b*c)*e)) (.v 0) (.v 1) (.v 2) (.v 3) (.v 4) (.v 5) (.v 6)) ((fun (a b c d e f v:PE)=>(a*(c*f+d*e)+b*(c*e+v*(d*f)))) (.v 0) (.v 1) (.v 2) (.v 3) (.v 4) (.v 5) (.v 6)) (by kernel_rfl)
theorem q_o1 {F:Type} [Rg F] (a b v:F):1*a+v*(0*b)=a :=
 rid [a,b,v] ((fun (a b v:PE)=>(1*a+v*(0*b))) (.v 0) (.v 1) (.v 2)) ((fun (a b v:PE)=>(a)) (.v 0) (.v 1) (.v 2)) (by kernel_rfl)
theorem q_o2 {F:Type} [Rg F] (a b:F):1*b+0*a=b :=
 rid [a,b] ((fun (a b:PE)=>(1*b+0*a)) (.v 0) (.v 1)) ((fun (a b:PE)=>(b)) (.v 0) (.v 1)) (by kernel_rfl)
theorem q_d1 {F:Type} [Rg F] (a b c d e f v:F):(a+c)*e+v*((b+d)*f)=a*e+v*(b*f)+(c*e+v*(d*f)) :=
 rid [a,b,c,d,e,f,v] ((fun (a b c d e f v:PE)=>((a+c)*e+v*((b+d)*f))) (.v 0) (.v 1) (.v 2) (.v 3) (.v 4) (.v 5) (.v 6)) ((fun (a b c d e f v:PE)=>(a*e+v*(b*f)+(c*e+v*(d*f)))) (.v 0) (.v 1) (.v 2) (.v 3) (.v 4) (.v 5) (.v 6)) (by kernel_rfl)
theorem q_d2 {F:Type} [Rg F] (a b c d e f:F):(a+c)*f+(b+d)*e=a*f+b*e+(c*f+d*e) :=
 rid [a,b,c,d,e,f] ((fun (a b c d e f:PE)=>((a+c)*f+(b+d)*e)) (.v 0) (.v 1) (.v 2) (.v 3) (.v 4) (.v 5)) ((fun (a b c d e f:PE)=>(a*f+b*e+(c*f+d*e))) (.v 0) (.v 1) (.v 2) (.v 3) (.v 4) (.v 5)) (by kernel_rfl)
section
variable {R:Type} [Rg R] (v:R)
noncomputable def qadd (x y:R × R):R × R:=opq (x.1+y.1,x.2+y.2)
noncomputable def qsub (x y:R × R):R × R:=opq (x.1-y.1,x.2-y.2)
noncomputable def qneg (x:R × R):R × R:=opq (-x.1,-x.2)
noncomputable def qmul (x y:R × R):R × R:=opq (x.1*y.1+v*(x.2*y.2),x.1*y.2+x.2*y.1)
theorem qadd_def (x y:R × R):qadd x y=(x.1+y.1,x.2+y.2):=opq_eq _
theorem qsub_def (x y:R × R):qsub x y=(x.1-y.1,x.2-y.2):=opq_eq _
theorem qneg_def (x:R × R):qneg x=(-x.1,-x.2):=opq_eq _
theorem qmul_def (x y:R × R):qmul v x y=(x.1*y.1+v*(x.2*y.2),x.1*y.2+x.2*y.1):=opq_eq _
theorem q_l1 (a b:R × R):qadd a b=qadd b a:=by rw[qadd_def,qadd_def,add_comm,add_comm a.2]
theorem q_l2 (a b c:R × R):qadd (qadd a b) c=qadd a (qadd b c):=by rw[qadd_def,qadd_def,qadd_def,qadd_def,add_assoc,add_assoc]
theorem q_l3 (a:R × R):qadd (0,0) a=a:=by rw[qadd_def,zero_add,zero_add]
theorem q_l4 (a:R × R):qadd (qneg a) a=(0,0):=by rw[qadd_def,qneg_def,neg_add,neg_add]
theorem q_l5 (a b:R × R):qsub a b=qadd a (qneg b):=by rw[qadd_def,qneg_def,qsub_def,Rg.sub_def,Rg.sub_def]
theorem q_l6 (a b:R × R):qmul v a b=qmul v b a:=by rw[qmul_def,qmul_def];exact Prod.ext (q_co1 a.1 a.2 b.1 b.2 v) (q_co2 a.1 a.2 b.1 b.2)
theorem q_l7 (a b c:R × R):qmul v (qmul v a b) c=qmul v a (qmul v b c):=by rw[qmul_def,qmul_def,qmul_def,qmul_def];exact Prod.ext (q_as1 a.1 a.2 b.1 b.2 c.1 c.2 v) (q_as2 a.1 a.2 b.1 b.2 c.1 c.2 v)
theorem q_l8 (a:R × R):qmul v (1,0) a=a:=by rw[qmul_def];exact Prod.ext (q_o1 a.1 a.2 v) (q_o2 a.1 a.2)
theorem q_l9 (a b c:R × R):qmul v (qadd a b) c=qadd (qmul v a c) (qmul v b c):=by rw[qadd_def,qmul_def,qmul_def,qmul_def,qadd_def];exact Prod.ext (q_d1 a.1 a.2 b.1 b.2 c.1 c.2 v) (q_d2 a.1 a.2 b.1 b.2 c.1 c.2)
end
noncomputable instance rgF12:Rg F12 where
 zero:=(0,0)
 one:=(1,0)
 add:=qadd
 sub:=qsub
 neg:=qneg
 mul:=qmul vv
 add_comm:=q_l1
 add_assoc:=q_l2
 zero_add:=q_l3
 neg_add:=q_l4
 sub_def:=q_l5
 mul_comm:=q_l6 vv
 mul_assoc:=q_l7 vv
 one_mul:=q_l8 vv
 add_mul:=q_l9 vv
theorem F12.ext {x y:F12} (h1:x.1=y.1) (h2:x.2=y.2):x=y:=Prod.ext h1 h2
theorem F12.add_def (x y:F12):x+y=(x.1+y.1,x.2+y.2):=qadd_def x y
theorem F12.sub_def (x y:F12):x-y=(x.1-y.1,x.2-y.2):=qsub_def x y
theorem F12.neg_def (x:F12) : -x=(-x.1,-x.2):=qneg_def x
theorem F12.mul_def (x y:F12):x*y=(x.1*y.1+vv*(x.2*y.2),x.1*y.2+x.2*y.1):=qmul_def vv x y
theorem F12.a1 (x y:F12):(x+y).1=x.1+y.1:=by rw[F12.add_def]
theorem F12.a2 (x y:F12):(x+y).2=x.2+y.2:=by rw[F12.add_def]
theorem F12.m1 (x y:F12):(x*y).1=x.1*y.1+vv*(x.2*y.2):=by rw[F12.mul_def]
theorem F12.m2 (x y:F12):(x*y).2=x.1*y.2+x.2*y.1:=by rw[F12.mul_def]
theorem nm6_sq (t:F6):nm6 (t*t)=nm6 t*nm6 t:=cnm_sq xi t
theorem nm6_vv:nm6 vv=xi:=cnm_v xi
theorem vv_sq {t:F6} (h:t*t=vv):False:=by
 have e:=congrArg nm6 h
 rw[nm6_sq,nm6_vv] at e
 exact xi_sq e
theorem q_nr {F:Type} [Rg F] (a b j v:F):(a*j)*(a*j)-v=(j*j)*(a*a-v*(b*b))+v*((b*j)*(b*j)-1) :=
 rid [a,b,j,v] ((fun (a b j v:PE)=>((a*j)*(a*j)-v)) (.v 0) (.v 1) (.v 2) (.v 3)) ((fun (a b j v:PE)=>((j*j)*(a*a-v*(b*b))+v*((b*j)*(b*j)-1))) (.v 0) (.v 1) (.v 2) (.v 3)) (by kernel_rfl)
theorem q_i1 {F:Type} [Rg F] (a b n v:F):a*(a*n)+v*(b * -(b*n))=(a*a-v*(b*b))*n :=
 rid [a,b,n,v] ((fun (a b n v:PE)=>(a*(a*n)+v*(b * -(b*n)))) (.v 0) (.v 1) (.v 2) (.v 3)) ((fun (a b n v:PE)=>((a*a-v*(b*b))*n)) (.v 0) (.v 1) (.v 2) (.v 3)) (by kernel_rfl)
theorem q_i2 {F:Type} [Rg F] (a b n:F):a * -(b*n)+b*(a*n)=0 :=
 rid [a,b,n] ((fun (a b n:PE)=>(a * -(b*n)+b*(a*n))) (.v 0) (.v 1) (.v 2)) ((fun (a b n:PE)=>(0)) (.v 0) (.v 1) (.v 2)) (by kernel_rfl)
section
variable {R:Type} [Fd R] (v:R)
theorem qnm_ne (hv:∀ t:R,t*t=v->False) {x:R × R} (h:x≠(0,0)):x.1*x.1-v*(x.2*x.2)≠0:=by
 intro e
 by_cases hb:x.2=0
 ·rw[hb,mul_zero,mul_zero,Rg.sub_def,neg_zero,add_zero] at e
  have ha:x.1=0:=by rcases mul_eq_zero e with e|e<;>exact e
  exact h (Prod.ext ha hb)
 ·have hi:=mul_inv x.2 hb
  refine hv (x.1*inv x.2) (eq_of_sub ?_)
  have k:=q_nr x.1 x.2 (inv x.2) v
  rw[e,hi,one_mul,sub_self,mul_zero,mul_zero,zero_add] at k
  exact k
noncomputable def qinv (x:R × R):R × R:=opq (x.1*inv (x.1*x.1-v*(x.2*x.2)),-(x.2*inv (x.1*x.1-v*(x.2*x.2))))
theorem qinv_def (x:R × R):qinv v x=(x.1*inv (x.1*x.1-v*(x.2*x.2)),-(x.2*inv (x.1*x.1-v*(x.2*x.2)))):=opq_eq _
theorem qinv_mul (hv:∀ t:R,t*t=v->False) {x:R × R} (h:x≠(0,0)):qmul v x (qinv v x)=(1,0):=by
 have hn:=mul_inv _ (qnm_ne v hv h)
 rw[qmul_def,qinv_def]
 exact Prod.ext ((q_i1 _ _ _ _).trans hn) (q_i2 _ _ _)
end
noncomputable abbrev inv12 (t:F12):F12:=qinv vv t
noncomputable instance fdF12:Fd F12 where
 deq:=inferInstanceAs (DecidableEq (F6 × F6))
 inv:=inv12
 mul_inv _ h:=qinv_mul vv (fun _ e=>vv_sq e) h
 one_ne:=fun h=>absurd (congrArg Prod.fst h) one_ne
 two_ne:=fun h=>absurd (congrArg Prod.fst h) (by rw[F12.add_def];exact two_ne)
 three_ne:=fun h=>absurd (congrArg Prod.fst h) (by rw[F12.add_def,F12.add_def];exact three_ne)
end Cr
namespace Cr
open Rg Fd
theorem t6_1 {F:Type} [Rg F] (a b c d e f x:F):a*d+x*((b+c)*(e+f)-b*e-c*f)=a*d+x*(b*f+c*e) :=
 rid [a,b,c,d,e,f,x] ((fun (a b c d e f x:PE)=>(a*d+x*((b+c)*(e+f)-b*e-c*f))) (.v 0) (.v 1) (.v 2) (.v 3) (.v 4) (.v 5) (.v 6)) ((fun (a b c d e f x:PE)=>(a*d+x*(b*f+c*e))) (.v 0) (.v 1) (.v 2) (.v 3) (.v 4) (.v 5) (.v 6)) (by kernel_rfl)
theorem t6_2 {F:Type} [Rg F] (a b c d e f x:F):((a+b)*(d+e)-a*d-b*e)+x*(c*f)=a*e+b*d+x*(c*f) :=
 rid [a,b,c,d,e,f,x] ((fun (a b c d e f x:PE)=>(((a+b)*(d+e)-a*d-b*e)+x*(c*f))) (.v 0) (.v 1) (.v 2) (.v 3) (.v 4) (.v 5) (.v 6)) ((fun (a b c d e f x:PE)=>(a*e+b*d+x*(c*f))) (.v 0) (.v 1) (.v 2) (.v 3) (.v 4) (.v 5) (.v 6)) (by kernel_rfl)
theorem t6_3 {F:Type} [Rg F] (a b c d e f:F):((a+c)*(d+f)-a*d-c*f)+b*e=a*f+b*e+c*d :=
 rid [a,b,c,d,e,f] ((fun (a b c d e f:PE)=>(((a+c)*(d+f)-a*d-c*f)+b*e)) (.v 0) (.v 1) (.v 2) (.v 3) (.v 4) (.v 5)) ((fun (a b c d e f:PE)=>(a*f+b*e+c*d)) (.v 0) (.v 1) (.v 2) (.v 3) (.v 4) (.v 5)) (by kernel_rfl)
theorem tw_mul (x y:F6):((x.1*y.1+xi*((x.2.1+x.2.2)*(y.2.1+y.2.2)-x.2.1*y.2.1-x.2.2*y.2.2),((x.1+x.2.1)*(y.1+y.2.1)-x.1*y.1-x.2.1*y.2.1)+xi*(x.2.2*y.2.2),((x.1+x.2.2)*(y.1+y.2.2)-x.1*y.1-x.2.2*y.2.2)+x.2.1*y.2.1):F6)=x*y:=by
 rw[F6.mul_def,t6_1,t6_2,t6_3]
theorem t6_p1 {F:Type} [Rg F] (a b c d e x:F):a*d+x*(c*e)=a*d+x*(b*0+c*e) :=
 rid [a,b,c,d,e,x] ((fun (a b c d e x:PE)=>(a*d+x*(c*e))) (.v 0) (.v 1) (.v 2) (.v 3) (.v 4) (.v 5)) ((fun (a b c d e x:PE)=>(a*d+x*(b*0+c*e))) (.v 0) (.v 1) (.v 2) (.v 3) (.v 4) (.v 5)) (by kernel_rfl)
theorem t6_p2 {F:Type} [Rg F] (a b c d e x:F):(a+b)*(d+e)-a*d-b*e=a*e+b*d+x*(c*0) :=
 rid [a,b,c,d,e,x] ((fun (a b c d e x:PE)=>((a+b)*(d+e)-a*d-b*e)) (.v 0) (.v 1) (.v 2) (.v 3) (.v 4) (.v 5)) ((fun (a b c d e x:PE)=>(a*e+b*d+x*(c*0))) (.v 0) (.v 1) (.v 2) (.v 3) (.v 4) (.v 5)) (by kernel_rfl)
theorem t6_p3 {F:Type} [Rg F] (a b c d e:F):b*e+c*d=a*0+b*e+c*d :=
 rid [a,b,c,d,e] ((fun (a b c d e:PE)=>(b*e+c*d)) (.v 0) (.v 1) (.v 2) (.v 3) (.v 4)) ((fun (a b c d e:PE)=>(a*0+b*e+c*d)) (.v 0) (.v 1) (.v 2) (.v 3) (.v 4)) (by kernel_rfl)
theorem tw_pair (x:F6) (a b:F2):((x.1*a+xi*(x.2.2*b),(x.1+x.2.1)*(a+b)-x.1*a-x.2.1*b,x.2.1*b+x.2.2*a):F6)=x*((a,b,0):F6):=by
 rw[F6.mul_def,t6_p1 x.1 x.2.1 x.2.2 a b xi,t6_p2 x.1 x.2.1 x.2.2 a b xi,t6_p3 x.1 x.2.1 x.2.2 a b]
theorem t6_s1 {F:Type} [Rg F] (a b c k x:F):a*k=a*k+x*(b*0+c*0) :=
 rid [a,b,c,k,x] ((fun (a b c k x:PE)=>(a*k)) (.v 0) (.v 1) (.v 2) (.v 3) (.v 4)) ((fun (a b c k x:PE)=>(a*k+x*(b*0+c*0))) (.v 0) (.v 1) (.v 2) (.v 3) (.v 4)) (by kernel_rfl)
theorem t6_s2 {F:Type} [Rg F] (a b c k x:F):b*k=a*0+b*k+x*(c*0) :=
 rid [a,b,c,k,x] ((fun (a b c k x:PE)=>(b*k)) (.v 0) (.v 1) (.v 2) (.v 3) (.v 4)) ((fun (a b c k x:PE)=>(a*0+b*k+x*(c*0))) (.v 0) (.v 1) (.v 2) (.v 3) (.v 4)) (by kernel_rfl)
theorem t6_s3 {F:Type} [Rg F] (a b c k:F):c*k=a*0+b*0+c*k :=
 rid [a,b,c,k] ((fun (a b c k:PE)=>(c*k)) (.v 0) (.v 1) (.v 2) (.v 3)) ((fun (a b c k:PE)=>(a*0+b*0+c*k)) (.v 0) (.v 1) (.v 2) (.v 3)) (by kernel_rfl)
theorem tw_scale (x:F6) (k:F2):((x.1*k,x.2.1*k,x.2.2*k):F6)=x*((k,0,0):F6):=by
 rw[F6.mul_def,<- t6_s1,<- t6_s2,<- t6_s3]
theorem tw_inv (x:F6):((x.1*x.1-xi*(x.2.1*x.2.2),xi*(x.2.2*x.2.2)-x.1*x.2.1,x.2.1*x.2.1-x.1*x.2.2):F6)*((inv (x.1*(x.1*x.1-xi*(x.2.1*x.2.2))+xi*(x.2.2*(xi*(x.2.2*x.2.2)-x.1*x.2.1)+x.2.1*(x.2.1*x.2.1-x.1*x.2.2))),0,0):F6)=inv x:=by
 rw[<- tw_scale]
 show _=cinv xi x
 rw[cinv_def];rfl
theorem t12_1 {F:Type} [Rg F] (a b c d v:F):(a+b)*(c+d)-a*c-b*d=a*d+b*c :=
 rid [a,b,c,d,v] ((fun (a b c d v:PE)=>((a+b)*(c+d)-a*c-b*d)) (.v 0) (.v 1) (.v 2) (.v 3) (.v 4)) ((fun (a b c d v:PE)=>(a*d+b*c)) (.v 0) (.v 1) (.v 2) (.v 3) (.v 4)) (by kernel_rfl)
theorem tw_emul (x y:F12):((x.1*y.1+vv*(x.2*y.2),(x.1+x.2)*(y.1+y.2)-x.1*y.1-x.2*y.2):F12)=x*y:=by
 rw[F12.mul_def,t12_1 x.1 x.2 y.1 y.2 vv]
theorem t12_2 {F:Type} [Rg F] (a b v:F):(a+b)*(a+v*b)-a*b-v*(a*b)=a*a+v*(b*b) :=
 rid [a,b,v] ((fun (a b v:PE)=>((a+b)*(a+v*b)-a*b-v*(a*b))) (.v 0) (.v 1) (.v 2)) ((fun (a b v:PE)=>(a*a+v*(b*b))) (.v 0) (.v 1) (.v 2)) (by kernel_rfl)
theorem t12_3 {F:Type} [Rg F] (a b:F):a*b+a*b=a*b+b*a :=
 rid [a,b] ((fun (a b:PE)=>(a*b+a*b)) (.v 0) (.v 1)) ((fun (a b:PE)=>(a*b+b*a)) (.v 0) (.v 1)) (by kernel_rfl)
theorem tw_esq (x:F12):(((x.1+x.2)*(x.1+vv*x.2)-x.1*x.2-vv*(x.1*x.2),x.1*x.2+x.1*x.2):F12)=x*x:=by
 rw[F12.mul_def,t12_2 x.1 x.2 vv,t12_3 x.1 x.2]
noncomputable def conj12 (x:F12):F12:=(x.1,-x.2)
theorem zero_sub' {R:Type} [Rg R] (b:R):0-b=-b:=by rw[Rg.sub_def,zero_add]
theorem tw_conj (x:F12):((x.1,(0:F6)-x.2):F12)=conj12 x:=by rw[zero_sub'];rfl
theorem tw_einv (x:F12):((x.1*inv (x.1*x.1-vv*(x.2*x.2)),(0:F6)-x.2*inv (x.1*x.1-vv*(x.2*x.2))):F12)=inv x:=by
 rw[zero_sub']
 show _=qinv vv x
 rw[qinv_def]
def line12 (a b c:F2):F12:=(((a,b,0):F6),((0,c,0):F6))
theorem l12_1 (c:F2):vv*((c,0,0):F6)=((0,c,0):F6):=by
 rw[vv_mul]
 show ((xi*0,c,0):F6)=_
 rw[mul_zero]
theorem l12_2 (a b c:F2):((a,b+c,0):F6)=((a,b,0):F6)+((0,c,0):F6):=by
 rw[F6.add_def]
 show _=((a+0,b+c,0+0):F6)
 rw[add_zero,add_zero]
theorem t12_l {F:Type} [Rg F] (b c v:F):v*(b*c)=b*(v*c) :=
 rid [b,c,v] ((fun (b c v:PE)=>(v*(b*c))) (.v 0) (.v 1) (.v 2)) ((fun (b c v:PE)=>(b*(v*c))) (.v 0) (.v 1) (.v 2)) (by kernel_rfl)
theorem t12_m {F:Type} [Rg F] (a b l m:F):(a+b)*(l+m)-a*l-b*m=a*m+b*l :=
 rid [a,b,l,m] ((fun (a b l m:PE)=>((a+b)*(l+m)-a*l-b*m)) (.v 0) (.v 1) (.v 2) (.v 3)) ((fun (a b l m:PE)=>(a*m+b*l)) (.v 0) (.v 1) (.v 2) (.v 3)) (by kernel_rfl)
theorem tw_line (x:F12) (a b c:F2):((x.1*((a,b,0):F6)+vv*(vv*(x.2*((c,0,0):F6))),(x.1+x.2)*((a,b+c,0):F6)-x.1*((a,b,0):F6)-vv*(x.2*((c,0,0):F6))):F12)=x*line12 a b c:=by
 rw[F12.mul_def,t12_l x.2,l12_1,l12_2,t12_m]
 rfl
end Cr
namespace Cr
open Rg Fd Go.Eng
theorem neg_z {F:Type} [Rg F]:(-0:F)=0:=by have h:=Rg.neg_add (0:F);rwa [add_zero] at h
theorem sub_z {F:Type} [Rg F] (x:F):x-0=x:=by rw[Rg.sub_def,neg_z,add_zero]
theorem zpow_pwn {M:Int} [Md M] (x:Zm M):∀ n,zpow x n=pwn x n
 | 0=>rfl
 | n+1=>by show zpow x n*x=pwn x n*x;rw[zpow_pwn x n]
theorem pw_2 (a:Fp):∀ n,pwn ((a,0):F2) n=(pwn a n,0)
 | 0=>rfl
 | n+1=>by
  show pwn ((a,0):F2) n*(a,0)=(pwn a n*a,0)
  rw[pw_2 a n,F2.mul_def]
  refine F2.ext ?_ ?_
  ·show pwn a n*a-0*0=_
   rw[zero_mul,sub_z]
  ·show pwn a n*0+0*a=0
   rw[mul_zero,zero_mul,zero_add]
def ii:F2:=((0:Fp),(1:Fp))
theorem ii_sq:ii*ii=(-1:F2):=by
 rw[F2.mul_def,F2.neg_def]
 refine F2.ext ?_ ?_
 ·show (0:Fp)*0-1*1=-1
  rw[zero_mul,one_mul,Rg.sub_def,zero_add]
 ·show (0:Fp)*1+1*0=-0
  rw[zero_mul,mul_zero,zero_add]
  exact Zm.ext (of_decide_eq_true (by kernel_rfl))
end Cr
namespace Cr
open Rg Fd Go.Eng
def e2 (c:F2):F12:=((c,(0:F2),(0:F2)),(0:F2),(0:F2),(0:F2))
def e6 (c:F2):F6:=(c,(0:F2),(0:F2))
def ww:F12:=(((0:F2),(0:F2),(0:F2)),(1:F2),(0:F2),(0:F2))
def cjg (x:F2):F2:=(x.1,-x.2)
theorem xi_two:xi*xi=(((1:Fp)+1,(0:Fp)):F2)*ii:=by
 rw[F2.mul_def,F2.mul_def]
 refine F2.ext ?_ ?_
 ·show (1:Fp)*1-1*1=(1+1)*0-0*1
  rw[mul_zero,one_mul,zero_mul,sub_z,Rg.sub_def,add_comm,Rg.neg_add]
 ·show (1:Fp)*1+1*1=(1+1)*1+0*0
  rw[mul_one,mul_one,mul_zero,add_zero]
theorem xi_pw {q m t:Nat} (hq:q=2*m+1) (hm:m=2*(2*t)+2+1):pwn xi q=(pwn ((1:Fp)+1) m,-pwn ((1:Fp)+1) m):=by
 have h2:pwn ii 2=(-1:F2):=by show 1*ii*ii=_;rw[one_mul,ii_sq]
 have h3:pwn (-1:F2) 2=1:=by show 1*(-1:F2) * -1=1;rw[one_mul,neg_mul,one_mul,neg_neg]
 have h4:pwn ii (2*(2*t))=1:=by rw[pwn_mul,h2,pwn_mul,h3,pwn_one]
 have h5:pwn ii m=-ii:=by
  rw[hm];show pwn ii (2*(2*t)+2)*ii=_
  rw[pwn_add,h4,h2,one_mul,neg_mul,one_mul]
 have h6:pwn xi 2=(((1:Fp)+1,(0:Fp)):F2)*ii:=by show 1*xi*xi=_;rw[one_mul,xi_two]
 rw[hq]
 show pwn xi (2*m)*xi=_
 rw[pwn_mul,h6,pwn_prod,pw_2,h5,F2.neg_def,F2.mul_def,F2.mul_def]
 obtain⟨u,hu⟩:∃ u,u=pwn ((1:Fp)+1) m:=⟨_,rfl⟩
 rw[<- hu]
 refine F2.ext ?_ ?_
 ·show (u * -0-0 * -1)*1-(u * -1+0 * -0)*1=u
  rw[neg_z,mul_zero,zero_mul,mul_zero,sub_z,add_zero,mul_one,mul_one,mul_comm,neg_mul,one_mul,Rg.sub_def,zero_add,neg_neg]
 ·show (u * -0-0 * -1)*1+(u * -1+0 * -0)*1=-u
  rw[neg_z,mul_zero,zero_mul,mul_zero,sub_z,add_zero,mul_one,mul_one,mul_comm,neg_mul,one_mul,zero_add]
end Cr
namespace Cr
open Rg Fd Go.Eng
end Cr
namespace Cr
open Rg Fd Go.Eng
abbrev V2:=Nat × Nat
abbrev V6:=V2 × V2 × V2
noncomputable def q2 (a:V2):F2:=evP2.φ a
def fo2 {α:Type} (a:V2) (k:V2->α):α:=fc a.1 fun x=>fc a.2 fun y=>k (x,y)
theorem fo2_eq {α:Type} (a:V2) (k:V2->α):fo2 a k=k a:=by rw[fo2,fc_eq,fc_eq]
def fo6 {α:Type} (a:V6) (k:V6->α):α:=fo2 a.1 fun x=>fo2 a.2.1 fun y=>fo2 a.2.2 fun z=>k (x,y,z)
theorem fo6_eq {α:Type} (a:V6) (k:V6->α):fo6 a k=k a:=by rw[fo6,fo2_eq,fo2_eq,fo2_eq]
def vadd (a b:V2):V2:=(addN2 a.1 b.1,addN2 a.2 b.2)
def vsub (a b:V2):V2:=(subN2 a.1 b.1,subN2 a.2 b.2)
def vmul (a b:V2):V2:=(subN2 (a.1*b.1) (a.2*b.2),addN2 (a.1*b.2) (a.2*b.1))
def vneg (a:V2):V2:=vsub (0,0) a
def vcj (a:V2):V2:=(a.1,subN2 0 a.2)
theorem q2_add (a b:V2):q2 (vadd a b)=q2 a+q2 b:=evP2.add_φ a b
theorem q2_sub (a b:V2):q2 (vsub a b)=q2 a-q2 b:=evP2.sub_φ a b
theorem q2_mul (a b:V2):q2 (vmul a b)=q2 a*q2 b:=evP2.mul_φ a b
theorem q2_zero:q2 (0,0)=0:=rfl
theorem q2_neg (a:V2):q2 (vneg a)=-q2 a:=by rw[vneg,q2_sub,q2_zero,zero_sub']
theorem q2_cj (a:V2):q2 (vcj a)=((q2 a).1,-(q2 a).2):=by
 refine F2.ext rfl ?_
 show (zm ((subN2 0 a.2:Nat):Int):Fp)=-zm (a.2:Int)
 rw[subN2_φ]
 show (0:Fp)-_=_
 rw[zero_sub']
end Cr
namespace Cr
open Rg Fd
section
variable {F:Type} [Fd F] {b:F}
def lv (A:F × F) (l:F) (R:F × F):F:=R.2-(A.2+l*(R.1-A.1))
variable (hb:b≠0)
include hb
end
section
variable {F:Type} [Fd F] {b:F}
noncomputable def Vt (A R:F × F):F:=if A=O2 then 1 else R.1-A.1
noncomputable def Lt (A B R:F × F):F:=if A=O2 then Vt B R else if B=O2 then Vt A R else if A.1=B.1/\B.2=-A.2 then R.1-A.1 else lv A (slope A.1 A.2 B.1 B.2) R
variable (hb:b≠0)
include hb
end
end Cr
namespace Cr
open Rg Fd
section
variable {F:Type} [Fd F] {b:F}
instance mulAssoc : Std.Associative (α := F) (fun x y => x * y) := ⟨mul_assoc⟩
instance mulComm : Std.Commutative (α := F) (fun x y => x * y) := ⟨mul_comm⟩
structure Kill (F:Type) [Fd F] where
 χ:F->F
 mul:∀ x y,χ (x*y)=χ x*χ y
 one:χ 1=1
 neg:χ (-1)=1
noncomputable def mlS (Q R:F × F) (s:F × (F × F)):Bool->F × (F × F)
 | false=>(s.1*s.1*Lt s.2 s.2 R,padd s.2 s.2)
 | true=>(s.1*s.1*Lt s.2 s.2 R*Lt (padd s.2 s.2) Q R,padd (padd s.2 s.2) Q)
noncomputable def ml (Q R:F × F) (l:List Bool):F × (F × F):=l.foldl (mlS Q R) (1,Q)
variable (K:Kill F)
structure Grp (b:F) (K:Kill F) (R:F × F) (S:F × F->Prop):Prop where
 on:∀ A,S A->OnP b A
 add:∀ A B,S A->S B->S (padd A B)
 vt:∀ A,S A->K.χ (Vt A R)=1
variable {R:F × F} {S:F × F->Prop} (hb:b≠0) (oR:OnF b R) (g:Grp b K R S)
include hb
include oR g
end
section
variable {F:Type} [Fd F] {b:F} (K:Kill F)
variable (hb:b≠0)
include hb
structure Two (b:F) (K:Kill F) (S T:F × F->Prop):Prop where
 onS:∀ A,S A->OnP b A
 addS:∀ A B,S A->S B->S (padd A B)
 onT:∀ A,T A->OnP b A
 addT:∀ A B,T A->T B->T (padd A B)
 vt:∀ A R,S A->T R->A≠O2->R≠O2->K.χ (R.1-A.1)=1
variable {S T:F × F->Prop} (g:Two b K S T)
include g
end
end Cr
namespace Cr
open Rg Fd
theorem u_on {F:Type} [Rg F] (x y b u:F):y*(u*u*u)*(y*(u*u*u))-(x*(u*u)*(x*(u*u))*(x*(u*u))+b*(u*u*u*(u*u*u)))=(u*u*u*(u*u*u))*(y*y-(x*x*x+b)) :=
 rid [x,y,b,u] ((fun (x y b u:PE)=>(y*(u*u*u)*(y*(u*u*u))-(x*(u*u)*(x*(u*u))*(x*(u*u))+b*(u*u*u*(u*u*u))))) (.v 0) (.v 1) (.v 2) (.v 3)) ((fun (x y b u:PE)=>((u*u*u*(u*u*u))*(y*y-(x*x*x+b)))) (.v 0) (.v 1) (.v 2) (.v 3)) (by kernel_rfl)
theorem u_l1 {F:Type} [Rg F] (x1 y1 x2 y2 l u:F):l*u*(x2*(u*u)-x1*(u*u))-(y2*(u*u*u)-y1*(u*u*u))=(u*u*u)*(l*(x2-x1)-(y2-y1)) :=
 rid [x1,y1,x2,y2,l,u] ((fun (x1 y1 x2 y2 l u:PE)=>(l*u*(x2*(u*u)-x1*(u*u))-(y2*(u*u*u)-y1*(u*u*u)))) (.v 0) (.v 1) (.v 2) (.v 3) (.v 4) (.v 5)) ((fun (x1 y1 x2 y2 l u:PE)=>((u*u*u)*(l*(x2-x1)-(y2-y1)))) (.v 0) (.v 1) (.v 2) (.v 3) (.v 4) (.v 5)) (by kernel_rfl)
theorem u_l2 {F:Type} [Rg F] (x1 y1 x2 y2 l u:F):l*u*(y1*(u*u*u)+y2*(u*u*u))-(x1*(u*u)*(x1*(u*u))+x1*(u*u)*(x2*(u*u))+x2*(u*u)*(x2*(u*u)))=(u*u*u*u)*(l*(y1+y2)-(x1*x1+x1*x2+x2*x2)) :=
 rid [x1,y1,x2,y2,l,u] ((fun (x1 y1 x2 y2 l u:PE)=>(l*u*(y1*(u*u*u)+y2*(u*u*u))-(x1*(u*u)*(x1*(u*u))+x1*(u*u)*(x2*(u*u))+x2*(u*u)*(x2*(u*u))))) (.v 0) (.v 1) (.v 2) (.v 3) (.v 4) (.v 5)) ((fun (x1 y1 x2 y2 l u:PE)=>((u*u*u*u)*(l*(y1+y2)-(x1*x1+x1*x2+x2*x2)))) (.v 0) (.v 1) (.v 2) (.v 3) (.v 4) (.v 5)) (by kernel_rfl)
theorem u_sx {F:Type} [Rg F] (x1 x2 l u:F):l*u*(l*u)-x1*(u*u)-x2*(u*u)=(l*l-x1-x2)*(u*u) :=
 rid [x1,x2,l,u] ((fun (x1 x2 l u:PE)=>(l*u*(l*u)-x1*(u*u)-x2*(u*u))) (.v 0) (.v 1) (.v 2) (.v 3)) ((fun (x1 x2 l u:PE)=>((l*l-x1-x2)*(u*u))) (.v 0) (.v 1) (.v 2) (.v 3)) (by kernel_rfl)
theorem u_sy {F:Type} [Rg F] (x1 y1 s l u:F) : -(y1*(u*u*u)+l*u*(s*(u*u)-x1*(u*u)))=-(y1+l*(s-x1))*(u*u*u) :=
 rid [x1,y1,s,l,u] ((fun (x1 y1 s l u:PE)=>(-(y1*(u*u*u)+l*u*(s*(u*u)-x1*(u*u))))) (.v 0) (.v 1) (.v 2) (.v 3) (.v 4)) ((fun (x1 y1 s l u:PE)=>(-(y1+l*(s-x1))*(u*u*u))) (.v 0) (.v 1) (.v 2) (.v 3) (.v 4)) (by kernel_rfl)
theorem u_ng {F:Type} [Rg F] (y u:F) : -y*(u*u*u)=-(y*(u*u*u)) :=
 rid [y,u] ((fun (y u:PE)=>(-y*(u*u*u))) (.v 0) (.v 1)) ((fun (y u:PE)=>(-(y*(u*u*u)))) (.v 0) (.v 1)) (by kernel_rfl)
section
variable {F G:Type} [Fd F] [Fd G]
structure Hm (f:F->G):Prop where
 add:∀ x y,f (x+y)=f x+f y
 mul:∀ x y,f (x*y)=f x*f y
 neg:∀ x,f (-x)=-f x
 one:f 1=1
 inj:∀ x,f x=0->x=0
variable {f:F->G} (H:Hm f)
include H
theorem Hm.zero:f 0=0:=by
 have h:=H.add 0 0
 rw[add_zero] at h
 have h2:f 0+f 0=f 0+0:=by rw[add_zero];exact h.symm
 exact add_left h2
theorem Hm.sub (x y:F):f (x-y)=f x-f y:=by rw[Rg.sub_def,Rg.sub_def,H.add,H.neg]
theorem Hm.eq {x y:F} (h:f x=f y):x=y:=eq_of_sub (H.inj _ (by rw[H.sub,h,sub_self]))
omit H in
def tws (f:F->G) (u:G) (A:F × F):G × G:=(f A.1*(u*u),f A.2*(u*u*u))
variable {u:G}
theorem tws_O:tws f u O2=O2:=by
 show (f 0*(u*u),f 0*(u*u*u))=_
 rw[H.zero,zero_mul,zero_mul]
theorem tws_neg (A:F × F):tws f u (pneg A)=pneg (tws f u A):=by
 show (f A.1*(u*u),f (-A.2)*(u*u*u))=(f A.1*(u*u),-(f A.2*(u*u*u)))
 rw[H.neg,u_ng]
variable {b:F} {b':G} (eb:b'=f b*(u*u*u*(u*u*u)))
include eb
theorem tws_on {A:F × F} (h:OnF b A):OnF b' (tws f u A):=by
 have h1:A.2*A.2=A.1*A.1*A.1+b:=h
 have h2:=congrArg f h1
 rw[H.mul,H.add,H.mul,H.mul] at h2
 show f A.2*(u*u*u)*(f A.2*(u*u*u))=f A.1*(u*u)*(f A.1*(u*u))*(f A.1*(u*u))+b'
 rw[eb]
 exact lc1 _ (u_on _ _ _ _) h2
theorem tws_onP {A:F × F} (h:OnP b A):OnP b' (tws f u A):=by
 rcases h with rfl|h
 ·exact .inl (tws_O H)
 ·exact .inr (tws_on H eb h)
omit eb in
theorem tws_ln {A B:F × F} {l:F} (h:LnP A B l):LnP (tws f u A) (tws f u B) (f l*u):=by
 have h1:=congrArg f h.1
 have h2:=congrArg f h.2
 rw[H.mul,H.sub,H.sub] at h1
 rw[H.mul,H.add,H.add,H.add,H.mul,H.mul,H.mul] at h2
 exact⟨lc1 _ (u_l1 _ _ _ _ _ _) h1,lc1 _ (u_l2 _ _ _ _ _ _) h2⟩
variable (hb:b≠0) (hb':b'≠0)
include hb hb'
theorem tws_add {A B:F × F} (oA:OnP b A) (oB:OnP b B):tws f u (padd A B)=padd (tws f u A) (tws f u B):=by
 rcases oA with rfl|oA
 ·rw[tws_O H,O_add,O_add]
 rcases oB with rfl|oB
 ·rw[tws_O H,add_O,add_O]
 rcases ln_or oA oB with rfl|⟨l,h⟩
 ·rw[tws_neg H,add_neg_self,add_neg_self,tws_O H]
 ·rw[padd_ln hb oA oB h,padd_ln hb' (tws_on H eb oA) (tws_on H eb oB) (tws_ln H h)]
  have e1:f (sx A.1 B.1 l)*(u*u)=sx (f A.1*(u*u)) (f B.1*(u*u)) (f l*u):=by
   show f (l*l-A.1-B.1)*(u*u)=f l*u*(f l*u)-f A.1*(u*u)-f B.1*(u*u)
   rw[H.sub,H.sub,H.mul];exact (u_sx _ _ _ _).symm
  refine Prod.ext e1 ?_
  show f (-(A.2+l*(sx A.1 B.1 l-A.1)))*(u*u*u)=-(f A.2*(u*u*u)+f l*u*(sx (f A.1*(u*u)) (f B.1*(u*u)) (f l*u)-f A.1*(u*u)))
  rw[<- e1,H.neg,H.add,H.mul,H.sub];exact (u_sy _ _ _ _ _).symm
end
section
variable {F G:Type} [Fd F] [Fd G] {f:F->G} (H:Hm f) {b:F} {b':G} (eb:b'=f b) (hb:b≠0) (hb':b'≠0)
def hmp (f:F->G) (A:F × F):G × G:=(f A.1,f A.2)
include H in
include H eb in
include H eb in
include H in
include H in
include H eb hb hb'
end
end Cr
namespace Cr
open Rg Fd
theorem q_a {F:Type} [Rg F] (a b n:F):(a+n)*(a+n)-b*b-a*(a+n+(a+n))=n*n-(a*a+b*b) :=
 rid [a,b,n] ((fun (a b n:PE)=>((a+n)*(a+n)-b*b-a*(a+n+(a+n)))) (.v 0) (.v 1) (.v 2)) ((fun (a b n:PE)=>(n*n-(a*a+b*b))) (.v 0) (.v 1) (.v 2)) (by kernel_rfl)
theorem q_s {F:Type} [Rg F] (a b n:F):(a-n)*(a-n)-b*b-a*(a-n+(a-n))=n*n-(a*a+b*b) :=
 rid [a,b,n] ((fun (a b n:PE)=>((a-n)*(a-n)-b*b-a*(a-n+(a-n)))) (.v 0) (.v 1) (.v 2)) ((fun (a b n:PE)=>(n*n-(a*a+b*b))) (.v 0) (.v 1) (.v 2)) (by kernel_rfl)
theorem q_1 {F:Type} [Rg F] (s b i:F):s*i*(s*i)-b*i*(b*i)=(s*s-b*b)*(i*i) :=
 rid [s,b,i] ((fun (s b i:PE)=>(s*i*(s*i)-b*i*(b*i))) (.v 0) (.v 1) (.v 2)) ((fun (s b i:PE)=>((s*s-b*b)*(i*i))) (.v 0) (.v 1) (.v 2)) (by kernel_rfl)
theorem q_2 {F:Type} [Rg F] (a t i:F):a*(t*t)*(i*i)=a*(t*i*(t*i)) :=
 rid [a,t,i] ((fun (a t i:PE)=>(a*(t*t)*(i*i))) (.v 0) (.v 1) (.v 2)) ((fun (a t i:PE)=>(a*(t*i*(t*i)))) (.v 0) (.v 1) (.v 2)) (by kernel_rfl)
theorem q_3 {F:Type} [Rg F] (s b i:F):s*i*(b*i)+b*i*(s*i)=b*(s+s)*(i*i) :=
 rid [s,b,i] ((fun (s b i:PE)=>(s*i*(b*i)+b*i*(s*i))) (.v 0) (.v 1) (.v 2)) ((fun (s b i:PE)=>(b*(s+s)*(i*i))) (.v 0) (.v 1) (.v 2)) (by kernel_rfl)
theorem q_4 {F:Type} [Rg F] (a n:F):(a+n)*(a-n)=a*a-n*n :=
 rid [a,n] ((fun (a n:PE)=>((a+n)*(a-n))) (.v 0) (.v 1)) ((fun (a n:PE)=>(a*a-n*n)) (.v 0) (.v 1)) (by kernel_rfl)
theorem q_5 {F:Type} [Rg F] (c d:F):(c*c-d*d)*(c*c-d*d)+(c*d+d*c)*(c*d+d*c)=(c*c+d*d)*(c*c+d*d) :=
 rid [c,d] ((fun (c d:PE)=>((c*c-d*d)*(c*c-d*d)+(c*d+d*c)*(c*d+d*c))) (.v 0) (.v 1)) ((fun (c d:PE)=>((c*c+d*d)*(c*c+d*d))) (.v 0) (.v 1)) (by kernel_rfl)
theorem q_6 {F:Type} [Rg F] (c d:F):c*c-d*d+(c*c+d*d)+(c*c-d*d+(c*c+d*d))=(c+c)*(c+c) :=
 rid [c,d] ((fun (c d:PE)=>(c*c-d*d+(c*c+d*d)+(c*c-d*d+(c*c+d*d)))) (.v 0) (.v 1)) ((fun (c d:PE)=>((c+c)*(c+c))) (.v 0) (.v 1)) (by kernel_rfl)
theorem q_7 {F:Type} [Rg F] (c d:F):c*c-d*d - -(c*c+d*d)+(c*c-d*d - -(c*c+d*d))=(c+c)*(c+c) :=
 rid [c,d] ((fun (c d:PE)=>(c*c-d*d - -(c*c+d*d)+(c*c-d*d - -(c*c+d*d)))) (.v 0) (.v 1)) ((fun (c d:PE)=>((c+c)*(c+c))) (.v 0) (.v 1)) (by kernel_rfl)
theorem q_8 {F:Type} [Rg F] (d:F):0*0-d*d=-(d*d) :=
 rid [d] ((fun (d:PE)=>(0*0-d*d)) (.v 0)) ((fun (d:PE)=>(-(d*d))) (.v 0)) (by kernel_rfl)
theorem fin_ok {F:Type} [Fd F] {a b n s t i:F} (hb:b≠0) (hn:n*n=a*a+b*b) (hs:s=a+n\/s=a-n) (ht:t*t=s+s) (hi:t≠0->t*i=1):s*i*(s*i)-b*i*(b*i)=a/\s*i*(b*i)+b*i*(s*i)=b:=by
 have e1:s*s-b*b=a*(s+s):=by
  refine eq_of_sub ?_
  rcases hs with rfl|rfl
  ·rw[q_a,hn,sub_self]
  ·rw[q_s,hn,sub_self]
 have hs0:s≠0:=by
  intro e
  rw[e,zero_mul] at e1
  have:b*b=0:=by
   have h0:(0:F)-b*b=0:=by rw[e1,add_zero,mul_zero]
   exact (eq_of_sub h0).symm
  rcases mul_eq_zero this with h|h<;>exact hb h
 have ht0:t≠0:=by
  intro e
  rw[e,zero_mul] at ht
  exact hs0 (double_eq_zero ht.symm)
 have hti:=hi ht0
 constructor
 ·rw[q_1,e1,<- ht,q_2,hti,mul_one,mul_one]
 ·rw[q_3,<- ht,q_2,hti,mul_one,mul_one]
theorem sq_eq {F:Type} [Fd F] {a b:F} (h:a*a=b*b):a=b\/a=-b:=by
 have:(a+b)*(a-b)=0:=by rw[q_4,h,sub_self]
 rcases mul_eq_zero this with h|h
 ·right
  rw[<- neg_neg a,neg_eq h]
 ·exact .inl (eq_of_sub h)
end Cr
namespace Cr
noncomputable section
open Rg Fd Go.Eng
def tb:F2:=(zm 4,zm 4)
theorem tb_ne:tb≠0:=fun h=>absurd (congrArg Prod.fst h) (by decide)
def kN:Nat:=179184598021607201395328336867808778623227034365729160298681049842686063338121018147455353735441364525843719707164066765927216767229676667218777623574602578604133367281659313250333219842201540931831568844813240003724377679117
def hN:Nat:=209869847837335686905080341498658477663839067235703451875306851526599783796572738804459333109033834234622528588876978987822447936461846631641690358257586228683615991308971558879306463436166481
def p1x:V2:=(2,0)
def p1y:V2:=(188995492400578496451910581292546059920654572609832469388872107051048741028892423057992033888655218419282460458611,434381874456081807472298918693162486998243066160460423017297172308631992219110538691921044767658182807847155297615)
def p2x:V2:=(3502097864753066570550148371418669739303915645354957993882158272604968504426138630742300340054213004101649122574995,3191109489096775307193507002606793236600709294888301722308519387708220704158284978609877783087598478210803037831895)
def p2y:V2:=(1120128434309428118703815378359973697067986923993178994101501066809893730950108659182691351312157851099523537033621,3284094733358660625011281814609151989521685951164705617572026484241640633985466418925372124277545495873312627274873)
def irv:V2:=(877076961050607968509681729531255177986764537961432449499635504522207616027455086505066378536590128544573588734230,877076961050607968509681729531255177986764537961432449499635504522207616027455086505066378536590128544573588734230)
abbrev J3:=V2 × V2 × V2
def jp (x y:V2):J3:=(x,y,((1:Nat),(0:Nat)))
def j3 (t:J3):F2 × F2 × F2:=evP2.φ3 t
def onc (x y:V2):Bool:=Nat.beq (vsub (vmul y y) (vadd (vmul (vmul x x) x) (4,4))).1 0&&Nat.beq (vsub (vmul y y) (vadd (vmul (vmul x x) x) (4,4))).2 0
theorem onc_ok {x y:V2} (h:onc x y=true):OnF tb (q2 x,q2 y):=by
 unfold onc at h
 rw[Bool.and_eq_true] at h
 have h1:q2 (vsub (vmul y y) (vadd (vmul (vmul x x) x) (4,4)))=0:=by
  refine (evP2.isz_φ _).1 ?_
  show (Nat.beq (_%pN) 0&&Nat.beq (_%pN) 0)=true
  rw[Nat.eq_of_beq_eq_true h.1,Nat.eq_of_beq_eq_true h.2];rfl
 rw[q2_sub,q2_add,q2_mul,q2_mul,q2_mul] at h1
 exact eq_of_sub h1
theorem jp_rep {x y:V2} (h:OnF tb (q2 x,q2 y)):Rep tb (j3 (jp x y)) (q2 x,q2 y) :=
 .inr ⟨one_ne,by show q2 x=q2 x*(1*1);rw[mul_one,mul_one],by show q2 y=q2 y*(1*(1*1));rw[mul_one,mul_one,mul_one],h⟩
theorem rep_z {t:J3} {P:F2 × F2} (h:Rep tb (j3 t) P):evP2.isz t.2.2=true↔P=O2:=by
 have hi:=evP2.isz_φ t.2.2
 rcases h with ⟨h1,h2⟩|⟨h1,_,_,h2⟩
 ·exact⟨fun _=>h2,fun _=>hi.2 h1⟩
 ·exact⟨fun e=>absurd (hi.1 e) h1,fun e=>absurd e (on_ne tb_ne h2)⟩
def T1:F2 × F2:=(q2 p1x,q2 p1y)
def T2:F2 × F2:=(q2 p2x,q2 p2y)
def o1:J3:=jp p1x p1y
def o2:J3:=jp p2x p2y
theorem T1_on:OnF tb T1:=onc_ok (by kernel_rfl)
theorem T2_on:OnF tb T2:=onc_ok (by kernel_rfl)
theorem T1_rep:Rep tb (j3 o1) T1:=jp_rep T1_on
theorem T2_rep:Rep tb (j3 o2) T2:=jp_rep T2_on
def mj (o:J3) (n:Nat):J3:=evP2.mul2 o 760 n
theorem mj_rep {o:J3} {P:F2 × F2} (h:Rep tb (j3 o) P) {n:Nat} (hn:n<2^760):Rep tb (j3 (mj o n)) (nmul P n):=Ev.mul2_rep tb_ne h 760 n hn
theorem k_z1:evP2.isz (mj o1 (kN*299)).2.2=true:=by kernel_rfl
theorem k_z2:evP2.isz (mj o2 299).2.2=true:=by kernel_rfl
theorem T1_k:nmul T1 (kN*299)=O2:=(rep_z (mj_rep T1_rep (of_decide_eq_true (by kernel_rfl)))).1 k_z1
theorem T2_k:nmul T2 299=O2:=(rep_z (mj_rep T2_rep (of_decide_eq_true (by kernel_rfl)))).1 k_z2
theorem nz_of {o:J3} {P:F2 × F2} (h:Rep tb (j3 o) P) {n:Nat} (hn:n<2^760) (hz:evP2.isz (mj o n).2.2=false):nmul P n≠O2:=fun e=>by
 have:=(rep_z (mj_rep h hn)).2 e
 rw[hz] at this;cases this
theorem z_0:evP2.isz (mj o1 19747952380560469302323322050672622487410572530539262414045570918895367835642530197600129291152586801779311534258037583122830008625755003132478624935055720974064090238561052215941626514123944245712362360707393572102318070791).2.2=false:=by kernel_rfl
theorem z_1:evP2.isz (mj o1 4482238334180586732803745731069591299953558376587720148021888555422331878030468035312402808240355391385198041700163637832530562486545078515721116828311400569115358221134119857931032605439493076099526402124919163483107916511).2.2=false:=by kernel_rfl
theorem z_2:evP2.isz (mj o1 204435453290776677963449216517309658175308347325906608295165143160629959812485202088339905776329775720238838597629082276088502697387609078137492452174069313816727185654221348812143491724768136401549359461054755660202423507).2.2=false:=by kernel_rfl
theorem z_3:evP2.isz (mj o1 133242285665808607076488378322626308017882680317454143660064485930450545651671235455237836767).2.2=false:=by kernel_rfl
theorem z_4:evP2.isz (mj o1 1021746936224977739802674759843215733158749228274876731329980043418955197936360816142165308893846079758636364010172630974200012787218635773765140678191).2.2=false:=by kernel_rfl
theorem T1_dvd (a:Nat) (ha:nmul T1 a=O2):kN∣a:=by
 have oT:OnP tb T1:=.inr T1_on
 have d0:2713∣a:=ord_dvd tb_ne oT prm_2713 (n:=19747952380560469302323322050672622487410572530539262414045570918895367835642530197600129291152586801779311534258037583122830008625755003132478624935055720974064090238561052215941626514123944245712362360707393572102318070791) (by rw[show 19747952380560469302323322050672622487410572530539262414045570918895367835642530197600129291152586801779311534258037583122830008625755003132478624935055720974064090238561052215941626514123944245712362360707393572102318070791*2713=kN*299 from of_decide_eq_true (by kernel_rfl)];exact T1_k) (nz_of T1_rep (of_decide_eq_true (by kernel_rfl)) z_0) ha
 have d1:11953∣a:=ord_dvd tb_ne oT prm_11953 (n:=4482238334180586732803745731069591299953558376587720148021888555422331878030468035312402808240355391385198041700163637832530562486545078515721116828311400569115358221134119857931032605439493076099526402124919163483107916511) (by rw[show 4482238334180586732803745731069591299953558376587720148021888555422331878030468035312402808240355391385198041700163637832530562486545078515721116828311400569115358221134119857931032605439493076099526402124919163483107916511*11953=kN*299 from of_decide_eq_true (by kernel_rfl)];exact T1_k) (nz_of T1_rep (of_decide_eq_true (by kernel_rfl)) z_1) ha
 have d2:262069∣a:=ord_dvd tb_ne oT prm_262069 (n:=204435453290776677963449216517309658175308347325906608295165143160629959812485202088339905776329775720238838597629082276088502697387609078137492452174069313816727185654221348812143491724768136401549359461054755660202423507) (by rw[show 204435453290776677963449216517309658175308347325906608295165143160629959812485202088339905776329775720238838597629082276088502697387609078137492452174069313816727185654221348812143491724768136401549359461054755660202423507*262069=kN*299 from of_decide_eq_true (by kernel_rfl)];exact T1_k) (nz_of T1_rep (of_decide_eq_true (by kernel_rfl)) z_2) ha
 have d3:402096035359507321594726366720466575392706800671181159425656785868777272553337714697862511267018014931937703598282857976535744623203249∣a:=ord_dvd tb_ne oT prm_m (n:=133242285665808607076488378322626308017882680317454143660064485930450545651671235455237836767) (by rw[show 133242285665808607076488378322626308017882680317454143660064485930450545651671235455237836767*402096035359507321594726366720466575392706800671181159425656785868777272553337714697862511267018014931937703598282857976535744623203249=kN*299 from of_decide_eq_true (by kernel_rfl)];exact T1_k) (nz_of T1_rep (of_decide_eq_true (by kernel_rfl)) z_3) ha
 have d4:52435875175126190479447740508185965837690552500527637822603658699938581184513∣a:=ord_dvd tb_ne oT prm_r (n:=1021746936224977739802674759843215733158749228274876731329980043418955197936360816142165308893846079758636364010172630974200012787218635773765140678191) (by rw[show 1021746936224977739802674759843215733158749228274876731329980043418955197936360816142165308893846079758636364010172630974200012787218635773765140678191*52435875175126190479447740508185965837690552500527637822603658699938581184513=kN*299 from of_decide_eq_true (by kernel_rfl)];exact T1_k) (nz_of T1_rep (of_decide_eq_true (by kernel_rfl)) z_4) ha
 have c1:2713*11953∣a:=Nat.Coprime.mul_dvd_of_dvd_of_dvd (show Nat.gcd 2713 11953=1 from of_decide_eq_true (by kernel_rfl)) d0 d1
 rw[show 2713*11953=32428489 from of_decide_eq_true (by kernel_rfl)] at c1
 have c2:32428489*262069∣a:=Nat.Coprime.mul_dvd_of_dvd_of_dvd (show Nat.gcd 32428489 262069=1 from of_decide_eq_true (by kernel_rfl)) c1 d2
 rw[show 32428489*262069=8498501683741 from of_decide_eq_true (by kernel_rfl)] at c2
 have c3:8498501683741*402096035359507321594726366720466575392706800671181159425656785868777272553337714697862511267018014931937703598282857976535744623203249∣a:=Nat.Coprime.mul_dvd_of_dvd_of_dvd (show Nat.gcd 8498501683741 402096035359507321594726366720466575392706800671181159425656785868777272553337714697862511267018014931937703598282857976535744623203249=1 from of_decide_eq_true (by kernel_rfl)) c2 d3
 rw[show 8498501683741*402096035359507321594726366720466575392706800671181159425656785868777272553337714697862511267018014931937703598282857976535744623203249=3417213833528353644824999196800052619260030863795574352274180747220585946275454234589181635096475183139252053545727862789966597950563999243361674509 from of_decide_eq_true (by kernel_rfl)] at c3
 have c4:3417213833528353644824999196800052619260030863795574352274180747220585946275454234589181635096475183139252053545727862789966597950563999243361674509*52435875175126190479447740508185965837690552500527637822603658699938581184513∣a:=Nat.Coprime.mul_dvd_of_dvd_of_dvd (show Nat.gcd 3417213833528353644824999196800052619260030863795574352274180747220585946275454234589181635096475183139252053545727862789966597950563999243361674509 52435875175126190479447740508185965837690552500527637822603658699938581184513=1 from of_decide_eq_true (by kernel_rfl)) c3 d4
 rw[show 3417213833528353644824999196800052619260030863795574352274180747220585946275454234589181635096475183139252053545727862789966597950563999243361674509*52435875175126190479447740508185965837690552500527637822603658699938581184513=179184598021607201395328336867808778623227034365729160298681049842686063338121018147455353735441364525843719707164066765927216767229676667218777623574602578604133367281659313250333219842201540931831568844813240003724377679117 from of_decide_eq_true (by kernel_rfl)] at c4
 exact c4
def smz (a l l':Nat):Bool:=fo6 (mj o1 a) fun A=>(List.range l).all fun j => !evP2.isz (evP2.jadd A (mj o2 (l'*j))).2.2
theorem smz_ok {a l l':Nat} (ha:a<2^760) (hl:l<300) (hl':l'<300) (h:smz a l l'=true) (j:Nat) (hj:j<l):padd (nmul T1 a) (nmul (nmul T2 l') j)≠O2:=by
 unfold smz at h
 rw[fo6_eq] at h
 have h1:=List.all_eq_true.1 h j (List.mem_range.2 hj)
 have hb:l'*j<2^760:=by
  have h2:l'*j<=300*300:=Nat.mul_le_mul (by omega) (by omega)
  exact Nat.lt_of_le_of_lt h2 (of_decide_eq_true (by kernel_rfl))
 have r1:=mj_rep T1_rep ha
 have r2:=mj_rep T2_rep hb
 have r3:=rep_add tb_ne r1 r2
 have e:Cr.jadd (j3 (mj o1 a)) (j3 (mj o2 (l'*j)))=j3 (evP2.jadd (mj o1 a) (mj o2 (l'*j))):=(evP2.jadd_φ _ _).symm
 rw[e] at r3
 rw[nmul_mul tb_ne (.inr T2_on)]
 intro h0
 have h3:=(rep_z r3).2 h0
 rw[h3] at h1;cases h1
theorem sm_13:smz (kN*23) 13 23=true:=by kernel_rfl
theorem sm_23:smz (kN*13) 23 13=true:=by kernel_rfl
theorem v_23:evP2.isz (mj o2 23).2.2=false:=by kernel_rfl
theorem v_13:evP2.isz (mj o2 13).2.2=false:=by kernel_rfl
theorem T_ind (a c:Nat) (h:padd (nmul T1 a) (nmul T2 c)=O2):kN*299∣a/\299∣c :=
 ind_all tb_ne (.inr T1_on) (.inr T2_on) (k:=kN) (l:=13) (l':=23) prm_13 prm_23 (of_decide_eq_true (by kernel_rfl)) (of_decide_eq_true (by kernel_rfl)) T1_k T2_k T1_dvd
  (nz_of T2_rep (of_decide_eq_true (by kernel_rfl)) v_23) (fun j hj=>smz_ok (of_decide_eq_true (by kernel_rfl)) (by decide) (by decide) sm_13 j hj)
  (nz_of T2_rep (of_decide_eq_true (by kernel_rfl)) v_13) (fun j hj=>smz_ok (of_decide_eq_true (by kernel_rfl)) (by decide) (by decide) sm_23 j hj) a c h
theorem tb_nm:nm2 (-tb)=1+1+(1+1)+(1+1+(1+1))+(1+1+(1+1)+(1+1+(1+1)))+(1+1+(1+1)+(1+1+(1+1))+(1+1+(1+1)+(1+1+(1+1)))):=by
 rw[F2.neg_def]
 refine Zm.ext (of_decide_eq_true (by kernel_rfl))
theorem no_cube (x:F2):x*x*x+tb≠0:=fun h=>by
 have h1:x*x*x=-tb:=(neg_eq ((add_comm tb (x*x*x)).trans h)).symm
 have e:=congrArg nm2 h1
 rw[nm2_mul,nm2_mul] at e
 obtain⟨s,hs⟩:∃ s,s=nm2 x:=⟨_,rfl⟩
 rw[<- hs] at e
 have hv:(nm2 (-tb)).v=32:=by rw[tb_nm];exact of_decide_eq_true (by kernel_rfl)
 have s0:s≠0:=fun z=>by
  rw[z,zero_mul,zero_mul] at e
  rw[<- e] at hv
  exact absurd hv (by decide)
 have hf:=fp_fermat s0
 have hq:fpP-1=3*1334136518407222464472596608578634718852294273313002628444019378708010550163612621480895876376338554679298090853262:=of_decide_eq_true (by kernel_rfl)
 obtain⟨q,hqq⟩:∃ q,q=1334136518407222464472596608578634718852294273313002628444019378708010550163612621480895876376338554679298090853262:=⟨_,rfl⟩
 rw[hq,<- hqq,zpow_mul'] at hf
 have h3:zpow s 3=nm2 (-tb):=by
  rw[<- e];show 1*s*s*s=_;rw[one_mul]
 rw[h3] at hf
 have hw:=congrArg Zm.v hf
 rw[zpow_v,hv] at hw
 have h4:((32:Int)^q%Mp)=1:=hw
 have h5:(32:Nat)^q%fpP=1:=by
  have h6:(((32:Nat)^q%fpP:Nat):Int)=1:=by rw[Int.natCast_emod,Int.natCast_pow];exact h4
  omega
 rw[<- npm_eq fpP 32 (of_decide_eq_true (by kernel_rfl)) 384 q (by rw[hqq];exact of_decide_eq_true (by kernel_rfl)),hqq] at h5
 exact absurd h5 (of_decide_eq_true (by kernel_rfl))
def od (y:F2):Bool:=if y.1=0 then decide (y.2.v%2=1) else decide (y.1.v%2=1)
theorem od_v {a:Fp} (h:a≠0):decide ((-a).v%2=1)=!decide (a.v%2=1):=by
 have h0:a.v≠0:=fun e=>h (Zm.ext e)
 have hn:=a.nn
 have hl:=a.lt
 have e:(-a).v=Mp-a.v:=by
  rw[neg_v]
  have h1:(-a.v+Mp*1)%Mp=(-a.v)%Mp:=Int.add_mul_emod_self_left _ _ _
  rw[<- h1,Int.mul_one,Int.emod_eq_of_lt (by omega) (by omega)];omega
 rw[e]
 have hp:Mp%2=1:=of_decide_eq_true (by kernel_rfl)
 by_cases h2:a.v%2=1
 ·rw[decide_eq_true h2,decide_eq_false (by omega)];rfl
 ·rw[decide_eq_false h2,decide_eq_true (by omega)];rfl
theorem od_neg {y:F2} (h:y≠0):od (-y)=!od y:=by
 unfold od
 rw[F2.neg_def]
 by_cases h1:y.1=0
 ·have h2:y.2≠0:=fun e=>h (F2.ext h1 e)
  rw[if_pos h1,if_pos (show -y.1=0 by rw[h1];exact neg_zero),od_v h2]
 ·rw[if_neg h1,if_neg (show ¬ -y.1=0 from fun e=>h1 (by rw[<- neg_neg y.1,e];exact neg_zero)),od_v h1]
def cod (P:F2 × F2):Nat:=if P=O2 then 0 else 1+2*(P.1.1.v.toNat*pN+P.1.2.v.toNat)+(if od P.2=true then 1 else 0)
theorem v_lt (a:Fp):a.v.toNat<pN:=by
 have h1:=a.nn
 have h2:=a.lt
 have h3:Mp=(pN:Int):=rfl
 omega
theorem cod_lt (P:F2 × F2):cod P<2*(pN*pN)+1:=by
 have key:∀ a c n:Nat,a<n->c<n->2*(a*n+c)+2<2*(n*n)+1:=by
  intro a c n h1 h2
  have h4:(a+1)*n<=n*n:=Nat.mul_le_mul_right n h1
  rw[Nat.add_mul,Nat.one_mul] at h4
  omega
 have h:=key _ _ pN (v_lt P.1.1) (v_lt P.1.2)
 obtain⟨X,hX⟩:∃ X,X=2*(P.1.1.v.toNat*pN+P.1.2.v.toNat):=⟨_,rfl⟩
 obtain⟨Y,hY⟩:∃ Y,Y=2*(pN*pN):=⟨_,rfl⟩
 unfold cod
 rw[<- hX,<- hY] at h
 rw[<- hX,<- hY]
 split
 ·omega
 ·split<;>omega
theorem cod_key:∀ (X Y:Nat) (s t:Bool),1+2*X+(if s=true then 1 else 0)=1+2*Y+(if t=true then 1 else 0)->X=Y/\s=t
 | X,Y,false,false,h=>by
  have h:1+2*X+0=1+2*Y+0:=h
  exact⟨by omega,rfl⟩
 | X,Y,false,true,h=>by
  have h:1+2*X+0=1+2*Y+1:=h
  omega
 | X,Y,true,false,h=>by
  have h:1+2*X+1=1+2*Y+0:=h
  omega
 | X,Y,true,true,h=>by
  have h:1+2*X+1=1+2*Y+1:=h
  exact⟨by omega,rfl⟩
theorem cod_inj {P Q:F2 × F2} (oP:OnP tb P) (oQ:OnP tb Q) (h:cod P=cod Q):P=Q:=by
 by_cases hP:P=O2
 ·by_cases hQ:Q=O2
  ·rw[hP,hQ]
  ·exfalso
   unfold cod at h
   rw[if_pos hP,if_neg hQ] at h
   omega
 by_cases hQ:Q=O2
 ·exfalso
  unfold cod at h
  rw[if_neg hP,if_pos hQ] at h
  omega
 have hp:OnF tb P:=oP.resolve_left hP
 have hq:OnF tb Q:=oQ.resolve_left hQ
 unfold cod at h
 rw[if_neg hP,if_neg hQ] at h
 have hx:P.1.1.v.toNat*pN+P.1.2.v.toNat=Q.1.1.v.toNat*pN+Q.1.2.v.toNat/\(od P.2=od Q.2):=by
  exact cod_key _ _ _ _ h
 obtain⟨hx,ho⟩:=hx
 have v1:=v_lt P.1.1
 have v2:=v_lt P.1.2
 have v3:=v_lt Q.1.1
 have v4:=v_lt Q.1.2
 have d1:P.1.1.v.toNat=Q.1.1.v.toNat:=by
  have e1:(P.1.1.v.toNat*pN+P.1.2.v.toNat)/pN=(Q.1.1.v.toNat*pN+Q.1.2.v.toNat)/pN:=congrArg (· / pN) hx
  rw[Nat.mul_comm,Nat.mul_add_div (by decide),Nat.div_eq_of_lt v2,Nat.mul_comm Q.1.1.v.toNat,Nat.mul_add_div (by decide),Nat.div_eq_of_lt v4] at e1
  exact e1
 have d2:P.1.2.v.toNat=Q.1.2.v.toNat:=by rw[d1] at hx;omega
 have x1:P.1=Q.1:=by
  refine F2.ext (Zm.ext ?_) (Zm.ext ?_)
  ·have:=P.1.1.nn;have:=Q.1.1.nn;omega
  ·have:=P.1.2.nn;have:=Q.1.2.nn;omega
 have hy:P.2*P.2=Q.2*Q.2:=by
  have a1:P.2*P.2=P.1*P.1*P.1+tb:=hp
  have a2:Q.2*Q.2=Q.1*Q.1*Q.1+tb:=hq
  rw[a1,a2,x1]
 rcases sq_eq hy with e|e
 ·exact Prod.ext x1 e
 ·by_cases h0:Q.2=0
  ·exact Prod.ext x1 (by rw[e,h0];exact neg_zero)
  ·rw[e,od_neg h0] at ho
   cases hh:od Q.2<;>rw[hh] at ho<;>cases ho
theorem all_tw {Q:F2 × F2} (oQ:OnP tb Q):InH T1 T2 Q :=
 gen_all tb_ne (.inr T1_on) (.inr T2_on) T1_k T2_k (of_decide_eq_true (by kernel_rfl)) T_ind (no2_of tb_ne no_cube) cod (2*(pN*pN)+1) (fun P _=>cod_lt P) (fun _ _ hP hQ h=>cod_inj hP hQ h) (of_decide_eq_true (by kernel_rfl)) oQ
end
end Cr
namespace Cr
open Rg Fd Go.Eng
end Cr
namespace Cr
open Rg Fd Go.Eng
def e0 (x:Fp):F2:=(x,(0:Fp))
theorem Hm.comp {F G E:Type} [Fd F] [Fd G] [Fd E] {f:F->G} {g:G->E} (H:Hm f) (K:Hm g):Hm (fun x=>g (f x)) :=
 ⟨fun x y=>by rw[H.add,K.add],fun x y=>by rw[H.mul,K.mul],fun x=>by rw[H.neg,K.neg],by rw[H.one,K.one],fun x h=>H.inj _ (K.inj _ h)⟩
def e1 (x:Fp):F12:=e2 (e0 x)
noncomputable def fro (p:Nat) (x:F12):F12:=pwn x p
noncomputable def wi:F12:=inv ww
noncomputable def k2:F12:=(((0:F2),(0:F2),inv xi),(0:F2),(0:F2),(0:F2))
structure LastP (N p u r:Nat):Prop where
 pp:p=fpP
 six:∀ x:F12,x≠0->x.2=0->pwn x N=1
 odd:∀ x:F12,x≠0->x.1=0->pwn x N=1
 ord:∀ x:F12,x≠0->pwn (pwn x N) r=1
 np:∃ s,u+p=r*s
 pos:0<N
section
variable {N p u r:Nat} (L:LastP N p u r)
include L
theorem LastP.up {x:F12} (hx:x≠0):pwn (pwn x N) u*pwn (pwn x N) p=1:=by
 obtain⟨s,hs⟩:=L.np
 rw[<- pwn_add,hs,pwn_mul,L.ord x hx,pwn_one]
theorem LastP.neg:pwn (-1:F12) N=1:=by
 refine L.six _ ?_ ?_
 ·intro h
  have h1:(1:F12)=0:=by rw[<- neg_neg (1:F12),h,neg_z]
  exact one_ne h1
 ·rw[F12.neg_def];exact neg_z (F:=F6)
noncomputable def kil:Kill F12:=⟨fun x=>pwn x N,fun x y=>pwn_prod x y N,pwn_one N,L.neg⟩
variable {b1:Fp} {b2:F2} (hb1:b1≠0) (hb2:b2≠0) (hns:∀ y:F2,y*y=b2->False) (he:b2=e0 b1*xi)
include hb1 hb2 hns he
end
end Cr
namespace Cr
noncomputable section
open Rg Fd Go.Eng
theorem tc_x {F:Type} [Rg F] (x r z:F):x*(z*z)*(r*r)=x*(r*r)*(z*z) :=
 rid [x,r,z] ((fun (x r z:PE)=>(x*(z*z)*(r*r))) (.v 0) (.v 1) (.v 2)) ((fun (x r z:PE)=>(x*(r*r)*(z*z))) (.v 0) (.v 1) (.v 2)) (by kernel_rfl)
theorem tc_y {F:Type} [Rg F] (y r z:F):y*(z*(z*z))*(r*r*r)=y*(r*r*r)*(z*(z*z)) :=
 rid [y,r,z] ((fun (y r z:PE)=>(y*(z*(z*z))*(r*r*r))) (.v 0) (.v 1) (.v 2)) ((fun (y r z:PE)=>(y*(r*r*r)*(z*(z*z)))) (.v 0) (.v 1) (.v 2)) (by kernel_rfl)
theorem tc_n {F:Type} [Rg F] (y z:F) : -(y*z)=-y*z :=
 rid [y,z] ((fun (y z:PE)=>(-(y*z))) (.v 0) (.v 1)) ((fun (y z:PE)=>(-y*z)) (.v 0) (.v 1)) (by kernel_rfl)
theorem hm_cj:Hm cjg:=by
 refine⟨fun x y=>?_,fun x y=>?_,fun x=>?_,F2.ext rfl neg_z,fun x h=>?_⟩
 ·show (_,_)=(_:F2)
  rw[F2.add_def,F2.add_def]
  exact F2.ext rfl (neg_add_rev _ _)
 ·show (_,_)=(_:F2)
  rw[F2.mul_def,F2.mul_def]
  refine F2.ext ?_ ?_
  ·show x.1*y.1-x.2*y.2=x.1*y.1 - -x.2 * -y.2
   rw[neg_mul,mul_neg,neg_neg]
  ·show -(x.1*y.2+x.2*y.1)=x.1 * -y.2 + -x.2*y.1
   rw[neg_add_rev,mul_neg,neg_mul]
 ·show (_,_)=(_:F2)
  rw[F2.neg_def,F2.neg_def];rfl
 ·have h1:x.1=0:=congrArg Prod.fst h
  have h2 : -x.2=0:=congrArg Prod.snd h
  exact F2.ext h1 (by rw[<- neg_neg x.2,h2];exact neg_z)
def ir:F2:=q2 irv
def tau (P:F2 × F2):F2 × F2:=tws cjg ir P
theorem tbc:evP2.isz (vsub (vmul (vcj (4,4)) (vmul (vmul (vmul irv irv) irv) (vmul (vmul irv irv) irv))) (4,4))=true:=by kernel_rfl
theorem tb_tau:tb=cjg tb*(ir*ir*ir*(ir*ir*ir)):=by
 have h1:q2 (vsub (vmul (vcj (4,4)) (vmul (vmul (vmul irv irv) irv) (vmul (vmul irv irv) irv))) (4,4))=0:=(evP2.isz_φ _).1 tbc
 simp only[q2_sub,q2_mul,q2_cj] at h1
 exact (eq_of_sub h1).symm
structure Ad (f:F2 × F2->F2 × F2):Prop where
 on:∀ P,OnP tb P->OnP tb (f P)
 add:∀ P Q,OnP tb P->OnP tb Q->f (padd P Q)=padd (f P) (f Q)
theorem ad_id:Ad fun P=>P:=⟨fun _ h=>h,fun _ _ _ _=>rfl⟩
theorem ad_mul (n:Nat):Ad fun P=>nmul P n:=⟨fun _ h=>nmul_on tb_ne h n,fun _ _ h k=>nmul_padd tb_ne h k n⟩
theorem ad_neg:Ad pneg:=⟨fun _ h=>pneg_onP h,fun _ _ h k=>pneg_add tb_ne h k⟩
theorem ad_tau:Ad tau:=⟨fun _ h=>tws_onP hm_cj tb_tau h,fun _ _ h k=>tws_add hm_cj tb_tau tb_ne tb_ne h k⟩
theorem Ad.comp {f g:F2 × F2->F2 × F2} (hf:Ad f) (hg:Ad g):Ad fun P=>f (g P):=⟨fun P h=>hf.on _ (hg.on P h),fun P Q h k=>by rw[hg.add P Q h k,hf.add _ _ (hg.on P h) (hg.on Q k)]⟩
theorem Ad.sum {f g:F2 × F2->F2 × F2} (hf:Ad f) (hg:Ad g):Ad fun P=>padd (f P) (g P):=⟨fun P h=>padd_on tb_ne (hf.on P h) (hg.on P h),fun P Q h k=>by
 show padd (f (padd P Q)) (g (padd P Q))=_
 rw[hf.add P Q h k,hg.add P Q h k]
 exact add4 tb_ne (hf.on P h) (hf.on Q k) (hg.on P h) (hg.on Q k)⟩
theorem Ad.zero {f:F2 × F2->F2 × F2} (hf:Ad f):f O2=O2:=by
 have oO:OnP tb (O2:F2 × F2):=.inl rfl
 have h:=hf.add O2 O2 oO oO
 rw[O_add] at h
 have c:=cancel tb_ne (hf.on _ oO) (hf.on _ oO)
 rw[<- h,neg_add_self] at c
 exact c.symm
theorem Ad.nmul {f:F2 × F2->F2 × F2} (hf:Ad f) {P:F2 × F2} (oP:OnP tb P):∀ n,f (nmul P n)=nmul (f P) n
 | 0=>hf.zero
 | n+1=>by
  show f (padd (Cr.nmul P n) P)=padd (Cr.nmul (f P) n) (f P)
  rw[hf.add _ _ (nmul_on tb_ne oP n) oP,hf.nmul oP n]
theorem Ad.eq {f g:F2 × F2->F2 × F2} (hf:Ad f) (hg:Ad g) (h1:f T1=g T1) (h2:f T2=g T2) {P:F2 × F2} (oP:OnP tb P):f P=g P:=by
 have oa:OnP tb T1:=.inr T1_on
 have ob:OnP tb T2:=.inr T2_on
 obtain⟨a,c,rfl⟩:=all_tw oP
 rw[hf.add _ _ (nmul_on tb_ne oa a) (nmul_on tb_ne ob c),hg.add _ _ (nmul_on tb_ne oa a) (nmul_on tb_ne ob c),hf.nmul oa,hf.nmul ob,hg.nmul oa,hg.nmul ob,h1,h2]
def uN:Nat:=15132376222941642752
def clr (P:F2 × F2):F2 × F2:=psum [nmul (nmul P uN) uN,nmul P uN,pneg P,pneg (tau (padd (nmul P uN) P)),tau (tau (padd P P))]
def clr' (P:F2 × F2):F2 × F2:=padd (nmul (nmul P uN) uN) (padd (nmul P uN) (padd (pneg P) (padd (pneg (tau (padd (nmul P uN) P))) (tau (tau (padd P P))))))
theorem clr_eq (P:F2 × F2):clr P=clr' P:=by
 simp only[clr,clr',psum,add_O]
theorem ad_clr:Ad clr':=((ad_mul uN).comp (ad_mul uN)).sum ((ad_mul uN).sum (ad_neg.sum ((ad_neg.comp (ad_tau.comp ((ad_mul uN).sum ad_id))).sum (ad_tau.comp (ad_tau.comp (ad_id.sum ad_id))))))
def tauJ (a:J3):J3:=fo2 (vmul irv irv) fun r2=>fo2 (vmul r2 irv) fun r3=>fo2 (vmul (vcj a.1) r2) fun x=>fo2 (vmul (vcj a.2.1) r3) fun y=>fo2 (vcj a.2.2) fun z=>(x,y,z)
theorem tauJ_rep {a:J3} {P:F2 × F2} (h:Rep tb (j3 a) P):Rep tb (j3 (tauJ a)) (tau P):=by
 have e:j3 (tauJ a)=(cjg (q2 a.1)*(ir*ir),cjg (q2 a.2.1)*(ir*ir*ir),cjg (q2 a.2.2)):=by
  have e1:j3 (tauJ a)=(q2 (tauJ a).1,q2 (tauJ a).2.1,q2 (tauJ a).2.2):=rfl
  rw[e1]
  simp only[tauJ,fo2_eq,q2_mul,q2_cj];rfl
 rw[e]
 rcases h with ⟨h1,rfl⟩|⟨h1,h2,h3,h4⟩
 ·refine .inl ⟨?_,tws_O hm_cj⟩
  show cjg (q2 a.2.2)=0
  have h1:q2 a.2.2=0:=h1
  rw[h1,hm_cj.zero]
 ·have h1:q2 a.2.2≠0:=h1
  have h2:q2 a.1=P.1*(q2 a.2.2*q2 a.2.2):=h2
  have h3:q2 a.2.1=P.2*(q2 a.2.2*(q2 a.2.2*q2 a.2.2)):=h3
  refine .inr ⟨fun z=>h1 (hm_cj.inj _ z),?_,?_,tws_on hm_cj tb_tau h4⟩
  ·show cjg (q2 a.1)*(ir*ir)=cjg P.1*(ir*ir)*(cjg (q2 a.2.2)*cjg (q2 a.2.2))
   rw[h2,hm_cj.mul,hm_cj.mul];exact tc_x _ _ _
  ·show cjg (q2 a.2.1)*(ir*ir*ir)=cjg P.2*(ir*ir*ir)*(cjg (q2 a.2.2)*(cjg (q2 a.2.2)*cjg (q2 a.2.2)))
   rw[h3,hm_cj.mul,hm_cj.mul,hm_cj.mul];exact tc_y _ _ _
def negJ (a:J3):J3:=fo2 (vneg a.2.1) fun y=>(a.1,y,a.2.2)
theorem negJ_rep {a:J3} {P:F2 × F2} (h:Rep tb (j3 a) P):Rep tb (j3 (negJ a)) (pneg P):=by
 have e:j3 (negJ a)=(q2 a.1,-q2 a.2.1,q2 a.2.2):=by
  have e1:j3 (negJ a)=(q2 (negJ a).1,q2 (negJ a).2.1,q2 (negJ a).2.2):=rfl
  rw[e1]
  simp only[negJ,fo2_eq,q2_neg]
 rw[e]
 rcases h with ⟨h1,rfl⟩|⟨h1,h2,h3,h4⟩
 ·exact .inl ⟨h1,pneg_O⟩
 ·have h3:q2 a.2.1=P.2*(q2 a.2.2*(q2 a.2.2*q2 a.2.2)):=h3
  refine .inr ⟨h1,h2,?_,pneg_on h4⟩
  show -q2 a.2.1=-P.2*(q2 a.2.2*(q2 a.2.2*q2 a.2.2))
  rw[h3];exact tc_n _ _
def addJ (a c:J3):J3:=evP2.jadd a c
theorem addJ_rep {a c:J3} {P Q:F2 × F2} (h:Rep tb (j3 a) P) (k:Rep tb (j3 c) Q):Rep tb (j3 (addJ a c)) (padd P Q):=by
 have e:j3 (addJ a c)=Cr.jadd (j3 a) (j3 c):=evP2.jadd_φ a c
 rw[e];exact rep_add tb_ne h k
theorem uN_lt:uN<2^760:=of_decide_eq_true (by kernel_rfl)
theorem hN_lt:hN<2^760:=of_decide_eq_true (by kernel_rfl)
def clJ (o:J3):J3:=fo6 (mj o uN) fun A=>fo6 (mj A uN) fun B=>fo6 (negJ (tauJ (addJ A o))) fun D=>fo6 (tauJ (tauJ (addJ o o))) fun E=>fo6 (negJ o) fun C =>
 fo6 (addJ D E) fun X=>fo6 (addJ C X) fun Y=>fo6 (addJ A Y) fun Z=>fo6 (addJ B Z) fun W=>fo6 (mj o hN) fun H=>addJ W (negJ H)
theorem clJ_rep {o:J3} {P:F2 × F2} (h:Rep tb (j3 o) P):Rep tb (j3 (clJ o)) (padd (clr' P) (pneg (nmul P hN))):=by
 have hA:=mj_rep h uN_lt
 have e:clJ o=addJ (addJ (mj (mj o uN) uN) (addJ (mj o uN) (addJ (negJ o) (addJ (negJ (tauJ (addJ (mj o uN) o))) (tauJ (tauJ (addJ o o))))))) (negJ (mj o hN)):=by
  unfold clJ;simp only[fo6_eq]
 rw[e]
 exact addJ_rep (addJ_rep (mj_rep hA uN_lt) (addJ_rep hA (addJ_rep (negJ_rep h) (addJ_rep (negJ_rep (tauJ_rep (addJ_rep hA h))) (tauJ_rep (tauJ_rep (addJ_rep h h))))))) (negJ_rep (mj_rep h hN_lt))
theorem cl_1:evP2.isz (clJ o1).2.2=true:=by kernel_rfl
theorem cl_2:evP2.isz (clJ o2).2.2=true:=by kernel_rfl
theorem eq_of_dif {P Q:F2 × F2} (oP:OnP tb P) (oQ:OnP tb Q) (h:padd P (pneg Q)=O2):P=Q:=by
 have c:=cancel' tb_ne oP (pneg_onP oQ)
 rw[h,O_add,pneg_pneg] at c
 exact c.symm
theorem clr_h {P:F2 × F2} (oP:OnP tb P):clr P=nmul P hN:=by
 rw[clr_eq]
 have oa:OnP tb T1:=.inr T1_on
 have ob:OnP tb T2:=.inr T2_on
 refine ad_clr.eq (ad_mul hN) ?_ ?_ oP
 ·exact eq_of_dif (ad_clr.on _ oa) (nmul_on tb_ne oa hN) ((rep_z (clJ_rep T1_rep)).1 cl_1)
 ·exact eq_of_dif (ad_clr.on _ ob) (nmul_on tb_ne ob hN) ((rep_z (clJ_rep T2_rep)).1 cl_2)
def rQ:Nat:=52435875175126190479447740508185965837690552500527637822603658699938581184513
theorem nmul_dvd {P:F2 × F2} (oP:OnP tb P) {m n:Nat} (h:nmul P m=O2) (hd:n%m=0):nmul P n=O2:=by
 obtain⟨s,rfl⟩:=Nat.dvd_of_mod_eq_zero hd
 rw[<- nmul_mul tb_ne oP,h,nmul_O]
theorem h_r {P:F2 × F2} (oP:OnP tb P):nmul (nmul P hN) rQ=O2:=by
 have oa:OnP tb T1:=.inr T1_on
 have ob:OnP tb T2:=.inr T2_on
 have z:Ad fun _=>(O2:F2 × F2):=⟨fun _ _=>.inl rfl,fun _ _ _ _=>(O_add _).symm⟩
 refine ((ad_mul rQ).comp (ad_mul hN)).eq z ?_ ?_ oP
 ·show nmul (nmul T1 hN) rQ=O2
  rw[nmul_mul tb_ne oa];exact nmul_dvd oa T1_k (of_decide_eq_true (by kernel_rfl))
 ·show nmul (nmul T2 hN) rQ=O2
  rw[nmul_mul tb_ne ob];exact nmul_dvd ob T2_k (of_decide_eq_true (by kernel_rfl))
end
end Cr
namespace Go.Proofs.YtbeeaekepmnfhaaGreatDoor.g2
open Go Go.Eng Go.RowKit Cr fp2 Rg Fd
end Go.Proofs.YtbeeaekepmnfhaaGreatDoor.g2
namespace Go.Proofs.YtbeeaekepmnfhaaGreatDoor.part
open Go Go.Eng Go.RowKit Cr poly
theorem mxS_sub {h:F2 × F2} (hs:g2.Sub h) (ws:List Fr) (xs:List Int) (p:List Fr):∀ j,j<=xs.length->mxS ws (xs.map fun x=>g2.gmul h (pat p x)) j=g2.gmul h (mxR ws (xs.map (pat p)) j)
 | 0,_=>by show (0,0)=g2.gmul h 0;rw[g2.mul_zero hs]
 | j+1,hj=>by
  have hj:j<xs.length:=hj
  rw[mxS,mxR,mxS_sub hs ws xs p j (by omega),getD_map _ hj,getD_map _ hj,<- g2.mul_mul hs,g2.gadd_eq (g2.sub_gmul hs _).1 (g2.sub_gmul hs _).1,g2.mul_add hs]
theorem sig_join {h:F2 × F2} (hs:g2.Sub h) {xs:List Int} (h0:plE [] xs=0) {p:List Fr} (hp:p.length<=xs.length):mixS xs (xs.map fun x=>g2.gmul h (pat p x))=(g2.gmul h (pat p 0),0):=by
 have hm:=mix_ok h0 hp
 rw[mixR,if_pos (by simp),if_pos h0] at hm
 rw[mixS,if_pos (by simp),if_pos h0,mxS_sub hs _ _ _ _ (Nat.le_refl _),(Prod.mk.inj hm).1]
theorem plE_of:∀ (xs seen:List Int),(∀ x∈xs,memI x=true)->xs.Nodup->(∀ x∈xs,x∉seen)->plE seen xs=0
 | [],_,_,_,_=>rfl
 | x::xs,seen,h1,h2,h3=>by
  obtain⟨h4,h5⟩:=List.nodup_cons.1 h2
  have hx:=h1 x (List.mem_cons_self ..)
  simp[memI] at hx
  rw[plE,if_neg (by omega),if_neg (h3 x (List.mem_cons_self ..))]
  refine plE_of xs (x::seen) (fun y hy=>h1 y (List.mem_cons_of_mem _ hy)) h5 fun y hy hm=>?_
  rcases List.mem_cons.1 hm with rfl|hm
  ·exact h4 hy
  ·exact h3 y (List.mem_cons_of_mem _ hy) hm
theorem Ans.zero {l:List Int} (h:Ans l 0):(∀ x∈l,memI x=true)/\l.Nodup:=by
 rcases h with ⟨_,h⟩|⟨v,_,_,h⟩
 ·refine⟨fun x hx=>?_,List.nodup_iff_count.2 fun v=>?_⟩
  ·cases hm:memI x with
   | true=>rfl
   | false=>exact absurd ⟨hx,.inl hm⟩ (h x)
  ·refine Nat.le_of_lt_succ (Nat.lt_of_not_le fun hc=>?_)
   exact h v ⟨List.count_pos_iff.1 (by omega),.inr hc⟩
 ·exact absurd h.symm (kd_ne v)
noncomputable def prt (h:F2 × F2) (p:List Fr) (x:Int):PT:=(x,g2.gmul h (pat p x))
theorem jn_val {h:F2 × F2} (hs:g2.Sub h) (p:List Fr) (xs:List Int) {e:Int} (he:Ans xs e) :
  jn p.length (srtP (xs.map (prt h p)))=if e=0 then (if p.length=0\/xs.length<p.length then (z2,32,()) else (g2.gmul h (pat p 0),0,())) else (z2,e,()):=by
 have hpm:(srtP (xs.map (prt h p))).Perm (xs.map (prt h p)):=srtA_perm zP keyP _
 have hup:((srtP (xs.map (prt h p))).map keyP).Pairwise (· <= ·):=srtA_up zP keyP _
 have hmem:∀ y∈srtP (xs.map (prt h p)),y=prt h p (keyP y):=by
  intro y hy
  obtain⟨x,_,rfl⟩:=List.mem_map.1 (hpm.mem_iff.1 hy)
  rfl
 generalize srtP (xs.map (prt h p))=ss at *
 have hk:(ss.map keyP).Perm xs:=by
  have:=hpm.map keyP
  rw[List.map_map] at this
  have e:(keyP∘prt h p)=id:=by funext x;rfl
  rwa [e,List.map_id] at this
 have hss:ss=(ss.map keyP).map (prt h p):=by
  rw[List.map_map]
  conv=>lhs;rw[<- List.map_id ss]
  exact List.map_congr_left fun y hy=>hmem y hy
 have hA:Ans xs (scn none (ss.map keyP)):=(scn_ok hup).perm hk
 have hee:=hA.same he
 have hl:ss.length=xs.length:=by have:=hk.length_eq;rwa [List.length_map] at this
 rw[jn,hee,hl]
 by_cases h0:e=0
 ·rw[if_pos h0,if_pos h0]
  by_cases hc:p.length=0\/xs.length<p.length
  ·rw[if_pos hc,if_pos hc]
  ·rw[if_neg hc,if_neg hc]
   subst h0
   obtain⟨z1,z3⟩:=he.zero
   have hks:((ss.take p.length).map keyP)=(ss.map keyP).take p.length:=List.map_take ..
   have hsd:(ss.take p.length).map Prod.snd=((ss.map keyP).take p.length).map fun x=>g2.gmul h (pat p x):=by
    rw[<- List.map_take,List.map_map]
    exact List.map_congr_left fun y hy=>by rw[hmem y (List.mem_of_mem_take hy)];rfl
   have hpl:plE [] ((ss.map keyP).take p.length)=0:=by
    refine plE_of _ _ (fun x hx=>z1 x (hk.mem_iff.1 (List.mem_of_mem_take hx))) ?_ (fun x _ hx=>by cases hx)
    exact List.Nodup.sublist (List.take_sublist ..) (hk.nodup_iff.2 z3)
   rw[hks,hsd,sig_join hs hpl (by rw[List.length_take,List.length_map];omega)]
 ·rw[if_neg h0,if_neg h0]
noncomputable def jno (m:Nat) (ps:List PT):((Fp × Fp) × (Fp × Fp)) × Int × Unit:=opq (jn m (srtP ps))
theorem fo_join:FnOk Tryz.prog 17 [.sl pt1,.sl partK] [.val pt2,.val iK] noG preJoin (fun (c,ps,_)=>jno (List.length c) ps):=fn_join.out fun (c,ps,_)=>by show jno _ _=jn _ _;rw[jno,opq_eq]
noncomputable def soJoin:Nat × Eng.Spec:=(17,fnSpec [.sl pt1,.sl partK] [.val pt2,.val iK] preJoin (fun (c,ps,_)=>jno (List.length c) ps))
theorem jno_val {h:F2 × F2} (hs:g2.Sub h) (p:List Fr) (xs:List Int) {e:Int} (he:Ans xs e) :
  jno p.length (xs.map (prt h p))=if e=0 then (if p.length=0\/xs.length<p.length then (z2,32,()) else (g2.gmul h (pat p 0),0,())) else (z2,e,()):=by rw[jno,opq_eq,jn_val hs p xs he]
end Go.Proofs.YtbeeaekepmnfhaaGreatDoor.part
namespace Go.Proofs.YtbeeaekepmnfhaaGreatDoor.sha
noncomputable section
open Go Go.Eng Go.RowKit Cr
abbrev uK:Kd:=.int .u32
abbrev bK:Kd:=.int .u8
abbrev hashK:Kd:=.pair (.arr 8 uK) (.pair (.arr 64 bK) (.int .i64))
def firstL:List Int:=[1779033703,3144134277,1013904242,2773480762,1359893119,2600822924,528734635,1541459225]
def rootsL:List Int:=[1116352408,1899447441,3049323471,3921009573,961987163,1508970993,2453635748,2870763221,3624381080,310598401,607225278,1426881987,1925078388,2162078206,2614888103,3248222580,3835390401,4022224774,264347078,604807628,770255983,1249150122,1555081692,1996064986,2554220882,2821834349,2952996808,3210313671,3336571891,3584528711,113926993,338241895,666307205,773529912,1294757372,1396182291,1695183700,1986661051,2177026350,2456956037,2730485921,2820302411,3259730800,3345764771,3516065817,3600352804,4094571909,275423344,430227734,506948616,659060556,883997877,958139571,1322822218,1537002063,1747873779,1955562222,2024104815,2227730452,2361852424,2428436474,2756734187,3204031479,3329325298]
def shaG:Glob:=fun g=>if g=0 then some ⟨.arr 8 uK,firstL⟩ else if g=1 then some ⟨.arr 64 uK,rootsL⟩ else none
theorem ent_rot:enters Tryz.prog 211 Tryz.f211:=ek
def rotF (x k:Int):Int:=bitOp .or .u32 (IntKind.u32.wrap (x*2^min (bitOp .and .u64 (IntKind.u64.wrap k) 31).toNat IntKind.u32.bits)) (Int.fdiv x (2^min (IntKind.u64.wrap (32-bitOp .and .u64 (IntKind.u64.wrap k) 31)).toNat IntKind.u32.bits))
def rot (x k:Int):Int:=opq (rotF x k)
theorem wrap_nn (x:Int):0<=IntKind.u64.wrap x:=by
 simp only[IntKind.wrap,IntKind.signed,IntKind.bits]
 simp
 omega
theorem fn_rot:FnOk Tryz.prog 211 [uK,.int .i64] [.val uK] noG (fun _=>True) (fun (x,k,_)=>(rot x k,())):=by
 refine fn_of_vc (sp:=sps []) snl mixed ent_rot (by decide) (by decide) ?_
 rintro w M0 ⟨x,k,⟨⟩⟩
 revert x k
 intro (x:Int) (k:Int) _ _
 refine vcx (X:=((0:Int)<=bitOp BinOp.and IntKind.u64 (IntKind.u64.wrap k) (31:Int)/\(0:Int)<=IntKind.u64.wrap ((32:Int)-bitOp BinOp.and IntKind.u64 (IntKind.u64.wrap k) (31:Int))/\(bitOp BinOp.or IntKind.u32 (IntKind.u32.wrap (x*(2:Int)^min (bitOp BinOp.and IntKind.u64 (IntKind.u64.wrap k) (31:Int)).toNat IntKind.u32.bits)) (x.fdiv ((2:Int)^min (IntKind.u64.wrap ((32:Int)-bitOp BinOp.and IntKind.u64 (IntKind.u64.wrap k) (31:Int))).toNat IntKind.u32.bits)),())=(rot x k,()))) (by kernel_rfl) ?_
 refine⟨?_,?_,by show _=(rot x k,());rw[rot,opq_eq];rfl⟩
 ·have h:(0:Int)<=bitOp .and .u64 (IntKind.u64.wrap k) 31:=by
   show (0:Int)<=IntKind.u64.wrap _
   exact wrap_nn _
  exact h
 ·exact wrap_nn _
def spRot:Nat × Eng.Spec:=(211,fnSpec [uK,.int .i64] [.val uK] (fun _=>True) (fun (x,k,_)=>(rot x k,())))
theorem ent_take:enters Tryz.prog 198 Tryz.f198:=ek
abbrev TK:List Code:=codeOf Tryz.f198
def tkA (st rest p:List Int) (sz:Int) (g:Int × List Int):St:=mkSt Tryz.f198.ntmps 25 [(0,.is (.one (.ptr 0 0))),(3,.is (.one (.ptr 1 0))),(4,.is (.one (.ptr 9 0))),(23,sI .i64 g.1)] [(9,[.ints .u32 64 g.2]),(1,[.ints .u8 64 p]),(0,[.ints .u32 8 st,.ints .u8 64 rest,.v (.int .i64 sz)])]
def tkB (st rest p:List Int) (sz:Int) (i:Nat) (g:Int × List Int):St:=mkSt Tryz.f198.ntmps 25 [(0,.is (.one (.ptr 0 0))),(3,.is (.one (.ptr 1 0))),(4,.is (.one (.ptr 9 0))),(5,sI .i64 i),(23,sI .i64 i),(26,sI .i64 g.1)] [(9,[.ints .u32 64 g.2]),(1,[.ints .u8 64 p]),(0,[.ints .u32 8 st,.ints .u8 64 rest,.v (.int .i64 sz)])]
def wB (p:List Int) (i j:Nat) (w:List Int):List Int:=w.set i (bitOp .or .u32 (IntKind.u32.wrap (w.getD i 0*2^min (8:Nat) IntKind.u32.bits)) (IntKind.u32.wrap (p.getD (4*i+j) 0)))
def wBk (p:List Int) (i:Nat) (w:List Int):Nat->List Int
 | 0=>w
 | j+1=>wB p i j (wBk p i w j)
def wAk (p:List Int):Nat->List Int
 | 0=>List.replicate 64 0
 | i+1=>wBk p i (wAk p i) 4
theorem wBk_len (p:List Int) (i:Nat) (w:List Int):∀ j,(wBk p i w j).length=w.length
 | 0=>rfl
 | j+1=>by show (wB p i j _).length=_;rw[wB,List.length_set,wBk_len p i w j]
theorem wAk_len (p:List Int):∀ i,(wAk p i).length=64
 | 0=>List.length_replicate
 | i+1=>by show (wBk p i (wAk p i) 4).length=_;rw[wBk_len,wAk_len p i]
def tkC (st rest p:List Int) (sz:Int) (g:Int × List Int):St:=mkSt Tryz.f198.ntmps 25 [(0,.is (.one (.ptr 0 0))),(4,.is (.one (.ptr 9 0))),(45,sI .i64 g.1)] [(9,[.ints .u32 64 g.2]),(0,[.ints .u32 8 st,.ints .u8 64 rest,.v (.int .i64 sz)])]
def tkD (st rest p:List Int) (sz:Int) (w:List Int) (g:Int × List Int):St:=mkSt Tryz.f198.ntmps 81 [(0,.is (.one (.ptr 0 0))),(4,.is (.one (.ptr 9 0))),(12,.is (.one (.ptr 57 0))),(92,sI .i64 g.1)] [(57,[.ints .u32 8 g.2]),(9,[.ints .u32 64 w]),(0,[.ints .u32 8 st,.ints .u8 64 rest,.v (.int .i64 sz)])]
def sg0 (a:Int):Int:=bitOp .xor .u32 (bitOp .xor .u32 (rot a (-7)) (rot a (-18))) (a.fdiv (2^min (3:Nat) IntKind.u32.bits))
def sg1 (a:Int):Int:=bitOp .xor .u32 (bitOp .xor .u32 (rot a (-17)) (rot a (-19))) (a.fdiv (2^min (10:Nat) IntKind.u32.bits))
def wC (w:List Int) (i:Nat):List Int:=w.set (i+16) (IntKind.u32.wrap (IntKind.u32.wrap (IntKind.u32.wrap (w.getD i 0+sg0 (w.getD (i+1) 0))+w.getD (i+9) 0)+sg1 (w.getD (i+14) 0)))
def wCk (w:List Int):Nat->List Int
 | 0=>w
 | i+1=>wC (wCk w i) i
theorem wCk_len (w:List Int):∀ i,(wCk w i).length=w.length
 | 0=>rfl
 | i+1=>by show (wC _ i).length=_;rw[wC,List.length_set,wCk_len w i]
def tkE (rest:List Int) (sz:Int) (w v:List Int) (g:Int × List Int):St:=mkSt Tryz.f198.ntmps 81 [(0,.is (.one (.ptr 0 0))),(12,.is (.one (.ptr 57 0))),(172,sI .i64 g.1)] [(57,[.ints .u32 8 v]),(0,[.ints .u32 8 g.2,.ints .u8 64 rest,.v (.int .i64 sz)])]
theorem eight:∀ {v:List Int},v.length=8->∃ a b c d e f g h,v=[a,b,c,d,e,f,g,h]
 | [a,b,c,d,e,f,g,h],_=>⟨a,b,c,d,e,f,g,h,rfl⟩
def rT (w:List Int) (e f g h:Int) (i:Nat):Int:=IntKind.u32.wrap (IntKind.u32.wrap (h+bitOp .xor .u32 (bitOp .xor .u32 (rot e (-6)) (rot e (-11))) (rot e (-25)))+IntKind.u32.wrap (IntKind.u32.wrap (bitOp .xor .u32 (bitOp .and .u32 e f) (bitOp .and .u32 (bitOp .xor .u32 (if IntKind.u32.signed=true then (-1:Int) else IntKind.u32.max) e) g)+rootsL.getD i 0)+w.getD i 0))
def rU (a b c:Int):Int:=IntKind.u32.wrap (bitOp .xor .u32 (bitOp .xor .u32 (rot a (-2)) (rot a (-13))) (rot a (-22))+bitOp .xor .u32 (bitOp .xor .u32 (bitOp .and .u32 a b) (bitOp .and .u32 a c)) (bitOp .and .u32 b c))
def vC (w:List Int):List Int->Nat->List Int
 | [a,b,c,d,e,f,g,h],i=>[IntKind.u32.wrap (rT w e f g h i+rU a b c),a,b,c,IntKind.u32.wrap (d+rT w e f g h i),e,f,g]
 | v,_=>v
def vCk (w v:List Int):Nat->List Int
 | 0=>v
 | i+1=>vC w (vCk w v i) i
theorem vCk_len (w:List Int) {v:List Int} (hv:v.length=8):∀ i,(vCk w v i).length=8
 | 0=>hv
 | i+1=>by
  obtain⟨a,b,c,d,e,f,g,h,e1⟩:=eight (vCk_len w hv i)
  show (vC w (vCk w v i) i).length=8
  rw[e1];rfl
def fCk (v s:List Int):Nat->List Int
 | 0=>s
 | i+1=>(fCk v s i).set i (IntKind.u32.wrap ((fCk v s i).getD i 0+v.getD i 0))
def takeF (st p:List Int):List Int:=fCk (vCk (wCk (wAk p 16) 48) st 64) st 8
def tko (st p:List Int):List Int:=opq (takeF st p)
theorem fn_take:FnOkP Tryz.prog 198 hashK [.arr 64 bK] [] shaG (fun _=>True) (fun ((st,rest,sz),p,_)=>((tko st p,rest,sz),())):=by
 have hsp:SpecsOk Tryz.prog (sps [spRot]):=spk (fok fn_rot) snl
 refine fn_of_trP (sp:=sps [spRot]) ent_take (by decide) (by decide) (by kernel_rfl) ?_
 rintro w M0 b0 ⟨st,rest,sz⟩ ⟨p,⟨⟩⟩
 revert st rest sz p
 intro (st:List Int) (rest:List Int) (sz:Int) (p:List Int) hw hw2 _
 have hst:st.length=8:=hw.1.1
 have hp:p.length=64:=hw2.1.1
 show Tr _ _ _ _ _ _ _
 refine tr_cut hsp mixed 3 (tkA st rest p sz (0,List.replicate 64 0)) True ?_ (fun _=>?_)
 ·refine vcx (X:=((tkA st rest p sz ((0:Int),List.replicate (64:Nat) (0:Int))).triv True)) (by kernel_rfl) ?_
  exact tvi trivial
 refine tr_whileT noSw (fun σ=>(rdS (.int .i64) 23 σ,rdR uK 9 σ)) (tkA st rest p sz) (fun g=>∃ k:Nat,k<=16/\g.1=(k:Int)/\g.2=wAk p k) (fun g=>16-g.1.toNat)
  (fun σ=>(rdS (.int .i64) 23 σ,rdR uK 9 σ)) (tkA st rest p sz) (fun g=>g.2=wAk p 16) (0,List.replicate 64 0) (c:=nthC TK 3) (by kernel_rfl) (by kernel_rfl) (le_of_proj (by kernel_rfl) (by kernel_rfl) ?_) ?_ ?_
 ·exact⟨0,by decide,rfl,rfl⟩
 ·rintro⟨i,wl⟩ hj
  revert i wl
  intro (i:Int) (wl:List Int) ⟨k,hk,ei,ew⟩
  have ei:i=(k:Int):=ei
  have kw:wl=wAk p k:=ew
  subst ei
  refine tr_cut hsp mixed 2 (tkA st rest p sz ((k:Int),wl)) (k<16) ?_ (fun hlt=>?_)
  ·refine vcx (X:=((decide ((↑k:Int)<(16:Int))=true->(tkA st rest p sz ((↑k:Int),wl)).triv (k<(16:Nat)))/\(decide ((↑k:Int)<(16:Int))=false->(tkA st rest p sz ((↑k:Int),wl)).triv (wl=wAk p (16:Nat))))) (by kernel_rfl) ?_
   refine⟨fun h=>tvi (by have:=of_decide_eq_true h;omega),fun h=>tvi ?_⟩
   have:k=16:=by have:=of_decide_eq_false h;omega
   rw[kw,this]
  refine tr_block (c:=nthC (loopOf (nthC (codeOf Tryz.f198) 3)) 2) (by kernel_rfl) (by kernel_rfl) ?_
  refine tr_cut hsp mixed 2 (tkB st rest p sz k (0,wl)) True ?_ (fun _=>?_)
  ·refine vcx (X:=((tkB st rest p sz k ((0:Int),wl)).triv True)) (by kernel_rfl) ?_
   exact tvi trivial
  refine tr_while hsp mixed noSw (fun σ=>(rdS (.int .i64) 26 σ,rdR uK 9 σ)) (tkB st rest p sz k) (fun g=>∃ j:Nat,j<=4/\g.1=(j:Int)/\g.2=wBk p k wl j) (fun g=>4-g.1.toNat)
   (fun σ=>rdR uK 9 σ) (fun w=>tkA st rest p sz ((k:Int),w)) (fun w=>w=wBk p k wl 4) (0,wl) (c:=nthC (bodyOf (nthC (loopOf (nthC (codeOf Tryz.f198) 3)) 2)) 2) (by kernel_rfl) (by kernel_rfl) (le_of_proj (by kernel_rfl) (by kernel_rfl) ?_) ?_ ?_
  ·exact⟨0,by decide,rfl,rfl⟩
  ·rintro⟨j,wj⟩ hj
   revert j wj
   intro (j:Int) (wj:List Int) ⟨t,ht,ej,ewj⟩
   have ej:j=(t:Int):=ej
   have kwj:wj=wBk p k wl t:=ewj
   subst ej
   refine vcx (X:=((decide ((↑t:Int)<(4:Int))=true->((0:Int)<=(↑k:Int)/\(↑k:Int)<(↑(64:Nat):Int))/\(↑k:Int).toNat<(64:Nat)/\(0:Int)<=(8:Int)/\((0:Int)<=IntKind.i64.wrap (IntKind.i64.wrap ((4:Int)*(↑k:Int))+(↑t:Int))/\IntKind.i64.wrap (IntKind.i64.wrap ((4:Int)*(↑k:Int))+(↑t:Int))<(↑(64:Nat):Int))/\(IntKind.i64.wrap (IntKind.i64.wrap ((4:Int)*(↑k:Int))+(↑t:Int))).toNat<(64:Nat)/\((0:Int)<=(↑k:Int)/\(↑k:Int)<(↑(64:Nat):Int))/\(↑k:Int).toNat<(64:Nat)/\(tkB st rest p sz k (IntKind.i64.wrap ((↑t:Int)+(1:Int)),wj.set (↑k:Int).toNat (bitOp BinOp.or IntKind.u32 (IntKind.u32.wrap (wj.getD (↑k:Int).toNat (0:Int)*(2:Int)^min (8:Nat) IntKind.u32.bits)) (IntKind.u32.wrap (p.getD (IntKind.i64.wrap (IntKind.i64.wrap ((4:Int)*(↑k:Int))+(↑t:Int))).toNat (0:Int)))))).triv ((∃ j,j<=(4:Nat)/\IntKind.i64.wrap ((↑t:Int)+(1:Int))=(↑j:Int)/\wj.set (↑k:Int).toNat (bitOp BinOp.or IntKind.u32 (IntKind.u32.wrap (wj.getD (↑k:Int).toNat (0:Int)*(2:Int)^min (8:Nat) IntKind.u32.bits)) (IntKind.u32.wrap (p.getD (IntKind.i64.wrap (IntKind.i64.wrap ((4:Int)*(↑k:Int))+(↑t:Int))).toNat (0:Int))))=wBk p k wl j)/\(4:Nat)-(IntKind.i64.wrap ((↑t:Int)+(1:Int))).toNat<(4:Nat)-(↑t:Int).toNat))/\(decide ((↑t:Int)<(4:Int))=false->(tkA st rest p sz ((↑k:Int),wj)).triv (wj=wBk p k wl (4:Nat))))) (by kernel_rfl) ?_
   refine⟨fun h=>?_,fun h=>tvi ?_⟩
   ·have h4:t<4:=by have:=of_decide_eq_true h;omega
    have e1:IntKind.i64.wrap (IntKind.i64.wrap ((4:Int)*(k:Int))+(t:Int))=((4*k+t:Nat):Int):=by
     rw[wrap_i64' (a:=4*(k:Int)) (by omega) (by omega),wrap_i64' (by omega) (by omega)];omega
    rw[e1,wrap_succ (by omega),Int.toNat_natCast,Int.toNat_natCast]
    exact⟨⟨by omega,by omega⟩,by omega,by decide,⟨by omega,by omega⟩,by omega,⟨by omega,by omega⟩,by omega,tvi ⟨⟨t+1,h4,rfl,by rw[kwj];rfl⟩,by rw[Int.toNat_natCast,Int.toNat_natCast];omega⟩⟩
   ·have:t=4:=by have:=of_decide_eq_false h;omega
    rw[kwj,this]
  intro (w':List Int) (hw':w'=wBk p k wl 4)
  refine tr_nil ?_
  refine tr_vc hsp mixed _ _ ?_
  refine vcx (X:=((tkA st rest p sz (IntKind.i64.wrap ((↑k:Int)+(1:Int)),w')).triv ((∃ k_1,k_1<=(16:Nat)/\IntKind.i64.wrap ((↑k:Int)+(1:Int))=(↑k_1:Int)/\w'=wAk p k_1)/\(16:Nat)-(IntKind.i64.wrap ((↑k:Int)+(1:Int))).toNat<(16:Nat)-(↑k:Int).toNat))) (by kernel_rfl) ?_
  rw[wrap_succ (by omega)]
  exact tvi ⟨⟨k+1,hlt,rfl,by rw[hw',kw];rfl⟩,by rw[Int.toNat_natCast,Int.toNat_natCast];omega⟩
 rintro⟨i1,w1⟩ hw1
 revert i1 w1
 intro (i1:Int) (w1:List Int) (hw1:w1=wAk p 16)
 have hw1l:w1.length=64:=by rw[hw1,wAk_len]
 refine tr_cut hsp mixed 1 (tkC st rest p sz (0,w1)) True ?_ (fun _=>?_)
 ·refine vcx (X:=((tkC st rest p sz ((0:Int),w1)).triv True)) (by kernel_rfl) ?_
  exact tvi trivial
 refine tr_while hsp mixed noSw (fun σ=>(rdS (.int .i64) 45 σ,rdR uK 9 σ)) (tkC st rest p sz) (fun g=>∃ j:Nat,j<=48/\g.1=(j:Int)/\g.2=wCk w1 j) (fun g=>48-g.1.toNat)
  (fun σ=>(rdS (.int .i64) 45 σ,rdR uK 9 σ)) (tkC st rest p sz) (fun g=>g.2=wCk w1 48) (0,w1) (c:=nthC (codeOf Tryz.f198) 5) (by kernel_rfl) (by kernel_rfl) (le_of_proj (by kernel_rfl) (by kernel_rfl) ?_) ?_ ?_
 ·exact⟨0,by decide,rfl,rfl⟩
 ·rintro⟨j,wj⟩ hj
  revert j wj
  intro (j:Int) (wj:List Int) ⟨t,ht,ej,ewj⟩
  have ej:j=(t:Int):=ej
  have kwj:wj=wCk w1 t:=ewj
  subst ej
  refine vcx (X:=((decide ((↑t:Int)<(48:Int))=true->((0:Int)<=IntKind.i64.wrap ((↑t:Int)+(1:Int))/\IntKind.i64.wrap ((↑t:Int)+(1:Int))<(↑(64:Nat):Int))/\(IntKind.i64.wrap ((↑t:Int)+(1:Int))).toNat<(64:Nat)/\((0:Int)<=IntKind.i64.wrap ((↑t:Int)+(14:Int))/\IntKind.i64.wrap ((↑t:Int)+(14:Int))<(↑(64:Nat):Int))/\(IntKind.i64.wrap ((↑t:Int)+(14:Int))).toNat<(64:Nat)/\True/\True/\(0:Int)<=(3:Int)/\True/\True/\(0:Int)<=(10:Int)/\((0:Int)<=(↑t:Int)/\(↑t:Int)<(↑(64:Nat):Int))/\(↑t:Int).toNat<(64:Nat)/\((0:Int)<=IntKind.i64.wrap ((↑t:Int)+(9:Int))/\IntKind.i64.wrap ((↑t:Int)+(9:Int))<(↑(64:Nat):Int))/\(IntKind.i64.wrap ((↑t:Int)+(9:Int))).toNat<(64:Nat)/\((0:Int)<=IntKind.i64.wrap ((↑t:Int)+(16:Int))/\IntKind.i64.wrap ((↑t:Int)+(16:Int))<(↑(64:Nat):Int))/\(IntKind.i64.wrap ((↑t:Int)+(16:Int))).toNat<(64:Nat)/\(tkC st rest p sz (IntKind.i64.wrap ((↑t:Int)+(1:Int)),wj.set (IntKind.i64.wrap ((↑t:Int)+(16:Int))).toNat (IntKind.u32.wrap (IntKind.u32.wrap (IntKind.u32.wrap (wj.getD (↑t:Int).toNat (0:Int)+bitOp BinOp.xor IntKind.u32 (bitOp BinOp.xor IntKind.u32 (rot (wj.getD (IntKind.i64.wrap ((↑t:Int)+(1:Int))).toNat (0:Int)) (-7:Int),()).fst (rot (wj.getD (IntKind.i64.wrap ((↑t:Int)+(1:Int))).toNat (0:Int)) (-18:Int),()).fst) ((wj.getD (IntKind.i64.wrap ((↑t:Int)+(1:Int))).toNat (0:Int)).fdiv ((2:Int)^min (3:Nat) IntKind.u32.bits)))+wj.getD (IntKind.i64.wrap ((↑t:Int)+(9:Int))).toNat (0:Int))+bitOp BinOp.xor IntKind.u32 (bitOp BinOp.xor IntKind.u32 (rot (wj.getD (IntKind.i64.wrap ((↑t:Int)+(14:Int))).toNat (0:Int)) (-17:Int),()).fst (rot (wj.getD (IntKind.i64.wrap ((↑t:Int)+(14:Int))).toNat (0:Int)) (-19:Int),()).fst) ((wj.getD (IntKind.i64.wrap ((↑t:Int)+(14:Int))).toNat (0:Int)).fdiv ((2:Int)^min (10:Nat) IntKind.u32.bits)))))).triv ((∃ j,j<=(48:Nat)/\IntKind.i64.wrap ((↑t:Int)+(1:Int))=(↑j:Int)/\wj.set (IntKind.i64.wrap ((↑t:Int)+(16:Int))).toNat (IntKind.u32.wrap (IntKind.u32.wrap (IntKind.u32.wrap (wj.getD (↑t:Int).toNat (0:Int)+bitOp BinOp.xor IntKind.u32 (bitOp BinOp.xor IntKind.u32 (rot (wj.getD (IntKind.i64.wrap ((↑t:Int)+(1:Int))).toNat (0:Int)) (-7:Int)) (rot (wj.getD (IntKind.i64.wrap ((↑t:Int)+(1:Int))).toNat (0:Int)) (-18:Int))) ((wj.getD (IntKind.i64.wrap ((↑t:Int)+(1:Int))).toNat (0:Int)).fdiv ((2:Int)^min (3:Nat) IntKind.u32.bits)))+wj.getD (IntKind.i64.wrap ((↑t:Int)+(9:Int))).toNat (0:Int))+bitOp BinOp.xor IntKind.u32 (bitOp BinOp.xor IntKind.u32 (rot (wj.getD (IntKind.i64.wrap ((↑t:Int)+(14:Int))).toNat (0:Int)) (-17:Int)) (rot (wj.getD (IntKind.i64.wrap ((↑t:Int)+(14:Int))).toNat (0:Int)) (-19:Int))) ((wj.getD (IntKind.i64.wrap ((↑t:Int)+(14:Int))).toNat (0:Int)).fdiv ((2:Int)^min (10:Nat) IntKind.u32.bits))))=wCk w1 j)/\(48:Nat)-(IntKind.i64.wrap ((↑t:Int)+(1:Int))).toNat<(48:Nat)-(↑t:Int).toNat))/\(decide ((↑t:Int)<(48:Int))=false->(tkC st rest p sz ((↑t:Int),wj)).triv (wj=wCk w1 (48:Nat))))) (by kernel_rfl) ?_
  refine⟨fun h=>?_,fun h=>tvi ?_⟩
  ·have h4:t<48:=by have:=of_decide_eq_true h;omega
   have e1:∀ m:Nat,m<20->IntKind.i64.wrap ((t:Int)+(m:Int))=((t+m:Nat):Int):=fun m hm=>by
    rw[wrap_i64' (by omega) (by omega)];omega
   have e1a:IntKind.i64.wrap ((t:Int)+1)=((t+1:Nat):Int):=e1 1 (by decide)
   have e1b:IntKind.i64.wrap ((t:Int)+9)=((t+9:Nat):Int):=e1 9 (by decide)
   have e1c:IntKind.i64.wrap ((t:Int)+14)=((t+14:Nat):Int):=e1 14 (by decide)
   have e1d:IntKind.i64.wrap ((t:Int)+16)=((t+16:Nat):Int):=e1 16 (by decide)
   rw[e1a,e1b,e1c,e1d]
   simp only[Int.toNat_natCast]
   exact⟨⟨by omega,by omega⟩,by omega,⟨by omega,by omega⟩,by omega,trivial,trivial,by decide,trivial,trivial,by decide,⟨by omega,by omega⟩,by omega,⟨by omega,by omega⟩,by omega,⟨by omega,by omega⟩,by omega,tvi ⟨⟨t+1,h4,rfl,by rw[kwj];rfl⟩,by omega⟩⟩
  ·have:t=48:=by have:=of_decide_eq_false h;omega
   rw[kwj,this]
 rintro⟨i2,w2⟩ hw2
 revert i2 w2
 intro (i2:Int) (w2:List Int) (hw2':w2=wCk w1 48)
 refine tr_cut hsp mixed 2 (tkD st rest p sz w2 (0,st)) True ?_ (fun _=>?_)
 ·refine vcx (X:=((tkD st rest p sz w2 ((0:Int),st)).triv True)) (by kernel_rfl) ?_
  exact tvi trivial
 have hw2l:w2.length=64:=by rw[hw2',wCk_len,hw1l]
 refine tr_while hsp mixed noSw (fun σ=>(rdS (.int .i64) 92 σ,rdR uK 57 σ)) (tkD st rest p sz w2) (fun g=>∃ j:Nat,j<=64/\g.1=(j:Int)/\g.2=vCk w2 st j) (fun g=>64-g.1.toNat)
  (fun σ=>(rdS (.int .i64) 92 σ,rdR uK 57 σ)) (tkD st rest p sz w2) (fun g=>g.2=vCk w2 st 64) (0,st) (c:=nthC (codeOf Tryz.f198) 8) (by kernel_rfl) (by kernel_rfl) (le_of_proj (by kernel_rfl) (by kernel_rfl) ?_) ?_ ?_
 ·exact⟨0,by decide,rfl,rfl⟩
 ·rintro⟨j,v⟩ hj
  revert j v
  intro (j:Int) (v:List Int) ⟨t,ht,ej,ev⟩
  have ej:j=(t:Int):=ej
  have kv:v=vCk w2 st t:=ev
  subst ej
  have hvl:v.length=8:=by rw[kv,vCk_len _ hst]
  obtain⟨a,b,c,d,e,f,g,h,rfl⟩:=eight hvl
  refine vcx (X:=((decide ((↑t:Int)<(64:Int))=true->True/\True/\True/\((0:Int)<=(↑t:Int)/\(↑t:Int)<(↑(64:Nat):Int))/\(↑t:Int).toNat<rootsL.length/\((0:Int)<=(↑t:Int)/\(↑t:Int)<(↑(64:Nat):Int))/\(↑t:Int).toNat<(64:Nat)/\True/\True/\True/\(tkD st rest p sz w2 (IntKind.i64.wrap ((↑t:Int)+(1:Int)),[IntKind.u32.wrap (IntKind.u32.wrap (IntKind.u32.wrap (h+bitOp BinOp.xor IntKind.u32 (bitOp BinOp.xor IntKind.u32 (rot e (-6:Int),()).fst (rot e (-11:Int),()).fst) (rot e (-25:Int),()).fst)+IntKind.u32.wrap (IntKind.u32.wrap (bitOp BinOp.xor IntKind.u32 (bitOp BinOp.and IntKind.u32 e f) (bitOp BinOp.and IntKind.u32 (bitOp BinOp.xor IntKind.u32 (if IntKind.u32.signed=true then (-1:Int) else IntKind.u32.max) e) g)+rootsL.getD (↑t:Int).toNat (0:Int))+w2.getD (↑t:Int).toNat (0:Int)))+IntKind.u32.wrap (bitOp BinOp.xor IntKind.u32 (bitOp BinOp.xor IntKind.u32 (rot a (-2:Int),()).fst (rot a (-13:Int),()).fst) (rot a (-22:Int),()).fst+bitOp BinOp.xor IntKind.u32 (bitOp BinOp.xor IntKind.u32 (bitOp BinOp.and IntKind.u32 a b) (bitOp BinOp.and IntKind.u32 a c)) (bitOp BinOp.and IntKind.u32 b c))),a,b,c,IntKind.u32.wrap (d+IntKind.u32.wrap (IntKind.u32.wrap (h+bitOp BinOp.xor IntKind.u32 (bitOp BinOp.xor IntKind.u32 (rot e (-6:Int),()).fst (rot e (-11:Int),()).fst) (rot e (-25:Int),()).fst)+IntKind.u32.wrap (IntKind.u32.wrap (bitOp BinOp.xor IntKind.u32 (bitOp BinOp.and IntKind.u32 e f) (bitOp BinOp.and IntKind.u32 (bitOp BinOp.xor IntKind.u32 (if IntKind.u32.signed=true then (-1:Int) else IntKind.u32.max) e) g)+rootsL.getD (↑t:Int).toNat (0:Int))+w2.getD (↑t:Int).toNat (0:Int)))),e,f,g])).triv ((∃ j,j<=(64:Nat)/\IntKind.i64.wrap ((↑t:Int)+(1:Int))=(↑j:Int)/\[IntKind.u32.wrap (IntKind.u32.wrap (IntKind.u32.wrap (h+bitOp BinOp.xor IntKind.u32 (bitOp BinOp.xor IntKind.u32 (rot e (-6:Int)) (rot e (-11:Int))) (rot e (-25:Int)))+IntKind.u32.wrap (IntKind.u32.wrap (bitOp BinOp.xor IntKind.u32 (bitOp BinOp.and IntKind.u32 e f) (bitOp BinOp.and IntKind.u32 (bitOp BinOp.xor IntKind.u32 (if IntKind.u32.signed=true then (-1:Int) else IntKind.u32.max) e) g)+rootsL.getD (↑t:Int).toNat (0:Int))+w2.getD (↑t:Int).toNat (0:Int)))+IntKind.u32.wrap (bitOp BinOp.xor IntKind.u32 (bitOp BinOp.xor IntKind.u32 (rot a (-2:Int)) (rot a (-13:Int))) (rot a (-22:Int))+bitOp BinOp.xor IntKind.u32 (bitOp BinOp.xor IntKind.u32 (bitOp BinOp.and IntKind.u32 a b) (bitOp BinOp.and IntKind.u32 a c)) (bitOp BinOp.and IntKind.u32 b c))),a,b,c,IntKind.u32.wrap (d+IntKind.u32.wrap (IntKind.u32.wrap (h+bitOp BinOp.xor IntKind.u32 (bitOp BinOp.xor IntKind.u32 (rot e (-6:Int)) (rot e (-11:Int))) (rot e (-25:Int)))+IntKind.u32.wrap (IntKind.u32.wrap (bitOp BinOp.xor IntKind.u32 (bitOp BinOp.and IntKind.u32 e f) (bitOp BinOp.and IntKind.u32 (bitOp BinOp.xor IntKind.u32 (if IntKind.u32.signed=true then (-1:Int) else IntKind.u32.max) e) g)+rootsL.getD (↑t:Int).toNat (0:Int))+w2.getD (↑t:Int).toNat (0:Int)))),e,f,g]=vCk w2 st j)/\(64:Nat)-(IntKind.i64.wrap ((↑t:Int)+(1:Int))).toNat<(64:Nat)-(↑t:Int).toNat))/\(decide ((↑t:Int)<(64:Int))=false->(tkD st rest p sz w2 ((↑t:Int),[a,b,c,d,e,f,g,h])).triv ([a,b,c,d,e,f,g,h]=vCk w2 st (64:Nat))))) (by kernel_rfl) ?_
  refine⟨fun h'=>?_,fun h'=>tvi ?_⟩
  ·have h4:t<64:=by have:=of_decide_eq_true h';omega
   have hrl:rootsL.length=64:=rfl
   rw[wrap_succ (by omega),Int.toNat_natCast]
   exact⟨trivial,trivial,trivial,⟨by omega,by omega⟩,by omega,⟨by omega,by omega⟩,by omega,trivial,trivial,trivial,tvi ⟨⟨t+1,h4,rfl,by show _=vC w2 (vCk w2 st t) t;rw[<- kv];rfl⟩,by rw[Int.toNat_natCast];omega⟩⟩
  ·have:t=64:=by have:=of_decide_eq_false h';omega
   rw[kv,this]
 rintro⟨i3,v⟩ hv
 revert i3 v
 intro (i3:Int) (v:List Int) (hv:v=vCk w2 st 64)
 refine tr_cut hsp mixed 1 (tkE rest sz w2 v (0,st)) True ?_ (fun _=>?_)
 ·refine vcx (X:=((tkE rest sz w2 v ((0:Int),st)).triv True)) (by kernel_rfl) ?_
  exact tvi trivial
 refine tr_while hsp mixed noSw (fun σ=>(rdS (.int .i64) 172 σ,(rdB hashK 0 σ).1)) (tkE rest sz w2 v) (fun g=>∃ j:Nat,j<=8/\g.1=(j:Int)/\g.2=fCk v st j) (fun g=>8-g.1.toNat)
  (fun σ=>(rdS (.int .i64) 172 σ,(rdB hashK 0 σ).1)) (tkE rest sz w2 v) (fun g=>g.2=fCk v st 8) (0,st) (c:=nthC (codeOf Tryz.f198) 10) (by kernel_rfl) (by kernel_rfl) (le_of_proj (by kernel_rfl) (by kernel_rfl) ?_) ?_ ?_
 ·exact⟨0,by decide,rfl,rfl⟩
 ·rintro⟨j,s⟩ hj
  revert j s
  intro (j:Int) (s:List Int) ⟨t,ht,ej,es⟩
  have ej:j=(t:Int):=ej
  have ks:s=fCk v st t:=es
  subst ej
  refine vcx (X:=((decide ((↑t:Int)<(8:Int))=true->((0:Int)<=(↑t:Int)/\(↑t:Int)<(↑(8:Nat):Int))/\(↑t:Int).toNat<(8:Nat)/\((0:Int)<=(↑t:Int)/\(↑t:Int)<(↑(8:Nat):Int))/\(↑t:Int).toNat<(8:Nat)/\((0:Int)<=(↑t:Int)/\(↑t:Int)<(↑(8:Nat):Int))/\(↑t:Int).toNat<(8:Nat)/\(tkE rest sz w2 v (IntKind.i64.wrap ((↑t:Int)+(1:Int)),(s.set (↑t:Int).toNat (IntKind.u32.wrap (s.getD (↑t:Int).toNat (0:Int)+v.getD (↑t:Int).toNat (0:Int))),rest,sz).fst)).triv ((∃ j,j<=(8:Nat)/\IntKind.i64.wrap ((↑t:Int)+(1:Int))=(↑j:Int)/\s.set (↑t:Int).toNat (IntKind.u32.wrap (s.getD (↑t:Int).toNat (0:Int)+v.getD (↑t:Int).toNat (0:Int)))=fCk v st j)/\(8:Nat)-(IntKind.i64.wrap ((↑t:Int)+(1:Int))).toNat<(8:Nat)-(↑t:Int).toNat))/\(decide ((↑t:Int)<(8:Int))=false->(tkE rest sz w2 v ((↑t:Int),(s,rest,sz).fst)).triv (s=fCk v st (8:Nat))))) (by kernel_rfl) ?_
  refine⟨fun h=>?_,fun h=>tvi ?_⟩
  ·have h4:t<8:=by have:=of_decide_eq_true h;omega
   rw[wrap_succ (by omega),Int.toNat_natCast]
   exact⟨⟨by omega,by omega⟩,h4,⟨by omega,by omega⟩,h4,⟨by omega,by omega⟩,h4,tvi ⟨⟨t+1,h4,rfl,by rw[ks];rfl⟩,by rw[Int.toNat_natCast];omega⟩⟩
  ·have:t=8:=by have:=of_decide_eq_false h;omega
   rw[ks,this]
 rintro⟨i4,s⟩ hs
 revert i4 s
 intro (i4:Int) (s:List Int) (hs:s=fCk v st 8)
 refine tr_vc hsp mixed _ _ ?_
 refine vcx (X:=(((s,rest,sz),())=((tko st p,rest,sz),()))) (by kernel_rfl) ?_
 show ((s,rest,sz),())=((tko st p,rest,sz),())
 rw[hs,hv,hw2',hw1,tko,opq_eq,takeF]
def spTake:Nat × Eng.Spec:=(198,fnSpecPG shaG hashK [.arr 64 bK] [] (fun _=>True) (fun ((st,rest,sz),p,_)=>((tko st p,rest,sz),())))
end
end Go.Proofs.YtbeeaekepmnfhaaGreatDoor.sha
namespace Cr
section
variable (tk:List Int->List Int->List Int) (first:List Int)
def absK (st b:List Int):Nat->List Int
 | 0=>st
 | k+1=>tk (absK st b k) ((b.drop (64*k)).take 64)
theorem absK_pre (st X Y:List Int):∀ j,64*j<=X.length->absK tk st (X++Y) j=absK tk st X j
 | 0,_=>rfl
 | j+1,h=>by
  show tk _ _=tk _ _
  rw[absK_pre st X Y j (by omega),List.drop_append_of_le_length (by omega),List.take_append_of_le_length (by rw[List.length_drop];omega)]
theorem absK_app (st X Y:List Int) (k:Nat) (hk:X.length=64*k):∀ j,absK tk st (X++Y) (k+j)=absK tk (absK tk st X k) Y j
 | 0=>absK_pre tk st X Y k (by omega)
 | j+1=>by
  show tk (absK tk st (X++Y) (k+j)) _=tk _ _
  rw[absK_app st X Y k hk j]
  congr 2
  have hkj:X.length<=64*(k+j):=by omega
  rw[show k.add j=k+j from rfl,List.drop_append,List.drop_eq_nil_of_le hkj,List.nil_append]
  congr 1;omega
def tailOf (L:List Int):List Int:=L.drop (64*(L.length/64))
def Hs (L:List Int):List Int:=absK tk first L (L.length/64)
theorem tailOf_len (L:List Int):(tailOf L).length=L.length%64:=by rw[tailOf,List.length_drop];omega
theorem tailOf_app (X Y:List Int) (k:Nat) (hk:X.length=64*k):tailOf (X++Y)=tailOf Y:=by
 rw[tailOf,tailOf,List.length_append,List.drop_append,List.drop_eq_nil_of_le (by omega),List.nil_append]
 congr 1;omega
theorem Hs_app (X Y:List Int) (k:Nat) (hk:X.length=64*k):Hs tk first (X++Y)=absK tk (absK tk first X k) Y (Y.length/64):=by
 rw[Hs,List.length_append,show (X.length+Y.length)/64=k+Y.length/64 by omega,absK_app tk first X Y k hk]
def wrEnd (st rest b:List Int):List Int × List Int:=(absK tk st b (b.length/64),tailOf b++rest.drop (tailOf b).length)
def wrF (st rest:List Int) (sz:Int) (b:List Int):List Int × List Int × Int :=
 match decide ((sz%64).toNat=0) with
 | true=>((wrEnd tk (bif decide (sz=0) then first else st) rest b).1,(wrEnd tk (bif decide (sz=0) then first else st) rest b).2,sz+b.length)
 | false=>match decide ((sz%64).toNat+b.length<64) with
  | true=>(st,rest.take (sz%64).toNat++(b++rest.drop ((sz%64).toNat+b.length)),sz+b.length)
  | false=>((wrEnd tk (tk st (rest.take (sz%64).toNat++b.take (64-(sz%64).toNat))) (rest.take (sz%64).toNat++b.take (64-(sz%64).toNat)) (b.drop (64-(sz%64).toNat))).1,
    (wrEnd tk (tk st (rest.take (sz%64).toNat++b.take (64-(sz%64).toNat))) (rest.take (sz%64).toNat++b.take (64-(sz%64).toNat)) (b.drop (64-(sz%64).toNat))).2,sz+b.length)
def Took (L:List Int) (st rest:List Int) (sz:Int):Prop:=sz=(L.length:Int)/\rest.length=64/\(L≠[]->st=Hs tk first L)/\rest.take (L.length%64)=tailOf L
theorem took_nil (st rest:List Int) (h:rest.length=64):Took tk first [] st rest 0:=⟨rfl,h,fun h=>absurd rfl h,by simp[tailOf]⟩
theorem took_wr {L st rest:List Int} {sz:Int} (h:Took tk first L st rest sz) (b:List Int):Took tk first (L++b) (wrF tk first st rest sz b).1 (wrF tk first st rest sz b).2.1 (wrF tk first st rest sz b).2.2:=by
 obtain⟨h1,h2,h3,h4⟩:=h
 subst h1
 have hr:(((L.length:Int))%64).toNat=L.length%64:=by omega
 have hsplit:L=L.take (64*(L.length/64))++tailOf L:=(List.take_append_drop _ L).symm
 have hXl:(L.take (64*(L.length/64))).length=64*(L.length/64):=by rw[List.length_take];omega
 unfold wrF
 rw[hr]
 have hsz:(L.length:Int)+(b.length:Int)=((L++b).length:Int):=by rw[List.length_append];omega
 cases hd:decide (L.length%64=0) with
 | true =>
  have h0:L.length%64=0:=of_decide_eq_true hd
  have ht:tailOf L=[]:=List.eq_nil_of_length_eq_zero (by rw[tailOf_len,h0])
  have hL:L.length=64*(L.length/64):=by omega
  have hs:(bif decide ((L.length:Int)=0) then first else st)=absK tk first L (L.length/64):=by
   cases L with
   | nil=>rfl
   | cons x l=>rw[decide_eq_false (by simp only[List.length_cons];omega),cond_false];exact h3 (by simp)
  refine⟨hsz,?_,fun _=>?_,?_⟩
  ·show (tailOf b++rest.drop _).length=64
   rw[List.length_append,List.length_drop,tailOf_len,h2];omega
  ·show absK tk _ b (b.length/64)=_
   rw[hs,Hs_app tk first L b _ hL]
  ·show (tailOf b++rest.drop _).take _=_
   rw[tailOf_app L b _ hL,List.length_append,show (L.length+b.length)%64=(tailOf b).length by rw[tailOf_len];omega,List.take_left' rfl]
 | false =>
  have h0:L.length%64≠0:=of_decide_eq_false hd
  have hne:L≠[]:=by rintro rfl;exact h0 rfl
  have hst:st=absK tk first (L.take (64*(L.length/64))) (L.length/64):=by
   rw[h3 hne,Hs]
   have:=absK_pre tk first (L.take (64*(L.length/64))) (tailOf L) (L.length/64) (by omega)
   rw[<- hsplit] at this
   exact this
  have hLb:L++b=L.take (64*(L.length/64))++(tailOf L++b):=by rw[<- List.append_assoc,<- hsplit]
  cases hd2:decide (L.length%64+b.length<64) with
  | true =>
   have h5:L.length%64+b.length<64:=of_decide_eq_true hd2
   refine⟨hsz,?_,fun _=>?_,?_⟩
   ·show (rest.take _++(b++rest.drop _)).length=64
    rw[List.length_append,List.length_append,List.length_drop,List.length_take,h2];omega
   ·show st=_
    rw[hLb,Hs_app tk first _ _ _ hXl,<- hst,show (tailOf L++b).length/64=0 by rw[List.length_append,tailOf_len];omega]
    rfl
   ·show (rest.take _++(b++rest.drop _)).take _=_
    rw[hLb,tailOf_app _ _ _ hXl]
    have e1:tailOf (tailOf L++b)=tailOf L++b:=by
     rw[tailOf,show (tailOf L++b).length/64=0 by rw[List.length_append,tailOf_len];omega];rfl
    have e2:(L.take (64*(L.length/64))++(tailOf L++b)).length%64=(tailOf L++b).length:=by
     rw[List.length_append,List.length_append,tailOf_len,hXl];omega
    rw[e1,h4,e2,<- List.append_assoc]
    exact List.take_left' rfl
  | false =>
   have h5:¬ L.length%64+b.length<64:=of_decide_eq_false hd2
   have hrl:(rest.take (L.length%64)++b.take (64-L.length%64)).length=64:=by
    rw[List.length_append,List.length_take,List.length_take,h2];omega
   have hb1:L++b=(L.take (64*(L.length/64))++(rest.take (L.length%64)++b.take (64-L.length%64)))++b.drop (64-L.length%64):=by
    rw[h4,List.append_assoc,List.append_assoc,List.take_append_drop];exact hLb
   have hXl2:(L.take (64*(L.length/64))++(rest.take (L.length%64)++b.take (64-L.length%64))).length=64*(L.length/64+1):=by
    rw[List.length_append,hrl,hXl];omega
   have hst2:absK tk first (L.take (64*(L.length/64))++(rest.take (L.length%64)++b.take (64-L.length%64))) (L.length/64+1)=tk st (rest.take (L.length%64)++b.take (64-L.length%64)):=by
    rw[absK_app tk first _ _ _ hXl 1,<- hst]
    show tk st _=_
    rw[Nat.mul_zero,List.drop_zero,List.take_of_length_le (by omega)]
   refine⟨hsz,?_,fun _=>?_,?_⟩
   ·show (tailOf _++List.drop _ (_++_)).length=64
    rw[List.length_append,List.length_drop,tailOf_len,hrl];omega
   ·show absK tk _ _ _=_
    rw[hb1,Hs_app tk first _ _ _ hXl2,hst2]
   ·show (tailOf _++List.drop _ (_++_)).take _=_
    rw[hb1,tailOf_app _ _ _ hXl2]
    rw[show (L.take (64*(L.length/64))++(rest.take (L.length%64)++b.take (64-L.length%64))++b.drop (64-L.length%64)).length%64=(tailOf (b.drop (64-L.length%64))).length by rw[tailOf_len,List.length_append,hXl2];omega,List.take_left' rfl]
end
end Cr
namespace Cr
def fcn {α:Type} (n:Nat) (k:Nat->α):α:=Nat.rec (k 0) (fun m _=>k (m+1)) n
noncomputable def fi {α:Type} (x:Int) (k:Int->α):α:=Int.rec (fun n=>fcn n fun m=>k (Int.ofNat m)) (fun n=>fcn n fun m=>k (Int.negSucc m)) x
noncomputable def fl {α:Type} (l:List Int) (k:List Int->α):α:=List.rec (motive:=fun _=>(List Int->α)->α) (fun k=>k []) (fun x _ ih k=>fi x fun x'=>ih fun l'=>k (x'::l')) l k
def it {α:Type} (f:Nat->α->α) (s:α):Nat->α
 | 0=>s
 | k+1=>f k (it f s k)
end Cr
namespace Go.Proofs.YtbeeaekepmnfhaaGreatDoor.sha
open Go Go.Eng Go.RowKit Cr
def padB (n:Nat):List Int:=128::(List.replicate ((64+55-n%64)%64) 0++(List.range 8).map fun i=>((n:Int)*8)/2^(56-8*i)%256)
def outB (s:List Int):List Int:=(List.range 32).map fun i=>IntKind.u8.wrap ((s.getD (i/4) 0).fdiv (2^(24-8*(i%4))))
noncomputable def digF (L:List Int):List Int:=outB (Hs tko firstL (L++padB L.length))
noncomputable def dig (L:List Int):List Int:=opq (digF L)
theorem outB_len (s:List Int):(outB s).length=32:=by simp[outB]
theorem dig_len (L:List Int):(dig L).length=32:=by rw[dig,opq_eq,digF,outB_len]
end Go.Proofs.YtbeeaekepmnfhaaGreatDoor.sha
namespace Go.Proofs.YtbeeaekepmnfhaaGreatDoor.sha
noncomputable section
open Go Go.Eng Go.RowKit Cr
theorem ent_write:enters Tryz.prog 161 Tryz.f161:=ek
def wro (st rest:List Int) (sz:Int) (b:List Int):Car hashK:=opq (wrF tko firstL st rest sz b)
theorem took_wro {L st rest:List Int} {sz:Int} (h:Took tko firstL L st rest sz) (b:List Int):Took tko firstL (L++b) (wro st rest sz b).1 (wro st rest sz b).2.1 (wro st rest sz b).2.2:=by
 rw[wro,opq_eq];exact took_wr tko firstL h b
theorem wrEnd_step (st rest b:List Int) (h:64<=b.length):wrEnd tko (tko st (b.take 64)) rest (b.drop 64)=wrEnd tko st rest b:=by
 have h1:b.take 64++b.drop 64=b:=List.take_append_drop _ _
 have h2:(b.take 64).length=64*1:=by rw[List.length_take];omega
 have h3:tailOf (b.drop 64)=tailOf b:=by
  have:=tailOf_app (b.take 64) (b.drop 64) 1 h2
  rw[h1] at this;exact this.symm
 have h4:absK tko (tko st (b.take 64)) (b.drop 64) ((b.drop 64).length/64)=absK tko st b (b.length/64):=by
  have:=absK_app tko st (b.take 64) (b.drop 64) 1 h2 ((b.drop 64).length/64)
  rw[h1] at this
  have e:absK tko st (b.take 64) 1=tko st (b.take 64):=by
   show tko st _=_
   rw[Nat.mul_zero,List.drop_zero,List.take_take];rfl
  rw[e] at this
  rw[<- this]
  congr 1
  rw[List.length_drop];omega
 unfold wrEnd
 rw[h3,h4]
abbrev Wg:Type:=(List Int × List Int × Int) × List Int
def wrS (g:Wg):St:=mkSt Tryz.f161.ntmps 201 [(0,.is (.one (.ptr 0 0))),(1,.is (.one (.ro bK g.2)))] [(0,[.ints .u32 8 g.1.1,.ints .u8 64 g.1.2.1,.v (.int .i64 g.1.2.2)])]
abbrev preWr:Car hashK × HL [.sl bK]->Prop:=fun ((_,_,sz),b,_)=>(0:Int)<=sz/\sz<=(1152921504606846976:Int)/\List.length b<=1152921504606846976
def wrJ (st rest:List Int) (sz:Int) (b:List Int) (g:Wg):Prop:=((wrEnd tko g.1.1 g.1.2.1 g.2).1,(wrEnd tko g.1.1 g.1.2.1 g.2).2,g.1.2.2)=wro st rest sz b/\g.1.2.1.length=64
theorem wro_eq0 {st rest:List Int} {sz:Int} {b:List Int} (h:(sz%64).toNat=0):wro st rest sz b=((wrEnd tko (bif decide (sz=0) then firstL else st) rest b).1,(wrEnd tko (bif decide (sz=0) then firstL else st) rest b).2,sz+b.length):=by
 rw[wro,opq_eq,wrF,decide_eq_true h]
theorem wro_eq1 {st rest:List Int} {sz:Int} {b:List Int} {a:Nat} (ha:a=(sz%64).toNat) (h:a≠0) (h2:a+b.length<64):wro st rest sz b=(st,rest.take a++(b++rest.drop (a+b.length)),sz+b.length):=by
 subst ha
 rw[wro,opq_eq,wrF,decide_eq_false h,decide_eq_true h2]
theorem wro_eq2 {st rest:List Int} {sz:Int} {b:List Int} {a:Nat} (ha:a=(sz%64).toNat) (h:a≠0) (h2:¬a+b.length<64):wro st rest sz b =
  ((wrEnd tko (tko st (rest.take a++b.take (64-a))) (rest.take a++b.take (64-a)) (b.drop (64-a))).1,(wrEnd tko (tko st (rest.take a++b.take (64-a))) (rest.take a++b.take (64-a)) (b.drop (64-a))).2,sz+b.length):=by
 subst ha
 rw[wro,opq_eq,wrF,decide_eq_false h,decide_eq_false h2]
theorem fn_write:FnOkP Tryz.prog 161 hashK [.sl bK] [] shaG preWr (fun ((st,rest,sz),b,_)=>(wro st rest sz b,())):=by
 have hsp:SpecsOk Tryz.prog (sps [spTake]):=spk (fnSpecPG_ok fn_take) snl
 refine fn_of_trP (sp:=sps [spTake]) ent_write (by decide) (by decide) (by kernel_rfl) ?_
 rintro w M0 b0 ⟨st,rest,sz⟩ ⟨b,⟨⟩⟩
 revert st rest sz b
 intro (st:List Int) (rest:List Int) (sz:Int) (b:List Int) hw hw2 hp
 obtain⟨hs0,hs1,hb⟩:=hp
 have hs0:(0:Int)<=sz:=hs0
 have hs1:sz<=(1152921504606846976:Int):=hs1
 have hb:b.length<=1152921504606846976:=hb
 have hst:st.length=8:=hw.1.1
 have hrl:rest.length=64:=hw.2.1.1
 show Tr _ _ _ _ _ _ _
 refine tr_cutF hsp mixed 8 (fun σ=>(rdB hashK 0 σ,rdO bK 1 σ)) wrS (wrJ st rest sz b) ?_ ?_
 ·refine vcx (X:=(((sz==(0:Int))=true->(0:Nat)<[firstL].length/\((64:Int)=(0:Int)->False)/\(decide (sz.tmod (64:Int)>(0:Int))=true->((0:Int)<=sz.tmod (64:Int)/\sz.tmod (64:Int)<=(↑(64:Nat):Int))/\(sz.tmod (64:Int)).toNat+((↑(64:Nat):Int)-sz.tmod (64:Int)).toNat<=(64:Nat)/\(decide (IntKind.i64.wrap (sz.tmod (64:Int)+(↑(b.length.min ((↑(64:Nat):Int)-sz.tmod (64:Int)).toNat):Int))<(64:Int))=true->(([(1779033703:Int),(3144134277:Int),(1013904242:Int),(2773480762:Int),(1359893119:Int),(2600822924:Int),(528734635:Int),(1541459225:Int)],List.take (sz.tmod (64:Int)).toNat rest++(List.take (b.length.min ((↑(64:Nat):Int)-sz.tmod (64:Int)).toNat) b++List.drop ((sz.tmod (64:Int)).toNat+b.length.min ((↑(64:Nat):Int)-sz.tmod (64:Int)).toNat) rest),IntKind.i64.wrap (sz+(↑b.length:Int))),())=(wro st rest sz b,()))/\(decide (IntKind.i64.wrap (sz.tmod (64:Int)+(↑(b.length.min ((↑(64:Nat):Int)-sz.tmod (64:Int)).toNat):Int))<(64:Int))=false->((0:Int)<=(↑(b.length.min ((↑(64:Nat):Int)-sz.tmod (64:Int)).toNat):Int)/\(↑(b.length.min ((↑(64:Nat):Int)-sz.tmod (64:Int)).toNat):Int)<=(↑b.length:Int))/\(∀ (g:Nat) (s:Sigma Car),shaG g=some s->Decidable.rec (fun h=>(fun x=>if g=(1:Nat) then some ⟨Kd.arr (64:Nat) uK,rootsL⟩ else none) h) (fun h=>(fun x=>some ⟨Kd.arr (8:Nat) uK,firstL⟩) h) (instDecidableEqNat g (0:Nat))=some s)/\True/\(wrS ((tko firstL (List.take (sz.tmod (64:Int)).toNat rest++(List.take (b.length.min ((↑(64:Nat):Int)-sz.tmod (64:Int)).toNat) b++List.drop ((sz.tmod (64:Int)).toNat+b.length.min ((↑(64:Nat):Int)-sz.tmod (64:Int)).toNat) rest)),List.take (sz.tmod (64:Int)).toNat rest++(List.take (b.length.min ((↑(64:Nat):Int)-sz.tmod (64:Int)).toNat) b++List.drop ((sz.tmod (64:Int)).toNat+b.length.min ((↑(64:Nat):Int)-sz.tmod (64:Int)).toNat) rest),IntKind.i64.wrap (sz+(↑b.length:Int))),List.take ((↑b.length:Int)-(↑(b.length.min ((↑(64:Nat):Int)-sz.tmod (64:Int)).toNat):Int)).toNat (List.drop (↑(b.length.min ((↑(64:Nat):Int)-sz.tmod (64:Int)).toNat):Int).toNat b))).triv (wrJ st rest sz b ((tko firstL (List.take (sz.tmod (64:Int)).toNat rest++(List.take (b.length.min ((↑(64:Nat):Int)-sz.tmod (64:Int)).toNat) b++List.drop ((sz.tmod (64:Int)).toNat+b.length.min ((↑(64:Nat):Int)-sz.tmod (64:Int)).toNat) rest)),List.take (sz.tmod (64:Int)).toNat rest++(List.take (b.length.min ((↑(64:Nat):Int)-sz.tmod (64:Int)).toNat) b++List.drop ((sz.tmod (64:Int)).toNat+b.length.min ((↑(64:Nat):Int)-sz.tmod (64:Int)).toNat) rest),IntKind.i64.wrap (sz+(↑b.length:Int))),List.take ((↑b.length:Int)-(↑(b.length.min ((↑(64:Nat):Int)-sz.tmod (64:Int)).toNat):Int)).toNat (List.drop (↑(b.length.min ((↑(64:Nat):Int)-sz.tmod (64:Int)).toNat):Int).toNat b)))))/\(decide (sz.tmod (64:Int)>(0:Int))=false->(wrS (([(1779033703:Int),(3144134277:Int),(1013904242:Int),(2773480762:Int),(1359893119:Int),(2600822924:Int),(528734635:Int),(1541459225:Int)],rest,IntKind.i64.wrap (sz+(↑b.length:Int))),b)).triv (wrJ st rest sz b (([(1779033703:Int),(3144134277:Int),(1013904242:Int),(2773480762:Int),(1359893119:Int),(2600822924:Int),(528734635:Int),(1541459225:Int)],rest,IntKind.i64.wrap (sz+(↑b.length:Int))),b))))/\((sz==(0:Int))=false->((64:Int)=(0:Int)->False)/\(decide (sz.tmod (64:Int)>(0:Int))=true->((0:Int)<=sz.tmod (64:Int)/\sz.tmod (64:Int)<=(↑(64:Nat):Int))/\(sz.tmod (64:Int)).toNat+((↑(64:Nat):Int)-sz.tmod (64:Int)).toNat<=(64:Nat)/\(decide (IntKind.i64.wrap (sz.tmod (64:Int)+(↑(b.length.min ((↑(64:Nat):Int)-sz.tmod (64:Int)).toNat):Int))<(64:Int))=true->((st,List.take (sz.tmod (64:Int)).toNat rest++(List.take (b.length.min ((↑(64:Nat):Int)-sz.tmod (64:Int)).toNat) b++List.drop ((sz.tmod (64:Int)).toNat+b.length.min ((↑(64:Nat):Int)-sz.tmod (64:Int)).toNat) rest),IntKind.i64.wrap (sz+(↑b.length:Int))),())=(wro st rest sz b,()))/\(decide (IntKind.i64.wrap (sz.tmod (64:Int)+(↑(b.length.min ((↑(64:Nat):Int)-sz.tmod (64:Int)).toNat):Int))<(64:Int))=false->((0:Int)<=(↑(b.length.min ((↑(64:Nat):Int)-sz.tmod (64:Int)).toNat):Int)/\(↑(b.length.min ((↑(64:Nat):Int)-sz.tmod (64:Int)).toNat):Int)<=(↑b.length:Int))/\(∀ (g:Nat) (s:Sigma Car),shaG g=some s->Decidable.rec (fun h=>(fun x=>if g=(1:Nat) then some ⟨Kd.arr (64:Nat) uK,rootsL⟩ else none) h) (fun h=>(fun x=>some ⟨Kd.arr (8:Nat) uK,firstL⟩) h) (instDecidableEqNat g (0:Nat))=some s)/\True/\(wrS ((tko st (List.take (sz.tmod (64:Int)).toNat rest++(List.take (b.length.min ((↑(64:Nat):Int)-sz.tmod (64:Int)).toNat) b++List.drop ((sz.tmod (64:Int)).toNat+b.length.min ((↑(64:Nat):Int)-sz.tmod (64:Int)).toNat) rest)),List.take (sz.tmod (64:Int)).toNat rest++(List.take (b.length.min ((↑(64:Nat):Int)-sz.tmod (64:Int)).toNat) b++List.drop ((sz.tmod (64:Int)).toNat+b.length.min ((↑(64:Nat):Int)-sz.tmod (64:Int)).toNat) rest),IntKind.i64.wrap (sz+(↑b.length:Int))),List.take ((↑b.length:Int)-(↑(b.length.min ((↑(64:Nat):Int)-sz.tmod (64:Int)).toNat):Int)).toNat (List.drop (↑(b.length.min ((↑(64:Nat):Int)-sz.tmod (64:Int)).toNat):Int).toNat b))).triv (wrJ st rest sz b ((tko st (List.take (sz.tmod (64:Int)).toNat rest++(List.take (b.length.min ((↑(64:Nat):Int)-sz.tmod (64:Int)).toNat) b++List.drop ((sz.tmod (64:Int)).toNat+b.length.min ((↑(64:Nat):Int)-sz.tmod (64:Int)).toNat) rest)),List.take (sz.tmod (64:Int)).toNat rest++(List.take (b.length.min ((↑(64:Nat):Int)-sz.tmod (64:Int)).toNat) b++List.drop ((sz.tmod (64:Int)).toNat+b.length.min ((↑(64:Nat):Int)-sz.tmod (64:Int)).toNat) rest),IntKind.i64.wrap (sz+(↑b.length:Int))),List.take ((↑b.length:Int)-(↑(b.length.min ((↑(64:Nat):Int)-sz.tmod (64:Int)).toNat):Int)).toNat (List.drop (↑(b.length.min ((↑(64:Nat):Int)-sz.tmod (64:Int)).toNat):Int).toNat b)))))/\(decide (sz.tmod (64:Int)>(0:Int))=false->(wrS ((st,rest,IntKind.i64.wrap (sz+(↑b.length:Int))),b)).triv (wrJ st rest sz b ((st,rest,IntKind.i64.wrap (sz+(↑b.length:Int))),b)))))) (by kernel_rfl) ?_
  obtain⟨a,ha,ha64,har⟩:∃ a:Nat,sz.tmod 64=(a:Int)/\a<64/\a=(sz%64).toNat:=⟨(sz%64).toNat,by rw[Int.tmod_eq_emod_of_nonneg hs0];omega,by omega,rfl⟩
  have e1:((↑(64:Nat):Int)-(a:Int)).toNat=64-a:=by omega
  have e3:IntKind.i64.wrap (sz+(↑b.length:Int))=sz+b.length:=wrap_i64' (by omega) (by omega)
  rw[ha,e1,e3]
  obtain⟨n,hn⟩:∃ n,n=b.length.min (64-a):=⟨_,rfl⟩
  have hn':n=min b.length (64-a):=hn
  have e2:IntKind.i64.wrap ((a:Int)+(n:Int))=((a+n:Nat):Int):=by rw[wrap_i64' (by omega) (by omega)];omega
  rw[<- hn,e2]
  simp only[Int.toNat_natCast]
  refine⟨fun h0=>⟨by decide,by decide,fun hpos=>?_,fun hz=>tvi ?_⟩,fun h0=>⟨by decide,fun hpos=>⟨⟨by omega,by omega⟩,by omega,fun hlt=>?_,fun hge=>⟨⟨by omega,by omega⟩,fun _ _ h=>h,trivial,tvi ?_⟩⟩,fun hz=>tvi ?_⟩⟩
  ·exfalso
   have h0:sz=0:=by simpa using h0
   have:=of_decide_eq_true hpos
   subst h0;omega
  ·have h0:sz=0:=by simpa using h0
   refine⟨?_,hrl⟩
   rw[wro_eq0 (by omega),decide_eq_true h0];rfl
  ·have hlt:=of_decide_eq_true hlt
   have hpos:=of_decide_eq_true hpos
   have hnb:n=b.length:=by omega
   rw[wro_eq1 har (by omega) (by omega),hnb,List.take_of_length_le (Nat.le_refl _)]
  ·have hge:=of_decide_eq_false hge
   have hpos:=of_decide_eq_true hpos
   have hnb:n=64-a:=by omega
   have hr1:rest.take a++(b.take n++rest.drop (a+n))=rest.take a++b.take (64-a):=by
    rw[hnb,List.drop_eq_nil_of_le (by omega),List.append_nil]
   have hb1:List.take ((↑b.length:Int)-(n:Int)).toNat (List.drop n b)=b.drop (64-a):=by
    rw[List.take_of_length_le (by rw[List.length_drop];omega),hnb]
   rw[hr1,hb1]
   refine⟨?_,?_⟩
   ·rw[wro_eq2 har (by omega) (by omega)]
   ·show (rest.take a++b.take (64-a)).length=64
    rw[List.length_append,List.length_take,List.length_take];omega
  ·have hz:=of_decide_eq_false hz
   have h0:¬ sz=0:=by simpa using h0
   refine⟨?_,hrl⟩
   rw[wro_eq0 (by omega),decide_eq_false h0];rfl
 rintro⟨⟨st1,rest1,sz1⟩,b1⟩ hJ
 revert st1 rest1 sz1 b1
 intro (b1:List Int) (st1:List Int) (rest1:List Int) (sz1:Int) (hJ:wrJ st rest sz b ((st1,rest1,sz1),b1))
 refine tr_while hsp mixed noSw (fun σ=>(rdB hashK 0 σ,rdO bK 1 σ)) wrS (wrJ st rest sz b) (fun g=>g.2.length)
  (fun σ=>(rdB hashK 0 σ,rdO bK 1 σ)) wrS (fun g=>wrJ st rest sz b g/\g.2.length<64) ((st1,rest1,sz1),b1) (c:=nthC (codeOf Tryz.f161) 8) (by kernel_rfl) (by kernel_rfl) (le_of_proj (by kernel_rfl) (by kernel_rfl) ?_) ?_ ?_
 ·exact hJ
 ·rintro⟨⟨st1,rest1,sz1⟩,b1⟩ hj
  revert st1 rest1 sz1 b1
  intro (b1:List Int) (st1:List Int) (rest1:List Int) (sz1:Int) (hj:wrJ st rest sz b ((st1,rest1,sz1),b1))
  refine vcx (X:=((decide ((↑b1.length:Int)>=(64:Int))=true->(64:Nat)<=b1.length/\(0:Nat)+Tryz.prog.cellsOf 214/width bK<=b1.length/\(∀ (g:Nat) (s:Sigma Car),shaG g=some s->Decidable.rec (fun h=>(fun x=>if g=(1:Nat) then some ⟨Kd.arr (64:Nat) uK,rootsL⟩ else none) h) (fun h=>(fun x=>some ⟨Kd.arr (8:Nat) uK,firstL⟩) h) (instDecidableEqNat g (0:Nat))=some s)/\True/\((0:Int)<=(64:Int)/\(64:Int)<=(↑b1.length:Int))/\(wrS ((tko st1 (List.take (Tryz.prog.cellsOf 214/width bK) b1),rest1,sz1),List.take ((↑b1.length:Int)-(64:Int)).toNat (List.drop (64:Nat) b1))).triv (wrJ st rest sz b ((tko st1 (List.take (Tryz.prog.cellsOf 214/width bK) b1),rest1,sz1),List.take ((↑b1.length:Int)-(64:Int)).toNat (List.drop (64:Nat) b1))/\(List.take ((↑b1.length:Int)-(64:Int)).toNat (List.drop (64:Nat) b1)).length<b1.length))/\(decide ((↑b1.length:Int)>=(64:Int))=false->(wrS ((st1,rest1,sz1),b1)).triv (wrJ st rest sz b ((st1,rest1,sz1),b1)/\b1.length<(64:Nat))))) (by kernel_rfl) ?_
  have e64:Tryz.prog.cellsOf 214/width bK=64:=by kernel_rfl
  obtain⟨hj1,hj2⟩:=hj
  refine⟨fun h=>?_,fun h=>tvi ⟨⟨hj1,hj2⟩,by have:=of_decide_eq_false h;omega⟩⟩
  have h64:64<=b1.length:=by have:=of_decide_eq_true h;omega
  have hd:List.take ((↑b1.length:Int)-(64:Int)).toNat (List.drop 64 b1)=b1.drop 64:=List.take_of_length_le (by rw[List.length_drop];omega)
  show 64<=b1.length/\0+Tryz.prog.cellsOf 214/width bK<=b1.length/\_
  rw[e64,hd]
  refine⟨h64,by omega,fun _ _ h=>h,trivial,⟨by omega,by omega⟩,tvi ⟨⟨?_,hj2⟩,?_⟩⟩
  ·show ((wrEnd tko (tko st1 (List.take (Tryz.prog.cellsOf 214/width bK) b1)) rest1 (b1.drop 64)).1,(wrEnd tko (tko st1 (List.take (Tryz.prog.cellsOf 214/width bK) b1)) rest1 (b1.drop 64)).2,sz1)=_
   rw[e64,wrEnd_step _ _ _ h64];exact hj1
  ·rw[List.length_drop];omega
 rintro⟨⟨st2,rest2,sz2⟩,b2⟩ hj
 revert st2 rest2 sz2 b2
 intro (b2:List Int) (st2:List Int) (rest2:List Int) (sz2:Int) (hj:wrJ st rest sz b ((st2,rest2,sz2),b2)/\b2.length<64)
 refine tr_vc hsp mixed _ _ ?_
 refine vcx (X:=(0+64<=64/\((st2,List.take 0 rest2++(List.take (b2.length.min (64:Nat)) b2++List.drop ((0:Nat)+b2.length.min (64:Nat)) rest2),sz2),())=(wro st rest sz b,()))) (by kernel_rfl) ?_
 obtain⟨⟨hj1,hj2⟩,hlt⟩:=hj
 have hlt:b2.length<64:=hlt
 refine⟨by decide,?_⟩
 have e1:b2.length.min 64=b2.length:=Nat.min_eq_left (by omega)
 have e2:tailOf b2=b2:=by rw[tailOf,show b2.length/64=0 by omega];rfl
 rw[<- hj1,e1]
 show ((st2,List.take 0 rest2++(List.take b2.length b2++List.drop (0+b2.length) rest2),sz2),())=(((wrEnd tko st2 rest2 b2).1,(wrEnd tko st2 rest2 b2).2,sz2),())
 unfold wrEnd
 rw[e2,List.take_of_length_le (Nat.le_refl _),show b2.length/64=0 by omega,Nat.zero_add]
 rfl
def spWrite:Nat × Eng.Spec:=(161,fnSpecPG shaG hashK [.sl bK] [] preWr (fun ((st,rest,sz),b,_)=>(wro st rest sz b,())))
end
end Go.Proofs.YtbeeaekepmnfhaaGreatDoor.sha
namespace Go.Proofs.YtbeeaekepmnfhaaGreatDoor.sha
noncomputable section
open Go Go.Eng Go.RowKit Cr
theorem set_fill (f:Nat->Int) (p:List Int) (k n:Nat):(p++((List.range k).map f++List.replicate (n+1) 0)).set (p.length+k) (f k)=p++((List.range (k+1)).map f++List.replicate n 0):=by
 rw[List.set_append_right _ _ (by omega),show p.length+k-p.length=k by omega,List.set_append_right _ _ (by simp)]
 rw[show k-((List.range k).map f).length=0 by simp,List.replicate_succ,List.set_cons_zero,List.range_succ,List.map_append,List.append_assoc]
 rfl
theorem wrap_u8 (x:Int):IntKind.u8.wrap x=x%256:=by
 simp only[IntKind.wrap,IntKind.signed,IntKind.bits]
 simp
theorem ent_sum:enters Tryz.prog 162 Tryz.f162:=ek
def nn (sz:Int):Nat:=(64+55-sz.toNat%64)%64
def szB (sz:Int) (i:Nat):Int:=sz*8/2^(56-8*i)%256
def tlk (sz:Int) (k:Nat):List Int:=(128::List.replicate (nn sz) 0)++((List.range k).map (szB sz)++List.replicate (71-nn sz-k) 0)
theorem tlk_pad (sz:Int) (h:0<=sz):(tlk sz 8).take (1+nn sz+8)=padB sz.toNat:=by
 have e:tlk sz 8=((128::List.replicate (nn sz) 0)++(List.range 8).map (szB sz))++List.replicate (71-nn sz-8) 0:=by rw[tlk,List.append_assoc]
 rw[e,List.take_left' (by simp;omega)]
 have e2:((sz.toNat:Nat):Int)=sz:=by omega
 unfold padB szB nn
 rw[e2]
 rfl
def smA (st rest:List Int) (sz:Int) (n:Int) (g:Int × List Int):St:=mkSt Tryz.f162.ntmps 129 [(0,.is (.one (.ptr 0 0))),(2,.is (.one (.ptr 1 0))),(3,.is (.one (.ptr 9 0))),(4,.is (.one (.ptr 33 0))),(5,sI .i64 n),(20,sI .i64 g.1)] [(33,[.ints .u8 72 g.2]),(9,[.ints .u8 32 (List.replicate 32 0)]),(1,[.ints .u8 32 (List.replicate 32 0)]),(0,[.ints .u32 8 st,.ints .u8 64 rest,.v (.int .i64 sz)])]
def smB (st rest:List Int) (sz:Int) (y:Car hashK) (g:Int × List Int):St:=mkSt Tryz.f162.ntmps 217 [(2,.is (.one (.ptr 1 0))),(3,.is (.one (.ptr 9 0))),(7,.is (.one (.ptr 153 0))),(48,sI .i64 g.1)] [(153,[.ints .u32 8 y.1,.ints .u8 64 y.2.1,.v (.int .i64 y.2.2)]),(9,[.ints .u8 32 g.2]),(1,[.ints .u8 32 (List.replicate 32 0)]),(0,[.ints .u32 8 st,.ints .u8 64 rest,.v (.int .i64 sz)])]
def outE (s:List Int) (i:Nat):Int:=IntKind.u8.wrap ((s.getD (i/4) 0).fdiv (2^(24-8*(i%4))))
def oK (s:List Int) (k:Nat):List Int:=[]++((List.range k).map (outE s)++List.replicate (32-k) 0)
def sumo (st rest:List Int) (sz:Int):List Int:=opq (outB (wro st rest sz (padB sz.toNat)).1)
theorem took_sum {L st rest:List Int} {sz:Int} (h:Took tko firstL L st rest sz):sumo st rest sz=dig L:=by
 have e:sz.toNat=L.length:=by have:=h.1;omega
 have k:=took_wro h (padB L.length)
 have hne:L++padB L.length≠[]:=by simp[padB]
 rw[sumo,opq_eq,dig,opq_eq,digF,e,k.2.2.1 hne]
theorem fn_sum:FnOkP Tryz.prog 162 hashK [] [.val (.arr 32 bK)] shaG (fun ((_,_,sz),_)=>(0:Int)<=sz/\sz<=(1152921504606846976:Int)) (fun ((st,rest,sz),_)=>((st,rest,sz),(sumo st rest sz,()))):=by
 have hsp:SpecsOk Tryz.prog (sps [spWrite]):=spk (fnSpecPG_ok fn_write) snl
 refine fn_of_trP (sp:=sps [spWrite]) ent_sum (by decide) (by decide) (by kernel_rfl) ?_
 rintro w M0 b0 ⟨st,rest,sz⟩ ⟨⟩
 revert st rest sz
 intro (st:List Int) (rest:List Int) (sz:Int) hw hw2 hp
 have hs0:(0:Int)<=sz:=hp.1
 have hs1:sz<=(1152921504606846976:Int):=hp.2
 have hnn:nn sz<64:=Nat.mod_lt _ (by decide)
 have hn0:(119-sz.tmod 64).tmod 64=(nn sz:Int):=by
  rw[Int.tmod_eq_emod_of_nonneg hs0,Int.tmod_eq_emod_of_nonneg (by omega)]
  show _=(((64+55-sz.toNat%64)%64:Nat):Int)
  omega
 have hw64:IntKind.u64.wrap sz=sz:=by
  simp only[IntKind.wrap,IntKind.signed,IntKind.bits]
  simp;omega
 have hw8:IntKind.u64.wrap (sz*8)=sz*8:=by
  simp only[IntKind.wrap,IntKind.signed,IntKind.bits]
  simp;omega
 show Tr _ _ _ _ _ _ _
 refine tr_cutF hsp mixed 8 (fun σ=>(rdS (.int .i64) 5 σ,rdR bK 33 σ)) (fun g=>smA st rest sz g.1 (0,g.2)) (fun g=>g.1=(nn sz:Int)/\g.2=tlk sz 0) ?_ ?_
 ·refine vcx (X:=((0:Nat)<(72:Nat)/\((64:Int)=(0:Int)->False)/\((64:Int)=(0:Int)->False)/\(smA st rest sz ((IntKind.i64.wrap ((119:Int)-sz.tmod (64:Int))).tmod (64:Int),[(128:Int),(0:Int),(0:Int),(0:Int),(0:Int),(0:Int),(0:Int),(0:Int),(0:Int),(0:Int),(0:Int),(0:Int),(0:Int),(0:Int),(0:Int),(0:Int),(0:Int),(0:Int),(0:Int),(0:Int),(0:Int),(0:Int),(0:Int),(0:Int),(0:Int),(0:Int),(0:Int),(0:Int),(0:Int),(0:Int),(0:Int),(0:Int),(0:Int),(0:Int),(0:Int),(0:Int),(0:Int),(0:Int),(0:Int),(0:Int),(0:Int),(0:Int),(0:Int),(0:Int),(0:Int),(0:Int),(0:Int),(0:Int),(0:Int),(0:Int),(0:Int),(0:Int),(0:Int),(0:Int),(0:Int),(0:Int),(0:Int),(0:Int),(0:Int),(0:Int),(0:Int),(0:Int),(0:Int),(0:Int),(0:Int),(0:Int),(0:Int),(0:Int),(0:Int),(0:Int),(0:Int),(0:Int)]).fst ((0:Int),((IntKind.i64.wrap ((119:Int)-sz.tmod (64:Int))).tmod (64:Int),[(128:Int),(0:Int),(0:Int),(0:Int),(0:Int),(0:Int),(0:Int),(0:Int),(0:Int),(0:Int),(0:Int),(0:Int),(0:Int),(0:Int),(0:Int),(0:Int),(0:Int),(0:Int),(0:Int),(0:Int),(0:Int),(0:Int),(0:Int),(0:Int),(0:Int),(0:Int),(0:Int),(0:Int),(0:Int),(0:Int),(0:Int),(0:Int),(0:Int),(0:Int),(0:Int),(0:Int),(0:Int),(0:Int),(0:Int),(0:Int),(0:Int),(0:Int),(0:Int),(0:Int),(0:Int),(0:Int),(0:Int),(0:Int),(0:Int),(0:Int),(0:Int),(0:Int),(0:Int),(0:Int),(0:Int),(0:Int),(0:Int),(0:Int),(0:Int),(0:Int),(0:Int),(0:Int),(0:Int),(0:Int),(0:Int),(0:Int),(0:Int),(0:Int),(0:Int),(0:Int),(0:Int),(0:Int)]).snd)).triv ((IntKind.i64.wrap ((119:Int)-sz.tmod (64:Int))).tmod (64:Int)=(↑(nn sz):Int)/\[(128:Int),(0:Int),(0:Int),(0:Int),(0:Int),(0:Int),(0:Int),(0:Int),(0:Int),(0:Int),(0:Int),(0:Int),(0:Int),(0:Int),(0:Int),(0:Int),(0:Int),(0:Int),(0:Int),(0:Int),(0:Int),(0:Int),(0:Int),(0:Int),(0:Int),(0:Int),(0:Int),(0:Int),(0:Int),(0:Int),(0:Int),(0:Int),(0:Int),(0:Int),(0:Int),(0:Int),(0:Int),(0:Int),(0:Int),(0:Int),(0:Int),(0:Int),(0:Int),(0:Int),(0:Int),(0:Int),(0:Int),(0:Int),(0:Int),(0:Int),(0:Int),(0:Int),(0:Int),(0:Int),(0:Int),(0:Int),(0:Int),(0:Int),(0:Int),(0:Int),(0:Int),(0:Int),(0:Int),(0:Int),(0:Int),(0:Int),(0:Int),(0:Int),(0:Int),(0:Int),(0:Int),(0:Int)]=tlk sz (0:Nat)))) (by kernel_rfl) ?_
  have e:IntKind.i64.wrap (119-sz.tmod 64)=119-sz.tmod 64:=by
   rw[Int.tmod_eq_emod_of_nonneg hs0];exact wrap_i64' (by omega) (by omega)
  rw[e,hn0]
  refine⟨by decide,by decide,by decide,tvi ⟨rfl,?_⟩⟩
  show _=(128::List.replicate (nn sz) 0)++([]++List.replicate (71-nn sz-0) 0)
  rw[List.nil_append,List.cons_append,List.replicate_append_replicate,show nn sz+(71-nn sz-0)=71 by omega]
  rfl
 rintro⟨n0,t0⟩ hK
 revert n0 t0
 intro (n0:Int) (t0:List Int) ⟨e0,et⟩
 have e0:n0=(nn sz:Int):=e0
 have et:t0=tlk sz 0:=et
 subst e0 et
 refine tr_while hsp mixed noSw (fun σ=>(rdS (.int .i64) 20 σ,rdR bK 33 σ)) (smA st rest sz (nn sz)) (fun g=>∃ k:Nat,k<=8/\g.1=(k:Int)/\g.2=tlk sz k) (fun g=>8-g.1.toNat)
  (fun σ=>(rdS (.int .i64) 20 σ,rdR bK 33 σ)) (smA st rest sz (nn sz)) (fun g=>g.2=tlk sz 8) (0,tlk sz 0) (c:=nthC (codeOf Tryz.f162) 8) (by kernel_rfl) (by kernel_rfl) (le_of_proj (by kernel_rfl) (by kernel_rfl) ?_) ?_ ?_
 ·exact⟨0,by decide,rfl,rfl⟩
 ·rintro⟨i,l⟩ hj
  revert i l
  intro (i:Int) (l:List Int) ⟨k,hk,ei,el⟩
  have ei:i=(k:Int):=ei
  have kl:l=tlk sz k:=el
  subst ei
  refine vcx (X:=((decide ((↑k:Int)<(8:Int))=true->(0:Int)<=IntKind.i64.wrap ((56:Int)-IntKind.i64.wrap ((8:Int)*(↑k:Int)))/\((0:Int)<=IntKind.i64.wrap (IntKind.i64.wrap ((1:Int)+(↑(nn sz):Int))+(↑k:Int))/\IntKind.i64.wrap (IntKind.i64.wrap ((1:Int)+(↑(nn sz):Int))+(↑k:Int))<(↑(72:Nat):Int))/\(IntKind.i64.wrap (IntKind.i64.wrap ((1:Int)+(↑(nn sz):Int))+(↑k:Int))).toNat<(72:Nat)/\(smA st rest sz (↑(nn sz):Int) (IntKind.i64.wrap ((↑k:Int)+(1:Int)),l.set (IntKind.i64.wrap (IntKind.i64.wrap ((1:Int)+(↑(nn sz):Int))+(↑k:Int))).toNat (IntKind.u8.wrap ((IntKind.u64.wrap (IntKind.u64.wrap sz*(8:Int))).fdiv ((2:Int)^min (IntKind.i64.wrap ((56:Int)-IntKind.i64.wrap ((8:Int)*(↑k:Int)))).toNat IntKind.u64.bits))))).triv ((∃ k_1,k_1<=(8:Nat)/\IntKind.i64.wrap ((↑k:Int)+(1:Int))=(↑k_1:Int)/\l.set (IntKind.i64.wrap (IntKind.i64.wrap ((1:Int)+(↑(nn sz):Int))+(↑k:Int))).toNat (IntKind.u8.wrap ((IntKind.u64.wrap (IntKind.u64.wrap sz*(8:Int))).fdiv ((2:Int)^min (IntKind.i64.wrap ((56:Int)-IntKind.i64.wrap ((8:Int)*(↑k:Int)))).toNat IntKind.u64.bits)))=tlk sz k_1)/\(8:Nat)-(IntKind.i64.wrap ((↑k:Int)+(1:Int))).toNat<(8:Nat)-(↑k:Int).toNat))/\(decide ((↑k:Int)<(8:Int))=false->(smA st rest sz (↑(nn sz):Int) ((↑k:Int),l)).triv (l=tlk sz (8:Nat))))) (by kernel_rfl) ?_
  refine⟨fun h=>?_,fun h=>tvi ?_⟩
  ·have h4:k<8:=by have:=of_decide_eq_true h;omega
   have e1:IntKind.i64.wrap (IntKind.i64.wrap ((1:Int)+(nn sz:Int))+(k:Int))=((1+nn sz+k:Nat):Int):=by
    rw[wrap_i64' (a:=1+(nn sz:Int)) (by omega) (by omega),wrap_i64' (by omega) (by omega)];omega
   have e2:IntKind.i64.wrap (56-IntKind.i64.wrap (8*(k:Int)))=((56-8*k:Nat):Int):=by
    rw[wrap_i64' (a:=8*(k:Int)) (by omega) (by omega),wrap_i64' (by omega) (by omega)];omega
   rw[e1,e2,wrap_succ (by omega),hw64,hw8]
   simp only[Int.toNat_natCast]
   refine⟨by omega,⟨by omega,by omega⟩,by omega,tvi ⟨⟨k+1,h4,rfl,?_⟩,by omega⟩⟩
   have ev:IntKind.u8.wrap ((sz*8).fdiv (2^min (56-8*k) IntKind.u64.bits))=szB sz k:=by
    have hm:min (56-8*k) IntKind.u64.bits=56-8*k:=Nat.min_eq_left (show 56-8*k<=64 by omega)
    rw[wrap_u8,hm,Int.fdiv_eq_ediv_of_nonneg _ (Int.le_of_lt (Int.pow_pos (by decide)))];rfl
   rw[ev,kl,tlk,tlk,show 71-nn sz-k=(71-nn sz-(k+1))+1 by omega]
   have:=set_fill (szB sz) (128::List.replicate (nn sz) 0) k (71-nn sz-(k+1))
   rw[show (128::List.replicate (nn sz) (0:Int)).length=1+nn sz by simp;omega] at this
   exact this
  ·have:k=8:=by have:=of_decide_eq_false h;omega
   rw[kl,this]
 rintro⟨i1,l1⟩ hl1
 revert i1 l1
 intro (i1:Int) (l1:List Int) (hl1:l1=tlk sz 8)
 subst hl1
 refine tr_cutF hsp mixed 3 (fun σ=>rdB hashK 153 σ) (fun y=>smB st rest sz y (0,List.replicate 32 0)) (fun y=>y=wro st rest sz (padB sz.toNat)) ?_ ?_
 ·refine vcx (X:=(((0:Int)<=IntKind.i64.wrap (IntKind.i64.wrap ((1:Int)+(↑(nn sz):Int))+(8:Int))/\IntKind.i64.wrap (IntKind.i64.wrap ((1:Int)+(↑(nn sz):Int))+(8:Int))<=(↑(72:Nat):Int))/\(∀ (g:Nat) (s:Sigma Car),shaG g=some s->Decidable.rec (fun h=>(fun x=>if g=(1:Nat) then some ⟨Kd.arr (64:Nat) uK,rootsL⟩ else none) h) (fun h=>(fun x=>some ⟨Kd.arr (8:Nat) uK,firstL⟩) h) (instDecidableEqNat g (0:Nat))=some s)/\(0:Nat)+(IntKind.i64.wrap (IntKind.i64.wrap ((1:Int)+(↑(nn sz):Int))+(8:Int))-(0:Int)).toNat<=(72:Nat)/\preWr ((st,rest,sz),List.take (IntKind.i64.wrap (IntKind.i64.wrap ((1:Int)+(↑(nn sz):Int))+(8:Int))-(0:Int)).toNat (tlk sz (8:Nat)),())/\(smB st rest sz (wro st rest sz (List.take (IntKind.i64.wrap (IntKind.i64.wrap ((1:Int)+(↑(nn sz):Int))+(8:Int))-(0:Int)).toNat (tlk sz (8:Nat)))) ((0:Int),List.replicate (32:Nat) (0:Int))).triv (wro st rest sz (List.take (IntKind.i64.wrap (IntKind.i64.wrap ((1:Int)+(↑(nn sz):Int))+(8:Int))-(0:Int)).toNat (tlk sz (8:Nat)))=wro st rest sz (padB sz.toNat)))) (by kernel_rfl) ?_
  have e1:IntKind.i64.wrap (IntKind.i64.wrap ((1:Int)+(nn sz:Int))+8)=((1+nn sz+8:Nat):Int):=by
   rw[wrap_i64' (a:=1+(nn sz:Int)) (by omega) (by omega),wrap_i64' (by omega) (by omega)];omega
  have e2:(((1+nn sz+8:Nat):Int)-0).toNat=1+nn sz+8:=by omega
  rw[e1,e2,tlk_pad sz hs0]
  refine⟨⟨by omega,by omega⟩,fun _ _ h=>h,by omega,⟨hs0,hs1,?_⟩,tvi rfl⟩
  show (padB sz.toNat).length<=_
  rw[<- tlk_pad sz hs0,List.length_take];omega
 rintro⟨y1,y2,y3⟩ hy
 revert y1 y2 y3
 intro (y1:List Int) (y2:List Int) (y3:Int) (hy:(y1,y2,y3)=wro st rest sz (padB sz.toNat))
 rw[hy]
 refine tr_while hsp mixed noSw (fun σ=>(rdS (.int .i64) 48 σ,rdR bK 9 σ)) (smB st rest sz (wro st rest sz (padB sz.toNat))) (fun g=>∃ k:Nat,k<=32/\g.1=(k:Int)/\g.2=oK (wro st rest sz (padB sz.toNat)).1 k) (fun g=>32-g.1.toNat)
  (fun σ=>(rdS (.int .i64) 48 σ,rdR bK 9 σ)) (smB st rest sz (wro st rest sz (padB sz.toNat))) (fun g=>g.2=oK (wro st rest sz (padB sz.toNat)).1 32) (0,List.replicate 32 0) (c:=nthC (codeOf Tryz.f162) 12) (by kernel_rfl) (by kernel_rfl) (le_of_proj (by kernel_rfl) (by kernel_rfl) ?_) ?_ ?_
 ·exact⟨0,by decide,rfl,rfl⟩
 ·rintro⟨i,l⟩ hj
  revert i l
  intro (i:Int) (l:List Int) ⟨k,hk,ei,el⟩
  have ei:i=(k:Int):=ei
  have kl:l=oK (wro st rest sz (padB sz.toNat)).1 k:=el
  subst ei
  refine vcx (X:=((decide ((↑k:Int)<(32:Int))=true->((4:Int)=(0:Int)->False)/\((0:Int)<=IntKind.i64.wrap ((↑k:Int).tdiv (4:Int))/\IntKind.i64.wrap ((↑k:Int).tdiv (4:Int))<(↑(8:Nat):Int))/\(IntKind.i64.wrap ((↑k:Int).tdiv (4:Int))).toNat<(8:Nat)/\((4:Int)=(0:Int)->False)/\(0:Int)<=IntKind.i64.wrap ((24:Int)-IntKind.i64.wrap ((8:Int)*(↑k:Int).tmod (4:Int)))/\((0:Int)<=(↑k:Int)/\(↑k:Int)<(↑(32:Nat):Int))/\(↑k:Int).toNat<(32:Nat)/\(smB st rest sz (wro st rest sz (padB sz.toNat)) (IntKind.i64.wrap ((↑k:Int)+(1:Int)),l.set (↑k:Int).toNat (IntKind.u8.wrap (((wro st rest sz (padB sz.toNat)).fst.getD (IntKind.i64.wrap ((↑k:Int).tdiv (4:Int))).toNat (0:Int)).fdiv ((2:Int)^min (IntKind.i64.wrap ((24:Int)-IntKind.i64.wrap ((8:Int)*(↑k:Int).tmod (4:Int)))).toNat IntKind.u32.bits))))).triv ((∃ k_1,k_1<=(32:Nat)/\IntKind.i64.wrap ((↑k:Int)+(1:Int))=(↑k_1:Int)/\l.set (↑k:Int).toNat (IntKind.u8.wrap (((wro st rest sz (padB sz.toNat)).fst.getD (IntKind.i64.wrap ((↑k:Int).tdiv (4:Int))).toNat (0:Int)).fdiv ((2:Int)^min (IntKind.i64.wrap ((24:Int)-IntKind.i64.wrap ((8:Int)*(↑k:Int).tmod (4:Int)))).toNat IntKind.u32.bits)))=oK (wro st rest sz (padB sz.toNat)).fst k_1)/\(32:Nat)-(IntKind.i64.wrap ((↑k:Int)+(1:Int))).toNat<(32:Nat)-(↑k:Int).toNat))/\(decide ((↑k:Int)<(32:Int))=false->(smB st rest sz (wro st rest sz (padB sz.toNat)) ((↑k:Int),l)).triv (l=oK (wro st rest sz (padB sz.toNat)).fst (32:Nat))))) (by kernel_rfl) ?_
  refine⟨fun h=>?_,fun h=>tvi ?_⟩
  ·have h4:k<32:=by have:=of_decide_eq_true h;omega
   have e1:IntKind.i64.wrap ((k:Int).tdiv 4)=((k/4:Nat):Int):=by
    rw[Int.tdiv_eq_ediv_of_nonneg (by omega),wrap_i64' (by omega) (by omega)];omega
   have e2:IntKind.i64.wrap (24-IntKind.i64.wrap (8*(k:Int).tmod 4))=((24-8*(k%4):Nat):Int):=by
    rw[Int.tmod_eq_emod_of_nonneg (by omega),wrap_i64' (a:=8*((k:Int)%4)) (by omega) (by omega),wrap_i64' (by omega) (by omega)];omega
   rw[e1,e2,wrap_succ (by omega)]
   simp only[Int.toNat_natCast]
   refine⟨by decide,⟨by omega,by omega⟩,by omega,by decide,by omega,⟨by omega,by omega⟩,h4,tvi ⟨⟨k+1,h4,rfl,?_⟩,by omega⟩⟩
   have ev:IntKind.u8.wrap (((wro st rest sz (padB sz.toNat)).1.getD (k/4) 0).fdiv (2^min (24-8*(k%4)) IntKind.u32.bits))=outE (wro st rest sz (padB sz.toNat)).1 k:=by
    have hm:min (24-8*(k%4)) IntKind.u32.bits=24-8*(k%4):=Nat.min_eq_left (show 24-8*(k%4)<=32 by omega)
    rw[hm];rfl
   rw[ev,kl,oK,oK,show 32-k=(32-(k+1))+1 by omega]
   have:=set_fill (outE (wro st rest sz (padB sz.toNat)).1) [] k (32-(k+1))
   rw[show ([]:List Int).length+k=k by simp] at this
   exact this
  ·have:k=32:=by have:=of_decide_eq_false h;omega
   rw[kl,this]
 rintro⟨i2,l2⟩ hl2
 revert i2 l2
 intro (i2:Int) (l2:List Int) (hl2:l2=oK (wro st rest sz (padB sz.toNat)).1 32)
 refine tr_vc hsp mixed _ _ ?_
 refine vcx (X:=(((st,rest,sz),l2,())=((st,rest,sz),sumo st rest sz,()))) (by kernel_rfl) ?_
 rw[hl2,sumo,opq_eq]
 have e:oK (wro st rest sz (padB sz.toNat)).1 32=outB (wro st rest sz (padB sz.toNat)).1:=by
  show []++(_++[])=_
  rw[List.append_nil,List.nil_append];rfl
 rw[e]
def spSum:Nat × Eng.Spec:=(162,fnSpecPG shaG hashK [] [.val (.arr 32 bK)] (fun ((_,_,sz),_)=>(0:Int)<=sz/\sz<=(1152921504606846976:Int)) (fun ((st,rest,sz),_)=>((st,rest,sz),(sumo st rest sz,()))))
theorem ent_of:enters Tryz.prog 113 Tryz.f113:=ek
def ofS (ps:List (List Int)) (g:Int × Car hashK):St:=mkSt Tryz.f113.ntmps 40 [(2,.is (.one (.ptr 0 0))),(3,.is (.one (.ptr 8 0))),(6,.is (.one (.ro (.sl bK) ps))),(7,sI .i64 ps.length),(8,sI .i64 g.1)] [(8,[.ints .u32 8 g.2.1,.ints .u8 64 g.2.2.1,.v (.int .i64 g.2.2.2)]),(0,[.ints .u8 32 (List.replicate 32 0)])]
abbrev preOf:HL [.sl (.sl bK)]->Prop:=fun (ps,_)=>List.length (List.flatten ps)<=1099511627776/\List.length ps<=1099511627776
theorem fn_of:FnOk Tryz.prog 113 [.sl (.sl bK)] [.val (.arr 32 bK)] shaG preOf (fun (ps,_)=>(dig (List.flatten ps),())):=by
 have hsp:SpecsOk Tryz.prog (sps [spWrite,spSum]):=spk (fnSpecPG_ok fn_write) (spk (fnSpecPG_ok fn_sum) snl)
 refine fn_of_tr (sp:=sps [spWrite,spSum]) ent_of (by decide) (by decide) (by kernel_rfl) ?_
 rintro w M0 ⟨ps,⟨⟩⟩
 revert ps
 intro (ps:List (List Int)) _ hp
 have hl:(List.flatten ps).length<=1099511627776:=hp.1
 have hn:ps.length<=1099511627776:=hp.2
 show Tr _ _ _ _ _ _ _
 refine tr_cut hsp mixed 3 (ofS ps (0,(List.replicate 8 0,List.replicate 64 0,0))) True ?_ (fun _=>?_)
 ·refine vcx (X:=((ofS ps ((0:Int),List.replicate (8:Nat) (0:Car uK),List.replicate (64:Nat) (0:Car bK),(0:Car (Kd.int IntKind.i64)))).triv True)) (by kernel_rfl) ?_
  exact tvi trivial
 refine tr_while hsp mixed noSw (fun σ=>(rdS (.int .i64) 8 σ,rdB hashK 8 σ)) (ofS ps) (fun g=>∃ k:Nat,k<=ps.length/\g.1=(k:Int)/\Took tko firstL (List.flatten (ps.take k)) g.2.1 g.2.2.1 g.2.2.2) (fun g=>ps.length-g.1.toNat)
  (fun σ=>(rdS (.int .i64) 8 σ,rdB hashK 8 σ)) (ofS ps) (fun g=>Took tko firstL (List.flatten ps) g.2.1 g.2.2.1 g.2.2.2) (0,(List.replicate 8 0,List.replicate 64 0,0)) (c:=nthC (codeOf Tryz.f113) 3) (by kernel_rfl) (by kernel_rfl) (le_of_proj (by kernel_rfl) (by kernel_rfl) ?_) ?_ ?_
 ·exact⟨0,Nat.zero_le _,rfl,took_nil tko firstL _ _ List.length_replicate⟩
 ·rintro⟨i,st,rest,sz⟩ hj
  revert i st rest sz
  intro (i:Int) (st:List Int) (rest:List Int) (sz:Int) ⟨k,hk,ei,tk⟩
  have ei:i=(k:Int):=ei
  have tk:Took tko firstL (List.flatten (ps.take k)) st rest sz:=tk
  subst ei
  refine vcx (X:=((decide ((↑k:Int)<(↑ps.length:Int))=true->((0:Int)<=(↑k:Int)/\(↑k:Int)<(↑ps.length:Int))/\(↑k:Int).toNat<ps.length/\(∀ (g:Nat) (s:Sigma Car),shaG g=some s->Decidable.rec (fun h=>(fun x=>if g=(1:Nat) then some ⟨Kd.arr (64:Nat) uK,rootsL⟩ else none) h) (fun h=>(fun x=>some ⟨Kd.arr (8:Nat) uK,firstL⟩) h) (instDecidableEqNat g (0:Nat))=some s)/\preWr ((st,rest,sz),ps.getD (↑k:Int).toNat [],())/\(ofS ps (IntKind.i64.wrap ((↑k:Int)+(1:Int)),wro st rest sz (ps.getD (↑k:Int).toNat []))).triv ((∃ k_1,k_1<=ps.length/\IntKind.i64.wrap ((↑k:Int)+(1:Int))=(↑k_1:Int)/\Took tko firstL (List.take k_1 ps).flatten (wro st rest sz (ps.getD (↑k:Int).toNat [])).fst (wro st rest sz (ps.getD (↑k:Int).toNat [])).snd.fst (wro st rest sz (ps.getD (↑k:Int).toNat [])).snd.snd)/\ps.length-(IntKind.i64.wrap ((↑k:Int)+(1:Int))).toNat<ps.length-(↑k:Int).toNat))/\(decide ((↑k:Int)<(↑ps.length:Int))=false->(ofS ps ((↑k:Int),st,rest,sz)).triv (Took tko firstL ps.flatten st rest sz)))) (by kernel_rfl) ?_
  refine⟨fun h=>?_,fun h=>tvi ?_⟩
  ·have h4:k<ps.length:=by have:=of_decide_eq_true h;omega
   have hx:ps.getD k []=ps[k]:=by simp[List.getElem?_eq_getElem h4]
   have hf:(ps.take (k+1)).flatten=(ps.take k).flatten++ps.getD k []:=by
    rw[List.take_succ_eq_append_getElem h4,List.flatten_append,hx];simp
   have hlen:(ps.take (k+1)).flatten.length<=ps.flatten.length:=by
    have:ps.flatten=(ps.take (k+1)).flatten++(ps.drop (k+1)).flatten:=by rw[<- List.flatten_append,List.take_append_drop]
    rw[this,List.length_append];omega
   have hsz:sz=(((ps.take k).flatten.length:Nat):Int):=tk.1
   have hl2:(ps.take k).flatten.length+(ps.getD k []).length<=1099511627776:=by
    rw[hf,List.length_append] at hlen;omega
   rw[wrap_succ (by omega)]
   simp only[Int.toNat_natCast]
   have a1:(0:Int)<=sz:=by rw[hsz];omega
   have a2:sz<=(1152921504606846976:Int):=by rw[hsz];omega
   refine⟨⟨by omega,by omega⟩,h4,fun _ _ h=>h,⟨a1,a2,?_⟩,tvi ⟨⟨k+1,h4,rfl,?_⟩,by omega⟩⟩
   ·show (ps.getD k []).length<=_
    omega
   ·rw[hf];exact took_wro tk _
  ·have:k=ps.length:=by have:=of_decide_eq_false h;omega
   rw[this,List.take_length] at tk
   exact tk
 rintro⟨i,st,rest,sz⟩ hj
 revert i st rest sz
 intro (i:Int) (st:List Int) (rest:List Int) (sz:Int) (tk:Took tko firstL (List.flatten ps) st rest sz)
 refine tr_vc hsp mixed _ _ ?_
 refine vcx (X:=((∀ (g:Nat) (s:Sigma Car),shaG g=some s->Decidable.rec (fun h=>(fun x=>if g=(1:Nat) then some ⟨Kd.arr (64:Nat) uK,rootsL⟩ else none) h) (fun h=>(fun x=>some ⟨Kd.arr (8:Nat) uK,firstL⟩) h) (instDecidableEqNat g (0:Nat))=some s)/\((0:Int)<=sz/\sz<=(1152921504606846976:Int))/\(sumo st rest sz,())=(dig ps.flatten,()))) (by kernel_rfl) ?_
 have hsz:sz=((ps.flatten.length:Nat):Int):=tk.1
 have a1:(0:Int)<=sz:=by rw[hsz];omega
 have a2:sz<=(1152921504606846976:Int):=by rw[hsz];omega
 exact⟨fun _ _ h=>h,⟨a1,a2⟩,by rw[took_sum tk]⟩
def spOf:Nat × Eng.Spec:=(113,fnSpecG shaG [.sl (.sl bK)] [.val (.arr 32 bK)] preOf (fun (ps,_)=>(dig (List.flatten ps),())))
end
end Go.Proofs.YtbeeaekepmnfhaaGreatDoor.sha
namespace Go.Proofs.YtbeeaekepmnfhaaGreatDoor.xmd
noncomputable section
open Go Go.Eng Go.RowKit Cr sha
theorem ent_split:enters Tryz.prog 190 Tryz.f190:=ek
def sB (d:List Int) (i j:Nat) (w:List Int):List Int:=w.set i (bitOp .or .u32 (IntKind.u32.wrap (w.getD i 0*2^min (8:Nat) IntKind.u32.bits)) (IntKind.u32.wrap (d.getD (4*i+j) 0)))
def sBk (d:List Int) (i:Nat) (w:List Int) (j:Nat):List Int:=it (fun j w=>sB d i j w) w j
def sAk (d:List Int) (i:Nat):List Int:=it (fun i w=>sBk d i w 4) (List.replicate 8 0) i
def spl (d:List Int):List Int:=opq (sAk d 8)
def spA (d:List Int) (g:Int × List Int):St:=mkSt Tryz.f190.ntmps 32 [(1,.is (.one (.ptr 0 0))),(2,.is (.one (.ptr 8 0))),(3,.is (.one (.ptr 16 0))),(6,sI .i64 g.1)] [(16,[.ints .u32 8 g.2]),(8,[.ints .u32 8 (List.replicate 8 0)]),(0,[.ints .u8 32 d])]
def spB (d:List Int) (i:Nat) (g:Int × List Int):St:=mkSt Tryz.f190.ntmps 32 [(1,.is (.one (.ptr 0 0))),(2,.is (.one (.ptr 8 0))),(3,.is (.one (.ptr 16 0))),(4,sI .i64 i),(6,sI .i64 i),(9,sI .i64 g.1)] [(16,[.ints .u32 8 g.2]),(8,[.ints .u32 8 (List.replicate 8 0)]),(0,[.ints .u8 32 d])]
theorem fn_split:FnOk Tryz.prog 190 [.arr 32 bK] [.val (.arr 8 uK)] noG (fun _=>True) (fun (d,_)=>(spl d,())):=by
 have hsp:SpecsOk Tryz.prog (sps []):=snl
 refine fn_of_tr (sp:=sps []) ent_split (by decide) (by decide) (by kernel_rfl) ?_
 rintro w M0 ⟨d,⟨⟩⟩
 revert d
 intro (d:List Int) hw _
 have hd:d.length=32:=hw.1.1
 show Tr _ _ _ _ _ _ _
 refine tr_cut hsp mixed 3 (spA d (0,List.replicate 8 0)) True ?_ (fun _=>?_)
 ·refine vcx (X:=((spA d ((0:Int),List.replicate (8:Nat) (0:Int))).triv True)) (by kernel_rfl) ?_
  exact tvi trivial
 refine tr_whileT noSw (fun σ=>(rdS (.int .i64) 6 σ,rdR uK 16 σ)) (spA d) (fun g=>∃ k:Nat,k<=8/\g.1=(k:Int)/\g.2=sAk d k) (fun g=>8-g.1.toNat)
  (fun σ=>(rdS (.int .i64) 6 σ,rdR uK 16 σ)) (spA d) (fun g=>g.2=sAk d 8) (0,List.replicate 8 0) (c:=nthC (codeOf Tryz.f190) 3) (by kernel_rfl) (by kernel_rfl) (le_of_proj (by kernel_rfl) (by kernel_rfl) ?_) ?_ ?_
 ·exact⟨0,by decide,rfl,rfl⟩
 ·rintro⟨i,wl⟩ hj
  revert i wl
  intro (i:Int) (wl:List Int) ⟨k,hk,ei,ew⟩
  have ei:i=(k:Int):=ei
  have kw:wl=sAk d k:=ew
  subst ei
  refine tr_cut hsp mixed 2 (spA d ((k:Int),wl)) (k<8) ?_ (fun hlt=>?_)
  ·refine vcx (X:=((decide ((↑k:Int)<(8:Int))=true->(spA d ((↑k:Int),wl)).triv (k<(8:Nat)))/\(decide ((↑k:Int)<(8:Int))=false->(spA d ((↑k:Int),wl)).triv (wl=sAk d (8:Nat))))) (by kernel_rfl) ?_
   refine⟨fun h=>tvi (by have:=of_decide_eq_true h;omega),fun h=>tvi ?_⟩
   have:k=8:=by have:=of_decide_eq_false h;omega
   rw[kw,this]
  refine tr_block (c:=nthC (loopOf (nthC (codeOf Tryz.f190) 3)) 2) (by kernel_rfl) (by kernel_rfl) ?_
  refine tr_cut hsp mixed 2 (spB d k (0,wl)) True ?_ (fun _=>?_)
  ·refine vcx (X:=((spB d k ((0:Int),wl)).triv True)) (by kernel_rfl) ?_
   exact tvi trivial
  refine tr_while hsp mixed noSw (fun σ=>(rdS (.int .i64) 9 σ,rdR uK 16 σ)) (spB d k) (fun g=>∃ j:Nat,j<=4/\g.1=(j:Int)/\g.2=sBk d k wl j) (fun g=>4-g.1.toNat)
   (fun σ=>rdR uK 16 σ) (fun w=>spA d ((k:Int),w)) (fun w=>w=sBk d k wl 4) (0,wl) (c:=nthC (bodyOf (nthC (loopOf (nthC (codeOf Tryz.f190) 3)) 2)) 2) (by kernel_rfl) (by kernel_rfl) (le_of_proj (by kernel_rfl) (by kernel_rfl) ?_) ?_ ?_
  ·exact⟨0,by decide,rfl,rfl⟩
  ·rintro⟨j,wj⟩ hj
   revert j wj
   intro (j:Int) (wj:List Int) ⟨t,ht,ej,ewj⟩
   have ej:j=(t:Int):=ej
   have kwj:wj=sBk d k wl t:=ewj
   subst ej
   refine vcx (X:=((decide ((↑t:Int)<(4:Int))=true->((0:Int)<=(↑k:Int)/\(↑k:Int)<(↑(8:Nat):Int))/\(↑k:Int).toNat<(8:Nat)/\(0:Int)<=(8:Int)/\((0:Int)<=IntKind.i64.wrap (IntKind.i64.wrap ((4:Int)*(↑k:Int))+(↑t:Int))/\IntKind.i64.wrap (IntKind.i64.wrap ((4:Int)*(↑k:Int))+(↑t:Int))<(↑(32:Nat):Int))/\(IntKind.i64.wrap (IntKind.i64.wrap ((4:Int)*(↑k:Int))+(↑t:Int))).toNat<(32:Nat)/\((0:Int)<=(↑k:Int)/\(↑k:Int)<(↑(8:Nat):Int))/\(↑k:Int).toNat<(8:Nat)/\(spB d k (IntKind.i64.wrap ((↑t:Int)+(1:Int)),wj.set (↑k:Int).toNat (bitOp BinOp.or IntKind.u32 (IntKind.u32.wrap (wj.getD (↑k:Int).toNat (0:Int)*(2:Int)^min (8:Nat) IntKind.u32.bits)) (IntKind.u32.wrap (d.getD (IntKind.i64.wrap (IntKind.i64.wrap ((4:Int)*(↑k:Int))+(↑t:Int))).toNat (0:Int)))))).triv ((∃ j,j<=(4:Nat)/\IntKind.i64.wrap ((↑t:Int)+(1:Int))=(↑j:Int)/\wj.set (↑k:Int).toNat (bitOp BinOp.or IntKind.u32 (IntKind.u32.wrap (wj.getD (↑k:Int).toNat (0:Int)*(2:Int)^min (8:Nat) IntKind.u32.bits)) (IntKind.u32.wrap (d.getD (IntKind.i64.wrap (IntKind.i64.wrap ((4:Int)*(↑k:Int))+(↑t:Int))).toNat (0:Int))))=sBk d k wl j)/\(4:Nat)-(IntKind.i64.wrap ((↑t:Int)+(1:Int))).toNat<(4:Nat)-(↑t:Int).toNat))/\(decide ((↑t:Int)<(4:Int))=false->(spA d ((↑k:Int),wj)).triv (wj=sBk d k wl (4:Nat))))) (by kernel_rfl) ?_
   refine⟨fun h=>?_,fun h=>tvi ?_⟩
   ·have h4:t<4:=by have:=of_decide_eq_true h;omega
    have e1:IntKind.i64.wrap (IntKind.i64.wrap ((4:Int)*(k:Int))+(t:Int))=((4*k+t:Nat):Int):=by
     rw[wrap_i64' (a:=4*(k:Int)) (by omega) (by omega),wrap_i64' (by omega) (by omega)];omega
    rw[e1,wrap_succ (by omega),Int.toNat_natCast,Int.toNat_natCast]
    exact⟨⟨by omega,by omega⟩,by omega,by decide,⟨by omega,by omega⟩,by omega,⟨by omega,by omega⟩,by omega,tvi ⟨⟨t+1,h4,rfl,by rw[kwj];rfl⟩,by rw[Int.toNat_natCast,Int.toNat_natCast];omega⟩⟩
   ·have:t=4:=by have:=of_decide_eq_false h;omega
    rw[kwj,this]
  intro (w':List Int) (hw':w'=sBk d k wl 4)
  refine tr_nil ?_
  refine tr_vc hsp mixed _ _ ?_
  refine vcx (X:=((spA d (IntKind.i64.wrap ((↑k:Int)+(1:Int)),w')).triv ((∃ k_1,k_1<=(8:Nat)/\IntKind.i64.wrap ((↑k:Int)+(1:Int))=(↑k_1:Int)/\w'=sAk d k_1)/\(8:Nat)-(IntKind.i64.wrap ((↑k:Int)+(1:Int))).toNat<(8:Nat)-(↑k:Int).toNat))) (by kernel_rfl) ?_
  rw[wrap_succ (by omega)]
  exact tvi ⟨⟨k+1,hlt,rfl,by rw[hw',kw];rfl⟩,by rw[Int.toNat_natCast,Int.toNat_natCast];omega⟩
 rintro⟨i1,w1⟩ hw1
 revert i1 w1
 intro (i1:Int) (w1:List Int) (hw1:w1=sAk d 8)
 refine tr_vc hsp mixed _ _ ?_
 refine vcx (X:=((w1,())=(spl d,()))) (by kernel_rfl) ?_
 rw[hw1,spl,opq_eq]
def spSplit:Nat × Eng.Spec:=(190,fnSpec [.arr 32 bK] [.val (.arr 8 uK)] (fun _=>True) (fun (d,_)=>(spl d,())))
theorem ent_over:enters Tryz.prog 191 Tryz.f191:=ek
def oA (b:List Int) (i:Nat) (a:List Int):List Int:=a.set i (bitOp .xor .u32 (a.getD i 0) (b.getD i 0))
def oAk (a b:List Int) (i:Nat):List Int:=it (oA b) a i
def ovr (a b:List Int):List Int:=opq (oAk a b 8)
def ovS (b:List Int) (g:Int × List Int):St:=mkSt Tryz.f191.ntmps 40 [(2,.is (.one (.ptr 0 0))),(4,.is (.one (.ptr 16 0))),(7,sA .u32 8 b),(8,sI .i64 g.1)] [(16,[.ints .u32 8 (List.replicate 8 0)]),(0,[.ints .u32 8 g.2])]
theorem fn_over:FnOk Tryz.prog 191 [.arr 8 uK,.arr 8 uK] [.val (.arr 8 uK)] noG (fun _=>True) (fun (a,b,_)=>(ovr a b,())):=by
 have hsp:SpecsOk Tryz.prog (sps []):=snl
 refine fn_of_tr (sp:=sps []) ent_over (by decide) (by decide) (by kernel_rfl) ?_
 rintro w M0 ⟨a,b,⟨⟩⟩
 revert a b
 intro (a:List Int) (b:List Int) hw _
 have ha:a.length=8:=hw.1.1
 show Tr _ _ _ _ _ _ _
 refine tr_cut hsp mixed 2 (ovS b (0,a)) True ?_ (fun _=>?_)
 ·refine vcx (X:=((ovS b ((0:Int),a)).triv True)) (by kernel_rfl) ?_
  exact tvi trivial
 refine tr_while hsp mixed noSw (fun σ=>(rdS (.int .i64) 8 σ,rdR uK 0 σ)) (ovS b) (fun g=>∃ k:Nat,k<=8/\g.1=(k:Int)/\g.2=oAk a b k) (fun g=>8-g.1.toNat)
  (fun σ=>(rdS (.int .i64) 8 σ,rdR uK 0 σ)) (ovS b) (fun g=>g.2=oAk a b 8) (0,a) (c:=nthC (codeOf Tryz.f191) 2) (by kernel_rfl) (by kernel_rfl) (le_of_proj (by kernel_rfl) (by kernel_rfl) ?_) ?_ ?_
 ·exact⟨0,by decide,rfl,rfl⟩
 ·rintro⟨i,l⟩ hj
  revert i l
  intro (i:Int) (l:List Int) ⟨k,hk,ei,el⟩
  have ei:i=(k:Int):=ei
  have kl:l=oAk a b k:=el
  subst ei
  refine vcx (X:=((decide ((↑k:Int)<(8:Int))=true->((0:Int)<=(↑k:Int)/\(↑k:Int)<(↑(8:Nat):Int))/\((0:Int)<=(↑k:Int)/\(↑k:Int)<(↑(8:Nat):Int))/\(↑k:Int).toNat<(8:Nat)/\((0:Int)<=(↑k:Int)/\(↑k:Int)<(↑(8:Nat):Int))/\(↑k:Int).toNat<(8:Nat)/\(ovS b (IntKind.i64.wrap ((↑k:Int)+(1:Int)),l.set (↑k:Int).toNat (bitOp BinOp.xor IntKind.u32 (l.getD (↑k:Int).toNat (0:Int)) (b.getD (↑k:Int).toNat (0:Int))))).triv ((∃ k_1,k_1<=(8:Nat)/\IntKind.i64.wrap ((↑k:Int)+(1:Int))=(↑k_1:Int)/\l.set (↑k:Int).toNat (bitOp BinOp.xor IntKind.u32 (l.getD (↑k:Int).toNat (0:Int)) (b.getD (↑k:Int).toNat (0:Int)))=oAk a b k_1)/\(8:Nat)-(IntKind.i64.wrap ((↑k:Int)+(1:Int))).toNat<(8:Nat)-(↑k:Int).toNat))/\(decide ((↑k:Int)<(8:Int))=false->(ovS b ((↑k:Int),l)).triv (l=oAk a b (8:Nat))))) (by kernel_rfl) ?_
  refine⟨fun h=>?_,fun h=>tvi ?_⟩
  ·have h4:k<8:=by have:=of_decide_eq_true h;omega
   rw[wrap_succ (by omega)]
   simp only[Int.toNat_natCast]
   exact⟨⟨by omega,by omega⟩,⟨by omega,by omega⟩,h4,⟨by omega,by omega⟩,h4,tvi ⟨⟨k+1,h4,rfl,by rw[kl];rfl⟩,by omega⟩⟩
  ·have:k=8:=by have:=of_decide_eq_false h;omega
   rw[kl,this]
 rintro⟨i1,w1⟩ hw1
 revert i1 w1
 intro (i1:Int) (w1:List Int) (hw1:w1=oAk a b 8)
 refine tr_vc hsp mixed _ _ ?_
 refine vcx (X:=((w1,())=(ovr a b,()))) (by kernel_rfl) ?_
 rw[hw1,ovr,opq_eq]
def spOver:Nat × Eng.Spec:=(191,fnSpec [.arr 8 uK,.arr 8 uK] [.val (.arr 8 uK)] (fun _=>True) (fun (a,b,_)=>(ovr a b,())))
theorem ent_bytes:enters Tryz.prog 192 Tryz.f192:=ek
def bB (w:List Int) (i j:Nat) (d:List Int):List Int:=d.set (4*i+j) (IntKind.u8.wrap ((w.getD i 0).fdiv (2^min (24-8*j) IntKind.u32.bits)))
def bBk (w:List Int) (i:Nat) (d:List Int) (j:Nat):List Int:=it (fun j d=>bB w i j d) d j
def bAk (w:List Int) (i:Nat):List Int:=it (fun i d=>bBk w i d 4) (List.replicate 32 0) i
def byt (w:List Int):List Int:=opq (bAk w 8)
theorem bBk_len (w:List Int) (i:Nat) (d:List Int):∀ j,(bBk w i d j).length=d.length
 | 0=>rfl
 | j+1=>by show (bB w i j _).length=_;rw[bB,List.length_set];exact bBk_len w i d j
theorem bAk_len (w:List Int):∀ i,(bAk w i).length=32
 | 0=>rfl
 | i+1=>by show (bBk w i _ 4).length=_;rw[bBk_len];exact bAk_len w i
theorem byt_len (w:List Int):(byt w).length=32:=by rw[byt,opq_eq,bAk_len]
def byA (wd:List Int) (g:Int × List Int):St:=mkSt Tryz.f192.ntmps 40 [(2,.is (.one (.ptr 8 0))),(3,.is (.one (.ptr 16 0))),(7,sA .u32 8 wd),(8,sI .i64 g.1)] [(16,[.ints .u8 32 g.2]),(8,[.ints .u8 32 (List.replicate 32 0)])]
def byB (wd:List Int) (i:Nat) (x:Int) (g:Int × List Int):St:=mkSt Tryz.f192.ntmps 40 [(2,.is (.one (.ptr 8 0))),(3,.is (.one (.ptr 16 0))),(4,sI .i64 i),(5,sI .u32 x),(7,sA .u32 8 wd),(8,sI .i64 i),(12,sI .i64 g.1)] [(16,[.ints .u8 32 g.2]),(8,[.ints .u8 32 (List.replicate 32 0)])]
theorem fn_bytes:FnOk Tryz.prog 192 [.arr 8 uK] [.val (.arr 32 bK)] noG (fun _=>True) (fun (w,_)=>(byt w,())):=by
 have hsp:SpecsOk Tryz.prog (sps []):=snl
 refine fn_of_tr (sp:=sps []) ent_bytes (by decide) (by decide) (by kernel_rfl) ?_
 rintro w M0 ⟨wd,⟨⟩⟩
 revert wd
 intro (wd:List Int) hw _
 have hd:wd.length=8:=hw.1.1
 show Tr _ _ _ _ _ _ _
 refine tr_cut hsp mixed 3 (byA wd (0,List.replicate 32 0)) True ?_ (fun _=>?_)
 ·refine vcx (X:=((byA wd ((0:Int),List.replicate (32:Nat) (0:Int))).triv True)) (by kernel_rfl) ?_
  exact tvi trivial
 refine tr_whileT noSw (fun σ=>(rdS (.int .i64) 8 σ,rdR bK 16 σ)) (byA wd) (fun g=>∃ k:Nat,k<=8/\g.1=(k:Int)/\g.2=bAk wd k) (fun g=>8-g.1.toNat)
  (fun σ=>(rdS (.int .i64) 8 σ,rdR bK 16 σ)) (byA wd) (fun g=>g.2=bAk wd 8) (0,List.replicate 32 0) (c:=nthC (codeOf Tryz.f192) 3) (by kernel_rfl) (by kernel_rfl) (le_of_proj (by kernel_rfl) (by kernel_rfl) ?_) ?_ ?_
 ·exact⟨0,by decide,rfl,rfl⟩
 ·rintro⟨i,wl⟩ hj
  revert i wl
  intro (i:Int) (wl:List Int) ⟨k,hk,ei,ew⟩
  have ei:i=(k:Int):=ei
  have kw:wl=bAk wd k:=ew
  subst ei
  refine tr_cut hsp mixed 2 (byA wd ((k:Int),wl)) (k<8) ?_ (fun hlt=>?_)
  ·refine vcx (X:=((decide ((↑k:Int)<(8:Int))=true->(byA wd ((↑k:Int),wl)).triv (k<(8:Nat)))/\(decide ((↑k:Int)<(8:Int))=false->(byA wd ((↑k:Int),wl)).triv (wl=bAk wd (8:Nat))))) (by kernel_rfl) ?_
   refine⟨fun h=>tvi (by have:=of_decide_eq_true h;omega),fun h=>tvi ?_⟩
   have:k=8:=by have:=of_decide_eq_false h;omega
   rw[kw,this]
  refine tr_block (c:=nthC (loopOf (nthC (codeOf Tryz.f192) 3)) 2) (by kernel_rfl) (by kernel_rfl) ?_
  refine tr_cutF hsp mixed 2 (fun σ=>rdS (.int .u32) 5 σ) (fun x=>byB wd k x (0,wl)) (fun x=>x=wd.getD k 0) ?_ ?_
  ·refine vcx (X:=(((0:Int)<=(↑k:Int)/\(↑k:Int)<(↑(8:Nat):Int))/\(byB wd k (wd.getD (↑k:Int).toNat (0:Int)) ((0:Int),wl)).triv (wd.getD (↑k:Int).toNat (0:Int)=wd.getD k (0:Int)))) (by kernel_rfl) ?_
   simp only[Int.toNat_natCast]
   exact⟨⟨by omega,by omega⟩,tvi (by first|exact trivial|rfl)⟩
  intro (x:Int) (hx:x=wd.getD k 0)
  refine tr_while hsp mixed noSw (fun σ=>(rdS (.int .i64) 12 σ,rdR bK 16 σ)) (byB wd k x) (fun g=>∃ j:Nat,j<=4/\g.1=(j:Int)/\g.2=bBk wd k wl j) (fun g=>4-g.1.toNat)
   (fun σ=>rdR bK 16 σ) (fun w=>byA wd ((k:Int),w)) (fun w=>w=bBk wd k wl 4) (0,wl) (c:=nthC (bodyOf (nthC (loopOf (nthC (codeOf Tryz.f192) 3)) 2)) 2) (by kernel_rfl) (by kernel_rfl) (le_of_proj (by kernel_rfl) (by kernel_rfl) ?_) ?_ ?_
  ·exact⟨0,by decide,rfl,rfl⟩
  ·rintro⟨j,wj⟩ hj
   revert j wj
   intro (j:Int) (wj:List Int) ⟨t,ht,ej,ewj⟩
   have ej:j=(t:Int):=ej
   have kwj:wj=bBk wd k wl t:=ewj
   subst ej
   refine vcx (X:=((decide ((↑t:Int)<(4:Int))=true->(0:Int)<=IntKind.i64.wrap ((24:Int)-IntKind.i64.wrap ((8:Int)*(↑t:Int)))/\((0:Int)<=IntKind.i64.wrap (IntKind.i64.wrap ((4:Int)*(↑k:Int))+(↑t:Int))/\IntKind.i64.wrap (IntKind.i64.wrap ((4:Int)*(↑k:Int))+(↑t:Int))<(↑(32:Nat):Int))/\(IntKind.i64.wrap (IntKind.i64.wrap ((4:Int)*(↑k:Int))+(↑t:Int))).toNat<(32:Nat)/\(byB wd k x (IntKind.i64.wrap ((↑t:Int)+(1:Int)),wj.set (IntKind.i64.wrap (IntKind.i64.wrap ((4:Int)*(↑k:Int))+(↑t:Int))).toNat (IntKind.u8.wrap (x.fdiv ((2:Int)^min (IntKind.i64.wrap ((24:Int)-IntKind.i64.wrap ((8:Int)*(↑t:Int)))).toNat IntKind.u32.bits))))).triv ((∃ j,j<=(4:Nat)/\IntKind.i64.wrap ((↑t:Int)+(1:Int))=(↑j:Int)/\wj.set (IntKind.i64.wrap (IntKind.i64.wrap ((4:Int)*(↑k:Int))+(↑t:Int))).toNat (IntKind.u8.wrap (x.fdiv ((2:Int)^min (IntKind.i64.wrap ((24:Int)-IntKind.i64.wrap ((8:Int)*(↑t:Int)))).toNat IntKind.u32.bits)))=bBk wd k wl j)/\(4:Nat)-(IntKind.i64.wrap ((↑t:Int)+(1:Int))).toNat<(4:Nat)-(↑t:Int).toNat))/\(decide ((↑t:Int)<(4:Int))=false->(byA wd ((↑k:Int),wj)).triv (wj=bBk wd k wl (4:Nat))))) (by kernel_rfl) ?_
   refine⟨fun h=>?_,fun h=>tvi ?_⟩
   ·have h4:t<4:=by have:=of_decide_eq_true h;omega
    have e1:IntKind.i64.wrap (IntKind.i64.wrap ((4:Int)*(k:Int))+(t:Int))=((4*k+t:Nat):Int):=by
     rw[wrap_i64' (a:=4*(k:Int)) (by omega) (by omega),wrap_i64' (by omega) (by omega)];omega
    have e2:IntKind.i64.wrap (24-IntKind.i64.wrap ((8:Int)*(t:Int)))=((24-8*t:Nat):Int):=by
     rw[wrap_i64' (a:=8*(t:Int)) (by omega) (by omega),wrap_i64' (by omega) (by omega)];omega
    rw[e1,e2,wrap_succ (by omega)]
    simp only[Int.toNat_natCast]
    exact⟨by omega,⟨by omega,by omega⟩,by omega,tvi ⟨⟨t+1,h4,rfl,by rw[kwj,hx];rfl⟩,by omega⟩⟩
   ·have:t=4:=by have:=of_decide_eq_false h;omega
    rw[kwj,this]
  intro (w':List Int) (hw':w'=bBk wd k wl 4)
  refine tr_nil ?_
  refine tr_vc hsp mixed _ _ ?_
  refine vcx (X:=((byA wd (IntKind.i64.wrap ((↑k:Int)+(1:Int)),w')).triv ((∃ k_1,k_1<=(8:Nat)/\IntKind.i64.wrap ((↑k:Int)+(1:Int))=(↑k_1:Int)/\w'=bAk wd k_1)/\(8:Nat)-(IntKind.i64.wrap ((↑k:Int)+(1:Int))).toNat<(8:Nat)-(↑k:Int).toNat))) (by kernel_rfl) ?_
  rw[wrap_succ (by omega)]
  exact tvi ⟨⟨k+1,hlt,rfl,by rw[hw',kw];rfl⟩,by rw[Int.toNat_natCast,Int.toNat_natCast];omega⟩
 rintro⟨i1,w1⟩ hw1
 revert i1 w1
 intro (i1:Int) (w1:List Int) (hw1:w1=bAk wd 8)
 refine tr_vc hsp mixed _ _ ?_
 refine vcx (X:=((w1,())=(byt wd,()))) (by kernel_rfl) ?_
 rw[hw1,byt,opq_eq]
def spBytes:Nat × Eng.Spec:=(192,fnSpec [.arr 8 uK] [.val (.arr 32 bK)] (fun _=>True) (fun (w,_)=>(byt w,())))
end
end Go.Proofs.YtbeeaekepmnfhaaGreatDoor.xmd
namespace Go.Proofs.YtbeeaekepmnfhaaGreatDoor.xmd
noncomputable section
open Go Go.Eng Go.RowKit Cr sha
abbrev bsl:Kd:=.sl bK
def overS:List Int:=[72,50,67,45,79,86,69,82,83,73,90,69,45,68,83,84,45]
def tagF (tag:List Int):List Int:=match decide (255<tag.length) with
 | true=>dig (overS++tag)
 | false=>tag
def endF (t:List Int):List Int:=[IntKind.u8.wrap t.length]
def fstF (msg t:List Int) (n:Int):List Int:=spl (dig (List.flatten [List.replicate 64 0,msg,[IntKind.u8.wrap (n.fdiv (2^min (8:Nat) IntKind.i64.bits)),IntKind.u8.wrap n,0],t,endF t]))
def nxD (f t:List Int) (i:Nat) (last:List Int):List Int:=dig (List.flatten [byt (ovr f last),[IntKind.u8.wrap ((i:Int)+1)],t,endF t])
def exK (f t:List Int) (i:Nat):List Int × List Int:=it (fun i s=>(s.1++nxD f t i s.2,spl (nxD f t i s.2))) ([],List.replicate 8 0) i
theorem exK_len (f t:List Int):∀ i,(exK f t i).1.length=32*i
 | 0=>rfl
 | i+1=>by show ((exK f t i).1++nxD f t i _).length=_;rw[List.length_append,exK_len f t i,nxD,dig_len];omega
def expF (msg tag:List Int) (n:Int):List Int:=(exK (fstF msg (tagF tag) n) (tagF tag) ((n.toNat+31)/32)).1.take n.toNat
def expo (msg tag:List Int) (n:Int):List Int:=opq (expF msg tag n)
theorem expo_len (msg tag:List Int) (n:Int):(expo msg tag n).length=n.toNat:=by
 rw[expo,opq_eq,expF,List.length_take,exK_len];omega
def exA (msg tag:List Int) (n:Int):List Int × Int:=match decide (n<0)||decide (n>8160) with
 | true=>([],1)
 | false=>(expo msg tag n,0)
def exS (m:List Int) (n:Int) (t:List Int):St:=mkSt Tryz.f152.ntmps 88 [(0,.is (.one (.ro bK m))),(1,.is (.one (.ro bK t))),(2,sI .i64 n)] []
def exS0 (m:List Int) (n:Int) (t:List Int):St:=mkSt Tryz.f152.ntmps 88 [(0,.is (.one (.ro bK m))),(1,.is (.one (.ro bK t))),(2,sI .i64 n),(24,.is (.one (.v (.bool (decide ((t.length:Int)>255))))))] []
theorem tr_eqL {E:Env} {N:Nat} {n r:St->Prop} {x:Nat->St->Prop} {l l':List Code} {σ:St} (h:l=l') (ht:Tr E N l' σ n r x):Tr E N l σ n r x:=h▸ht
def exS1 (m:List Int) (n:Int) (d:List Int):St:=mkSt Tryz.f152.ntmps 160 [(0,.is (.one (.ro bK m))),(1,.is (.one (.sl 128 0 0 32 1))),(2,sI .i64 n)] [(128,[.ints .u8 32 d])]
abbrev Xg:Type:=Int × Nat × Nat × List Int × List Int
def exI (n:Int) (t e f:List Int) (g:Xg):St:=mkSt Tryz.f152.ntmps 296 [(1,.is (.one (.ro bK t))),(2,sI .i64 n),(9,.is (.one (.sl 112 0 0 1 1))),(10,.is (.one (.ptr 232 0))),(11,.is (.one (.sl 264 0 0 g.2.1 1))),(12,.is (.one (.ptr 280 0))),(13,sI .i64 g.1)] [(280,[.ints .u32 8 g.2.2.2.2]),(264,[.ints .u8 g.2.2.1 g.2.2.2.1]),(232,[.ints .u32 8 f]),(112,[.ints .u8 1 e])]
def exJ (n:Int) (t f:List Int) (g:Xg):Prop:=∃ k:Nat,g.1=(k:Int)+1/\g.2.1=32*k/\g.2.1<=g.2.2.1/\g.2.2.2.1.take (32*k)=(exK f t k).1/\g.2.2.2.2=(exK f t k).2/\((32*k:Nat):Int)<n+32
theorem ent_expand:enters Tryz.prog 152 Tryz.f152:=ek
abbrev preEx:HL [bsl,bsl,.int .i64]->Prop:=fun (m,t,_)=>List.length m<=1048576/\List.length t<=1048576
theorem fn_expand:FnOk Tryz.prog 152 [bsl,bsl,.int .i64] [.own bK,.val (.int .i64)] shaG preEx (fun (m,t,n,_)=>((exA m t n).1,(exA m t n).2,())):=by
 have hsp:SpecsOk Tryz.prog (sps [spOf,spSplit,spOver,spBytes]):=spk (fgk fn_of) (spk (fok fn_split) (spk (fok fn_over) (spk (fok fn_bytes) snl)))
 refine fn_of_tr (sp:=sps [spOf,spSplit,spOver,spBytes]) ent_expand (by decide) (by decide) (by kernel_rfl) ?_
 rintro w M0 ⟨m,t,n,⟨⟩⟩
 revert m t n
 intro (m:List Int) (t:List Int) (n:Int) hw hp
 have hm:m.length<=1048576:=hp.1
 have ht:t.length<=1048576:=hp.2
 show Tr _ _ _ _ _ _ _
 have rest:∀ t':List Int,t'.length<=255->0<=n->n<=8160->tagF t=t'->Tr ⟨Tryz.prog,sps [spOf,spSplit,spOver,spBytes],⟨w,[],shaG,M0⟩⟩ Tryz.f152.ntmps (List.drop 5 (codeOf Tryz.f152)) (exS m n t') (retK ⟨Tryz.prog,sps [spOf,spSplit,spOver,spBytes],⟨w,[],shaG,M0⟩⟩ Tryz.f152 (post [.own bK,.val (.int .i64)] ((exA m t n).1,(exA m t n).2,()))) (retK ⟨Tryz.prog,sps [spOf,spSplit,spOver,spBytes],⟨w,[],shaG,M0⟩⟩ Tryz.f152 (post [.own bK,.val (.int .i64)] ((exA m t n).1,(exA m t n).2,()))) (fun _ _=>False):=by
  intro t' ht' hn0 hn1 htag
  refine tr_cutF hsp mixed 5 (fun σ=>(rdR uK 232 σ,rdR bK 112 σ,rdR bK 264 σ)) (fun g=>exI n t' g.2.1 g.1 (1,0,(IntKind.i64.wrap (n+32)).toNat,g.2.2,List.replicate 8 0)) (fun g=>g.1=fstF m t' n/\g.2.1=endF t') ?_ ?_
  ·refine vcx (X:=(((0:Int)<=(64:Int)/\(64:Int)<=(64:Int)/\(↑(1:Nat):Int)*(64:Int)<=(281474976710656:Int)/\(64:Int)<=(9223372036854775807:Int))/\(0:Int)<=(8:Int)/\(∀ (g:Nat) (s:Sigma Car),shaG g=some s->Decidable.rec (fun h=>(fun x=>if g=(1:Nat) then some ⟨Kd.arr (64:Nat) uK,rootsL⟩ else none) h) (fun h=>(fun x=>some ⟨Kd.arr (8:Nat) uK,firstL⟩) h) (instDecidableEqNat g (0:Nat))=some s)/\0+64<=64/\0+3<=3/\0+1<=1/\preOf ([List.take 64 (List.replicate (64:Nat) (0:Int)),m,List.take 3 [IntKind.u8.wrap (n.fdiv ((2:Int)^min (8:Nat) IntKind.i64.bits)),IntKind.u8.wrap n,(0:Int)],t',List.take 1 [IntKind.u8.wrap (↑t'.length:Int)]],())/\True/\((0:Int)<=(0:Int)/\(0:Int)<=IntKind.i64.wrap (n+(32:Int))/\(↑(1:Nat):Int)*IntKind.i64.wrap (n+(32:Int))<=(281474976710656:Int)/\IntKind.i64.wrap (n+(32:Int))<=(9223372036854775807:Int))/\(exI n t' ((spl (dig [List.take 64 (List.replicate (64:Nat) (0:Int)),m,List.take 3 [IntKind.u8.wrap (n.fdiv ((2:Int)^min (8:Nat) IntKind.i64.bits)),IntKind.u8.wrap n,(0:Int)],t',List.take 1 [IntKind.u8.wrap (↑t'.length:Int)]].flatten,()).fst,()).fst,[IntKind.u8.wrap (↑t'.length:Int)],List.replicate (IntKind.i64.wrap (n+(32:Int))).toNat (0:Int)).snd.fst ((spl (dig [List.take 64 (List.replicate (64:Nat) (0:Int)),m,List.take 3 [IntKind.u8.wrap (n.fdiv ((2:Int)^min (8:Nat) IntKind.i64.bits)),IntKind.u8.wrap n,(0:Int)],t',List.take 1 [IntKind.u8.wrap (↑t'.length:Int)]].flatten,()).fst,()).fst,[IntKind.u8.wrap (↑t'.length:Int)],List.replicate (IntKind.i64.wrap (n+(32:Int))).toNat (0:Int)).fst ((1:Int),(0:Nat),(IntKind.i64.wrap (n+(32:Int))).toNat,((spl (dig [List.take 64 (List.replicate (64:Nat) (0:Int)),m,List.take 3 [IntKind.u8.wrap (n.fdiv ((2:Int)^min (8:Nat) IntKind.i64.bits)),IntKind.u8.wrap n,(0:Int)],t',List.take 1 [IntKind.u8.wrap (↑t'.length:Int)]].flatten,()).fst,()).fst,[IntKind.u8.wrap (↑t'.length:Int)],List.replicate (IntKind.i64.wrap (n+(32:Int))).toNat (0:Int)).snd.snd,List.replicate (8:Nat) (0:Int))).triv (spl (dig [List.take 64 (List.replicate (64:Nat) (0:Int)),m,List.take 3 [IntKind.u8.wrap (n.fdiv ((2:Int)^min (8:Nat) IntKind.i64.bits)),IntKind.u8.wrap n,(0:Int)],t',List.take 1 [IntKind.u8.wrap (↑t'.length:Int)]].flatten)=fstF m t' n/\[IntKind.u8.wrap (↑t'.length:Int)]=endF t'))) (by kernel_rfl) ?_
   have e1:IntKind.i64.wrap (n+32)=n+32:=wrap_i64' (by omega) (by omega)
   have e2:List.take 64 (List.replicate 64 (0:Int))=List.replicate 64 0:=by rw[List.take_of_length_le (by simp)]
   have e3:∀ a b c:Int,List.take 3 [a,b,c]=[a,b,c]:=fun _ _ _=>rfl
   have e4:∀ a:Int,List.take 1 [a]=[a]:=fun _=>rfl
   rw[e1,e2,e3,e4]
   refine⟨⟨by decide,by decide,by decide,by decide⟩,by decide,fun _ _ h=>h,by decide,by decide,by decide,⟨?_,by show 5<=_;decide⟩,trivial,⟨by decide,by omega,by omega,by omega⟩,tvi ⟨rfl,rfl⟩⟩
   show (List.flatten [List.replicate 64 (0:Int),m,[_,_,0],t',[_]]).length<=1099511627776
   simp only[List.flatten_cons,List.flatten_nil,List.length_append,List.length_replicate,List.length_cons,List.length_nil]
   omega
  rintro⟨f,e,x0⟩ ⟨hf,he⟩
  revert f e x0
  intro (f:List Int) (e:List Int) (x0:List Int) (hf:f=fstF m t' n) (he:e=endF t')
  refine tr_while hsp mixed (fun σ=>[(264,rdI 11 σ)]) (fun σ=>(rdS (.int .i64) 13 σ,rdL 11 σ,rdN 264 σ,rdR bK 264 σ,rdR uK 280 σ)) (exI n t' e f) (exJ n t' f) (fun g=>n.toNat-g.2.1)
   (fun σ=>(rdS (.int .i64) 13 σ,rdL 11 σ,rdN 264 σ,rdR bK 264 σ,rdR uK 280 σ)) (exI n t' e f) (fun g=>exJ n t' f g/\n<=(g.2.1:Int)) (1,0,(IntKind.i64.wrap (n+32)).toNat,x0,List.replicate 8 0) (c:=nthC (codeOf Tryz.f152) 10) (by kernel_rfl) (by kernel_rfl) (le_of_proj (by kernel_rfl) (by kernel_rfl) ?_) ?_ ?_
  ·refine⟨0,rfl,rfl,Nat.zero_le _,rfl,rfl,?_⟩
   show ((0:Nat):Int)<n+32
   omega
  ·rintro⟨i,L,N,xs,last⟩ hj
   revert i xs last
   intro (i:Int) (xs:List Int) (last:List Int) (hj:exJ n t' f (i,L,N,xs,last))
   obtain⟨k,ei,eL,hLN,hx,hl,hk⟩:=hj
   have ei:i=(k:Int)+1:=ei
   have eL:L=32*k:=eL
   have hLN:L<=N:=hLN
   have hx:xs.take (32*k)=(exK f t' k).1:=hx
   have hl:last=(exK f t' k).2:=hl
   have hbl:=byt_len (ovr f last)
   refine vcx (X:=((decide ((↑L:Int)<n)=true->True/\True/\(∀ (g:Nat) (s:Sigma Car),shaG g=some s->Decidable.rec (fun h=>(fun x=>if g=(1:Nat) then some ⟨Kd.arr (64:Nat) uK,rootsL⟩ else none) h) (fun h=>(fun x=>some ⟨Kd.arr (8:Nat) uK,firstL⟩) h) (instDecidableEqNat g (0:Nat))=some s)/\0+32<=32/\0+1<=1/\0+1<=1/\preOf ([List.take 32 (byt (ovr f last)),List.take 1 [IntKind.u8.wrap i],t',List.take 1 e],())/\0+32<=32/\L<=N/\(L+(32:Nat))*(1:Nat)<=(140737488355328:Nat)/\L+(32:Nat)<=(4611686018427387904:Nat)/\True/\(exI n t' e f (IntKind.i64.wrap (i+(1:Int)),L+(32:Nat),L+(32:Nat),List.take L xs++List.take 32 (dig [List.take 32 (byt (ovr f last,()).fst,()).fst,List.take 1 [IntKind.u8.wrap i],t',List.take 1 e].flatten,()).fst,(spl (dig [List.take 32 (byt (ovr f last,()).fst,()).fst,List.take 1 [IntKind.u8.wrap i],t',List.take 1 e].flatten,()).fst,()).fst)).triv (exJ n t' f (IntKind.i64.wrap (i+(1:Int)),L+(32:Nat),L+(32:Nat),List.take L xs++List.take 32 (dig [List.take 32 (byt (ovr f last)),List.take 1 [IntKind.u8.wrap i],t',List.take 1 e].flatten),spl (dig [List.take 32 (byt (ovr f last)),List.take 1 [IntKind.u8.wrap i],t',List.take 1 e].flatten))/\n.toNat-(L+(32:Nat))<n.toNat-L))/\(decide ((↑L:Int)<n)=false->(exI n t' e f (i,L,N,xs,last)).triv (exJ n t' f (i,L,N,xs,last)/\n<=(↑L:Int))))) (by kernel_rfl) ?_
   have e5:List.take 32 (byt (ovr f last))=byt (ovr f last):=List.take_of_length_le (by omega)
   have e4:∀ a:Int,List.take 1 [a]=[a]:=fun _=>rfl
   have e6:List.take 1 e=e:=by rw[he];rfl
   have e7:∀ l,List.take 32 (dig l)=dig l:=fun l=>List.take_of_length_le (by rw[dig_len];omega)
   refine⟨fun h=>?_,fun h=>tvi ⟨⟨k,ei,eL,hLN,hx,hl,hk⟩,by have:=of_decide_eq_false h;omega⟩⟩
   have hLn:(L:Int)<n:=of_decide_eq_true h
   have e8:dig (List.flatten [byt (ovr f last),[IntKind.u8.wrap i],t',e])=nxD f t' k (exK f t' k).2:=by
    rw[nxD,hl,ei,he]
   rw[e5,e4,e6,e8]
   refine⟨trivial,trivial,fun _ _ h=>h,by decide,by decide,by decide,⟨?_,by show 4<=_;decide⟩,by decide,hLN,by omega,by omega,trivial,?_⟩
   ·show (List.flatten [byt (ovr f last),[IntKind.u8.wrap i],t',e]).length<=1099511627776
    rw[he]
    simp only[List.flatten_cons,List.flatten_nil,List.length_append,List.length_cons,List.length_nil,hbl,endF]
    omega
   ·refine tvi ⟨⟨k+1,?_,?_,Nat.le_refl _,?_,?_,?_⟩,by omega⟩
    ·show IntKind.i64.wrap (i+1)=_
     rw[ei,wrap_i64' (by omega) (by omega)];omega
    ·show L+32=_
     omega
    ·show List.take (32*(k+1)) (List.take L xs++List.take 32 (nxD f t' k (exK f t' k).2))=_
     rw[nxD,e7,List.take_of_length_le (by rw[List.length_append,List.length_take,dig_len];omega),eL,hx]
     rfl
    ·rfl
    ·show ((32*(k+1):Nat):Int)<n+32
     omega
  rintro⟨i,L,N,xs,last⟩ hj
  revert i xs last
  intro (i:Int) (xs:List Int) (last:List Int) (hj:exJ n t' f (i,L,N,xs,last)/\n<=(L:Int))
  refine tr_vc hsp mixed _ _ ?_
  obtain⟨⟨k,ei,eL,hLN,hx,hl,hk⟩,hnL⟩:=hj
  have eL:L=32*k:=eL
  have hLN:L<=N:=hLN
  have hx:xs.take (32*k)=(exK f t' k).1:=hx
  have hk:((32*k:Nat):Int)<n+32:=hk
  have hnL:n<=(L:Int):=hnL
  have hA:exA m t n=(expo m t n,0):=by
   rw[exA,decide_eq_false (by omega),decide_eq_false (by omega)];rfl
  have hkk:(n.toNat+31)/32=k:=by omega
  have hE:xs.take n.toNat=expo m t n:=by
   rw[expo,opq_eq,expF,htag,hkk,<- hf,<- hx,List.take_take,Nat.min_eq_left (by omega)]
  rw[hA]
  refine vcx (X:=(((0:Int)<=n/\n<=n/\n<=(↑L:Int))/\(0:Nat)+(n-(0:Int)).toNat<=N/\(List.take (n-(0:Int)).toNat xs,(0:Int),())=(expo m t n,(0:Int),()))) (by kernel_rfl) ?_
  have e1:(n-0).toNat=n.toNat:=by omega
  rw[e1,hE]
  exact⟨⟨by omega,by omega,hnL⟩,by omega,rfl⟩
 refine tr_cut hsp mixed 4 (exS0 m n t) (0<=n/\n<=8160) ?_ (fun hn=>?_)
 ·refine vcx (X:=((decide (n<(0:Int))=true->([],(1:Int),())=((exA m t n).fst,(exA m t n).snd,()))/\(decide (n<(0:Int))=false->(decide (n>(8160:Int))=true->([],(1:Int),())=((exA m t n).fst,(exA m t n).snd,()))/\(decide (n>(8160:Int))=false->(exS0 m n t).triv ((0:Int)<=n/\n<=(8160:Int)))))) (by kernel_rfl) ?_
  refine⟨fun h=>?_,fun h=>⟨fun h2=>?_,fun h2=>tvi ⟨by have:=of_decide_eq_false h;omega,by have:=of_decide_eq_false h2;omega⟩⟩⟩
  ·rw[exA,h];rfl
  ·rw[exA,h,h2];rfl
 refine tr_cond (c:=nthC (codeOf Tryz.f152) 4) (decide ((t.length:Int)>255)) (by kernel_rfl) (by kernel_rfl) (by kernel_rfl) (fun hT=>?_) (fun hT=>?_)
 ·have hT:255<t.length:=by have:=of_decide_eq_true hT;omega
  refine tr_cutF hsp mixed 2 (fun σ=>rdR bK 128 σ) (exS1 m n) (fun d=>d=dig (overS++t)) ?_ ?_
  ·refine vcx (X:=((∀ (g:Nat) (s:Sigma Car),shaG g=some s->Decidable.rec (fun h=>(fun x=>if g=(1:Nat) then some ⟨Kd.arr (64:Nat) uK,rootsL⟩ else none) h) (fun h=>(fun x=>some ⟨Kd.arr (8:Nat) uK,firstL⟩) h) (instDecidableEqNat g (0:Nat))=some s)/\(0:Nat)+(nat_lit 16+(1:Nat))<=(17:Nat)/\preOf ([List.take (nat_lit 16+(1:Nat)) [(72:Int),(50:Int),(67:Int),(45:Int),(79:Int),(86:Int),(69:Int),(82:Int),(83:Int),(73:Int),(90:Int),(69:Int),(45:Int),(68:Int),(83:Int),(84:Int),(45:Int)],t],())/\(exS1 m n (dig [List.take (nat_lit 16+(1:Nat)) [(72:Int),(50:Int),(67:Int),(45:Int),(79:Int),(86:Int),(69:Int),(82:Int),(83:Int),(73:Int),(90:Int),(69:Int),(45:Int),(68:Int),(83:Int),(84:Int),(45:Int)],t].flatten,()).fst).triv (dig [List.take (nat_lit 16+(1:Nat)) [(72:Int),(50:Int),(67:Int),(45:Int),(79:Int),(86:Int),(69:Int),(82:Int),(83:Int),(73:Int),(90:Int),(69:Int),(45:Int),(68:Int),(83:Int),(84:Int),(45:Int)],t].flatten=dig (overS++t)))) (by kernel_rfl) ?_
   refine⟨fun _ _ h=>h,by decide,⟨?_,by show 2<=_;decide⟩,tvi ?_⟩
   ·show (List.flatten [overS,t]).length<=1099511627776
    simp only[List.flatten_cons,List.flatten_nil,List.length_append,List.length_nil]
    have:overS.length=17:=rfl
    omega
   ·show dig (List.flatten [overS,t])=_
    simp only[List.flatten_cons,List.flatten_nil,List.append_nil]
  intro (d:List Int) (hd:d=dig (overS++t))
  have hdl:d.length=32:=by rw[hd,dig_len]
  refine tr_frzI 1 128 32 1 .u8 d (by kernel_rfl) (by kernel_rfl) hdl ?_
  refine tr_le (τ:=exS m n d) (K:=True) (le_of_proj (by kernel_rfl) (by kernel_rfl) trivial) (fun _=>?_)
  exact tr_eqL (by kernel_rfl) (rest d (by omega) hn.1 hn.2 (by rw[tagF,decide_eq_true hT,hd]))
 ·have hT:¬ 255<t.length:=by have:=of_decide_eq_false hT;omega
  refine tr_le (τ:=exS m n t) (K:=True) (le_of_proj (by kernel_rfl) (by kernel_rfl) trivial) (fun _=>?_)
  exact tr_eqL (by kernel_rfl) (rest t (by omega) hn.1 hn.2 (by rw[tagF,decide_eq_false hT]))
end
end Go.Proofs.YtbeeaekepmnfhaaGreatDoor.xmd
