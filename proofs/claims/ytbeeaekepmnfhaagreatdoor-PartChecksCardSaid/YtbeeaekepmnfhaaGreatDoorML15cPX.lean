import Derived.Test.YtbeeaekepmnfhaaGreatDoorML15cPW
set_option maxRecDepth 100000
namespace Go.Proofs.YtbeeaekepmnfhaaGreatDoor.part
open Go Go.Eng Go.RowKit Cr
theorem ent_clone:enters Tryz.prog 48 Tryz.f48:=ek
abbrev preClone:HL [.sl partK]->Prop:=fun (c,_)=>List.length c<1048576
theorem fn_clone:FnOk Tryz.prog 48 [.sl partK] [.own partK] noG preClone (fun (c,_)=>(c,())):=by
 have hsp:SpecsOk Tryz.prog (sps []):=snl
 refine fn_of_trN (sp:=sps []) ent_clone (by decide) (by decide) (by kernel_rfl) ?_ ?_
 ·rintro w M0 ⟨⟩ _ hp
  show Tr _ _ _ _ _ _ _
  refine tr_vc hsp mixed _ _ ?_
  refine vcx (X:=((([]:List PT),())=(([]:List PT),()))) (by kernel_rfl) rfl
 ·rintro w M0 c ⟨⟩ _ _ hp
  revert c
  intro (c:List PT) _ hp
  have hp:c.length<1048576:=hp
  show Tr _ _ _ _ _ _ _
  refine tr_vc hsp mixed _ _ ?_
  refine vcx (X:=((0:Nat)<=(0:Nat)/\((0:Nat)+c.length)*(200:Nat)<=(140737488355328:Nat)/\(0:Nat)+c.length<=(4611686018427387904:Nat)/\(0:Nat)+((0:Nat)+c.length)<=(0:Nat)+c.length/\(List.take ((0:Nat)+c.length) (List.take 0 []++c),())=(c,()))) (by kernel_rfl) ?_
  rw[List.take_zero,List.nil_append,Nat.zero_add,List.take_length]
  exact⟨Nat.le_refl _,by omega,by omega,by omega,rfl⟩
noncomputable def spClone:Nat × Eng.Spec:=(48,fnSpec [.sl partK] [.own partK] preClone (fun (c,_)=>(c,())))
theorem fn_clone0:FnOk Tryz.prog 48 [.sl partK] [.val (.sl partK)] noG preClone (fun (c,_)=>(c,())):=by
 have hsp:SpecsOk Tryz.prog (sps []):=snl
 refine fn_of_trN (sp:=sps []) ent_clone (by decide) (by decide) (by kernel_rfl) ?_ ?_
 ·rintro w M0 ⟨⟩ _ hp
  show Tr _ _ _ _ _ _ _
  refine tr_vc hsp mixed _ _ ?_
  refine vcx (X:=((([]:List PT),())=(([]:List PT),()))) (by kernel_rfl) rfl
 ·rintro w M0 c ⟨⟩ _ _ hp
  revert c
  intro (c:List PT) _ hp
  have hp:c.length<1048576:=hp
  show Tr _ _ _ _ _ _ _
  refine tr_vc hsp mixed _ _ ?_
  refine vcx (X:=((0:Nat)<=(0:Nat)/\((0:Nat)+c.length)*(200:Nat)<=(140737488355328:Nat)/\(0:Nat)+c.length<=(4611686018427387904:Nat)/\(0:Nat)+((0:Nat)+c.length)<=(0:Nat)+c.length/\(List.take ((0:Nat)+c.length) (List.take 0 []++c),())=(c,()))) (by kernel_rfl) ?_
  rw[List.take_zero,List.nil_append,Nat.zero_add,List.take_length]
  exact⟨Nat.le_refl _,by omega,by omega,by omega,rfl⟩
noncomputable def spClone0:Nat × Eng.Spec:=(48,fnSpec [.sl partK] [.val (.sl partK)] preClone (fun (c,_)=>(c,())))
end Go.Proofs.YtbeeaekepmnfhaaGreatDoor.part
namespace Go.Proofs.YtbeeaekepmnfhaaGreatDoor.part
noncomputable section
open Go Go.Eng Go.RowKit Cr
def i0I (_:Unit):St:=mkSt Tryz.f129.ntmps 24 [(2,sI .i64 0),(8,sI .i64 1)] []
abbrev preIns0:HL [.sl partK,iK,iK,fnK]->Prop:=fun (_,a,b,_)=>(a:Int)=0/\(b:Int)=0
theorem fn_ins0:FnOk Tryz.prog 129 [.sl partK,iK,iK,fnK] [] noG preIns0 (fun _=>()):=by
 have hsp:SpecsOk Tryz.prog (sps []):=snl
 refine fn_of_tr (sp:=sps []) ent_ins (by decide) (by decide) (by kernel_rfl) ?_
 rintro w M0 ⟨xs,a,b,q,⟨⟩⟩
 revert xs a b q
 intro (xs:List PT) (a:Int) (b:Int) (q:Unit) _ ⟨ha,hb⟩
 have ha:a=0:=ha
 have hb:b=0:=hb
 subst ha hb
 show Tr _ _ _ _ _ _ _
 refine tr_cut hsp mixed 1 (i0I ()) True ?_ (fun _=>?_)
 ·refine vcx (X:=((i0I ()).triv True)) (by kernel_rfl) ?_
  exact tvi trivial
 refine tr_whileT noSw (fun _=>()) i0I (fun _=>True) (fun _=>0)
  (fun _=>()) i0I (fun _=>True) () (c:=nthC (codeOf Tryz.f129) 1) (by kernel_rfl) (by kernel_rfl) (le_of_proj (by kernel_rfl) (by kernel_rfl) ?_) ?_ ?_
 ·trivial
 ·rintro⟨⟩ _
  refine tr_cut hsp mixed 2 (i0I ()) False ?_ (fun h=>h.elim)
  refine vcx (X:=((decide ((1:Int)<(0:Int))=true->(i0I ()).triv False)/\(decide ((1:Int)<(0:Int))=false->(i0I ()).triv True))) (by kernel_rfl) ?_
  exact⟨fun h=>absurd h (by decide),fun _=>tvi trivial⟩
 rintro⟨⟩ _
 refine tr_vc hsp mixed _ _ ?_
 refine vcx (X:=(()=())) (by kernel_rfl) ?_
 rfl
def spIns0:Nat × Eng.Spec:=(129,fnSpec [.sl partK,iK,iK,fnK] [] preIns0 (fun _=>()))
def p0I (xs:List PT) (q:Int) (_:Unit):St:=mkSt Tryz.f89.ntmps 16 [(0,.is (.one (.ro partK xs))),(1,sI .i64 0),(2,sI .i64 0),(3,sI .i64 q),(4,fnC)] []
abbrev prePdq0:HL [.sl partK,iK,iK,iK,fnK]->Prop:=fun (_,a,b,_)=>(a:Int)=0/\(b:Int)=0
theorem fn_pdq0:FnOk Tryz.prog 89 [.sl partK,iK,iK,iK,fnK] [] noG prePdq0 (fun _=>()):=by
 have hsp:SpecsOk Tryz.prog (sps [spIns0]):=spk (fok fn_ins0) snl
 refine fn_of_tr (sp:=sps [spIns0]) ent_pdq (by decide) (by decide) (by kernel_rfl) ?_
 rintro w M0 ⟨xs,a,b,q,f,⟨⟩⟩
 revert xs a b q f
 intro (xs:List PT) (a:Int) (b:Int) (q:Int) (f:Unit) _ ⟨ha,hb⟩
 have ha:a=0:=ha
 have hb:b=0:=hb
 subst ha hb
 show Tr _ _ _ _ _ _ _
 refine tr_cut hsp mixed 2 (p0I xs q ()) True ?_ (fun _=>?_)
 ·refine vcx (X:=((p0I xs q ()).triv True)) (by kernel_rfl) ?_
  exact tvi trivial
 refine tr_whileT noSw (fun _=>()) (p0I xs q) (fun _=>True) (fun _=>0)
  (fun _=>()) (p0I xs q) (fun _=>False) () (c:=nthC (codeOf Tryz.f89) 2) (by kernel_rfl) (by kernel_rfl) (le_of_proj (by kernel_rfl) (by kernel_rfl) ?_) ?_ ?_
 ·trivial
 ·rintro⟨⟩ _
  refine tr_block (c:=nthC (loopOf (nthC (codeOf Tryz.f89) 2)) 0) (by kernel_rfl) (by kernel_rfl) ?_
  refine tr_cut hsp mixed 3 (p0I xs q ()) False ?_ (fun h=>h.elim)
  refine vcx (X:=((decide (IntKind.i64.wrap ((0:Int)-(0:Int))<=(12:Int))=true->preIns0 (xs,(0:Int),(0:Int),(),())/\()=())/\(decide (IntKind.i64.wrap ((0:Int)-(0:Int))<=(12:Int))=false->(p0I xs q ()).triv False))) (by kernel_rfl) ?_
  exact⟨fun _=>⟨⟨rfl,rfl⟩,rfl⟩,fun h=>absurd h (by decide)⟩
 ·rintro _ h
  exact absurd h id
def spPdq0:Nat × Eng.Spec:=(89,fnSpec [.sl partK,iK,iK,iK,fnK] [] prePdq0 (fun _=>()))
abbrev preSort0:HL [.sl partK,fnK]->Prop:=fun (xs,_)=>List.length xs=0
theorem fn_sort0:FnOk Tryz.prog 49 [.sl partK,fnK] [] noG preSort0 (fun _=>()):=by
 have hsp:SpecsOk Tryz.prog (sps [spLen,spPdq0]):=spk (fok fn_len) (spk (fok fn_pdq0) snl)
 refine fn_of_tr (sp:=sps [spLen,spPdq0]) ent_sort (by decide) (by decide) (by kernel_rfl) ?_
 rintro w M0 ⟨xs,f,⟨⟩⟩
 revert xs f
 intro (xs:List PT) (f:Unit) _ hl
 have hl:xs.length=0:=hl
 show Tr _ _ _ _ _ _ _
 refine tr_vc hsp mixed _ _ ?_
 refine vcx (X:=(((0:Int)<=IntKind.u64.wrap (↑xs.length:Int)/\IntKind.u64.wrap (↑xs.length:Int)<=(12:Int))/\prePdq0 (xs,(0:Int),(↑xs.length:Int),lenT (IntKind.u64.wrap (↑xs.length:Int)),(),())/\()=())) (by kernel_rfl) ?_
 have e:IntKind.u64.wrap (xs.length:Int)=0:=by rw[hl];decide
 rw[e]
 exact⟨⟨by decide,by decide⟩,⟨rfl,by show ((xs.length:Nat):Int)=0;omega⟩,rfl⟩
def spSort0:Nat × Eng.Spec:=(49,fnSpec [.sl partK,fnK] [] preSort0 (fun _=>()))
end
end Go.Proofs.YtbeeaekepmnfhaaGreatDoor.part
namespace Go.Proofs.YtbeeaekepmnfhaaGreatDoor.part
noncomputable section
open Go Go.Eng Go.RowKit Cr poly
abbrev z2:(Fp × Fp) × (Fp × Fp):=((0,0),(0,0))
def jn (m:Nat) (ss:List PT):((Fp × Fp) × (Fp × Fp)) × Int × Unit :=
 if scn none (ss.map keyP)=0 then (if m=0\/ss.length<m then (z2,32,()) else ((mixS ((ss.take m).map keyP) ((ss.take m).map Prod.snd)).1,(mixS ((ss.take m).map keyP) ((ss.take m).map Prod.snd)).2,()))
 else (z2,scn none (ss.map keyP),())
theorem scn_step {ks:List Int} {k:Nat} (hk:k<ks.length) (q:Option Int):scn q (ks.drop k)=if memI (ks.getD k 0)=false then 34 else if q=some (ks.getD k 0) then 33 else scn (some (ks.getD k 0)) (ks.drop (k+1)):=by
 have e:ks.getD k 0=ks[k]:=by rw[List.getD_eq_getElem?_getD,List.getElem?_eq_getElem hk];rfl
 rw[List.drop_eq_getElem_cons hk,e,scn]
theorem scn0:∀ {l:List Int} {q:Option Int},scn q l=0->∀ x∈l,memI x=true
 | [],_,_,x,hx=>by cases hx
 | y::l,q,h,x,hx=>by
  unfold scn at h
  by_cases h1:memI y=false
  ·rw[if_pos h1] at h;cases h
  ·rw[if_neg h1] at h
   by_cases h2:q=some y
   ·rw[if_pos h2] at h;cases h
   ·rw[if_neg h2] at h
    rcases List.mem_cons.1 hx with rfl|hx
    ·simpa using h1
    ·exact scn0 h x hx
theorem set_getD {α:Type} {l:List α} {k:Nat} (hk:k<l.length) (v z:α) (j:Nat):(l.set k v).getD j z=if j=k then v else l.getD j z:=by
 simp only[List.getD_eq_getElem?_getD,List.getElem?_set]
 by_cases h:j=k
 ·subst h;simp[hk]
 ·rw[if_neg (fun e=>h e.symm),if_neg h]
theorem ext_map {α β:Type} {ss:List α} {zα:α} {f:α->β} {zβ:β} {m:Nat} {xs:List β} (hm:m<=ss.length) (hl:xs.length=m) (h:∀ j,j<m->xs.getD j zβ=f (ss.getD j zα)):xs=(ss.take m).map f:=by
 refine List.ext_getElem (by rw[List.length_map,List.length_take];omega) fun j h1 h2=>?_
 have:=h j (by omega)
 rw[List.getD_eq_getElem?_getD,List.getD_eq_getElem?_getD,List.getElem?_eq_getElem h1,List.getElem?_eq_getElem (by omega)] at this
 simpa using this
def prv (ks:List Int):Nat->Option Int
 | 0=>none
 | k+1=>some (ks.getD k 0)
theorem ent_join:enters Tryz.prog 17 Tryz.f17:=ek
def j0I (c:List (Fp × Fp)) (ps:List PT) (_:Unit):St:=mkSt Tryz.f17.ntmps 80 [(0,.is (.one (.ro pt1 c))),(4,.is (.one (.ptr 0 0))),(6,.is (.one (.ro partK ps))),(17,sI .i64 0),(18,sI .i64 0)] [(0,g2.pc (0,0))]
theorem fn_join0:FnOk Tryz.prog 17 [.sl pt1,.sl partK] [.val pt2,.val iK] noG (fun (_,ps,_)=>List.length ps=0) (fun _=>(z2,32,())):=by
 have hsp:SpecsOk Tryz.prog (sps [spClone0,spSort0]):=spk (fok fn_clone0) (spk (fok fn_sort0) snl)
 refine fn_of_tr (sp:=sps [spClone0,spSort0]) ent_join (by decide) (by decide) (by kernel_rfl) ?_
 rintro w M0 ⟨c,ps,⟨⟩⟩
 revert c ps
 intro (c:List (Fp × Fp)) (ps:List PT) _ hl
 have hl:ps.length=0:=hl
 have hn:ps=[]:=List.eq_nil_of_length_eq_zero hl
 show Tr _ _ _ _ _ _ _
 refine tr_cutF hsp mixed 4 (fun σ=>rdS iK 17 σ) (fun n=>mkSt Tryz.f17.ntmps 80 [(0,.is (.one (.ro pt1 c))),(4,.is (.one (.ptr 0 0))),(6,.is (.one (.ro partK ps))),(17,sI .i64 n),(18,sI .i64 0)] [(0,g2.pc (0,0))]) (fun n=>n=0) ?_ ?_
 ·refine vcx (X:=(preClone (ps,())/\preSort0 (ps,(),())/\(mkSt Tryz.f17.ntmps (80:Nat) [((0:Nat),SV.is (TV.one (Cell.ro pt1 c))),((4:Nat),SV.is (TV.one (Cell.ptr (0:Nat) (0:Nat)))),((6:Nat),SV.is (TV.one (Cell.ro partK ps))),((17:Nat),sI IntKind.i64 (↑(ps,()).fst.length:Int)),((18:Nat),sI IntKind.i64 (0:Int))] [((0:Nat),g2.pc ((0:F2),(0:F2)))]).triv ((↑ps.length:Int)=(0:Car iK)))) (by kernel_rfl) ?_
  exact⟨by show ps.length<_;omega,hl,tvi (by show (ps.length:Int)=0;omega)⟩
 intro (n:Int) (hn:n=0)
 subst hn
 refine tr_whileT noSw (fun _=>()) (j0I c ps) (fun _=>True) (fun _=>0)
  (fun _=>()) (j0I c ps) (fun _=>True) () (c:=nthC (codeOf Tryz.f17) 4) (by kernel_rfl) (by kernel_rfl) (le_of_proj (by kernel_rfl) (by kernel_rfl) ?_) ?_ ?_
 ·trivial
 ·rintro⟨⟩ _
  refine tr_cut hsp mixed 2 (j0I c ps ()) False ?_ (fun h=>h.elim)
  refine vcx (X:=((decide ((0:Int)<(0:Int))=true->(j0I c ps ()).triv False)/\(decide ((0:Int)<(0:Int))=false->(j0I c ps ()).triv True))) (by kernel_rfl) ?_
  exact⟨fun h=>absurd h (by decide),fun _=>tvi trivial⟩
 rintro⟨⟩ _
 refine tr_cut hsp mixed 2 (j0I c ps ()) False ?_ (fun h=>h.elim)
 refine vcx (X:=((((↑c.length:Int)==(0:Int))=true->((((0:Fp),(0:Fp)),(0:Fp),(0:Fp)),(32:Int),())=(z2,(32:Int),()))/\(((↑c.length:Int)==(0:Int))=false->(decide ((↑ps.length:Int)<(↑c.length:Int))=true->((((0:Fp),(0:Fp)),(0:Fp),(0:Fp)),(32:Int),())=(z2,(32:Int),()))/\(decide ((↑ps.length:Int)<(↑c.length:Int))=false->(j0I c ps ()).triv False)))) (by kernel_rfl) ?_
 refine⟨fun _=>rfl,fun h1=>⟨fun _=>rfl,fun h2=>?_⟩⟩
 have h1:¬ (c.length:Int)=0:=fun e=>by rw[e] at h1;cases h1
 have h2:=of_decide_eq_false h2
 omega
def jI (c:List (Fp × Fp)) (ss:List PT) (i:Int):St:=mkSt Tryz.f17.ntmps 80 [(0,.is (.one (.ro pt1 c))),(4,.is (.one (.ptr 0 0))),(6,.is (.one (.ro partK ss))),(16,.is (.one (.ro partK ss))),(17,sI .i64 ss.length),(18,sI .i64 i)] [(0,g2.pc (0,0))]
def jK (ss:List PT) (m:Nat) (g:Int × List Int × List ((Fp × Fp) × (Fp × Fp))):St:=mkSt Tryz.f17.ntmps 248 [(4,.is (.one (.ptr 0 0))),(6,.is (.one (.ro partK ss))),(9,.is (.one (.sl 176 0 0 m 1))),(10,.is (.one (.sl 208 0 0 m 24))),(61,sI .i64 m),(62,sI .i64 g.1)] [(0,g2.pc (0,0)),(176,[.ints .i64 m g.2.1]),(208,[.row pt2 m g.2.2])]
def jO (c:List (Fp × Fp)) (ss:List PT) (_:Unit):St:=mkSt Tryz.f17.ntmps 80 [(0,.is (.one (.ro pt1 c))),(4,.is (.one (.ptr 0 0))),(6,.is (.one (.ro partK ss)))] [(0,g2.pc (0,0))]
def jL (m:Nat) (g:List Int × List ((Fp × Fp) × (Fp × Fp))):St:=mkSt Tryz.f17.ntmps 248 [(4,.is (.one (.ptr 0 0))),(9,.is (.one (.sl 176 0 0 m 1))),(10,.is (.one (.sl 208 0 0 m 24)))] [(0,g2.pc (0,0)),(176,[.ints .i64 m g.1]),(208,[.row pt2 m g.2])]
def jJ (ss:List PT) (i:Int):Prop:=∃ k:Nat,k<=ss.length/\i=(k:Int)/\scn none (ss.map keyP)=scn (prv (ss.map keyP) k) ((ss.map keyP).drop k)
def jJ2 (ss:List PT) (m:Nat) (g:Int × List Int × List ((Fp × Fp) × (Fp × Fp))):Prop:=∃ k:Nat,k<=m/\g.1=(k:Int)/\g.2.1.length=m/\g.2.2.length=m/\∀ j,j<k->g.2.1.getD j 0=(ss.getD j zP).1/\g.2.2.getD j z2=(ss.getD j zP).2
abbrev preJoin1:HL [.sl pt1,.sl partK]->Prop:=fun (c,ps,_)=>0<List.length ps/\List.length ps<=12/\List.length c<1048576
theorem fn_join1:FnOk Tryz.prog 17 [.sl pt1,.sl partK] [.val pt2,.val iK] noG preJoin1 (fun (c,ps,_)=>jn (List.length c) (srtP ps)):=by
 have hsp:SpecsOk Tryz.prog (sps [spClone,spSort,spMember,spSig]):=spk (fok fn_clone) (spk (fnSpecS_ok fn_sort) (spk (fok fn_member) (spk (fok fn_sig) snl)))
 refine fn_of_tr (sp:=sps [spClone,spSort,spMember,spSig]) ent_join (by decide) (by decide) (by kernel_rfl) ?_
 rintro w M0 ⟨c,ps,⟨⟩⟩
 revert c ps
 intro (c:List (Fp × Fp)) (ps:List PT) _ hp
 obtain⟨h0,h1,h2⟩:=hp
 have h0:0<ps.length:=h0
 have h1:ps.length<=12:=h1
 have h2:c.length<1048576:=h2
 have hsl:(srtP ps).length=ps.length:=(srtA_perm zP keyP ps).length_eq
 show Tr _ _ _ _ _ _ _
 refine tr_cutF hsp mixed 3 (fun σ=>rdR partK 24 σ) (fun ss=>mkSt Tryz.f17.ntmps 56 [(0,.is (.one (.ro pt1 c))),(4,.is (.one (.ptr 0 0))),(6,.is (.one (.sl 24 0 0 ps.length 25)))] [(0,g2.pc (0,0)),(24,[.row partK ps.length ss])]) (fun ss=>ss=srtP ps) ?_ ?_
 ·refine vcx (X:=(preClone (ps,())/\ps.length=ps.length/\(0:Nat)<ps.length/\preSort (ps,(),())/\(mkSt Tryz.f17.ntmps (56:Nat) [((0:Nat),SV.is (TV.one (Cell.ro pt1 c))),((4:Nat),SV.is (TV.one (Cell.ptr (0:Nat) (0:Nat)))),((6:Nat),SV.is (TV.one (Cell.sl (24:Nat) (0:Nat) (0:Nat) ps.length (25:Nat))))] [((0:Nat),g2.pc ((0:F2),(0:F2))),((24:Nat),[Cell.row partK ps.length (srtP (ps,()).fst,()).fst])]).triv (srtP ps=srtP ps))) (by kernel_rfl) ?_
  exact⟨by show ps.length<_;omega,rfl,h0,h1,tvi rfl⟩
 intro (ss:List PT) (hss:ss=srtP ps)
 have hsn:ss.length=ps.length:=by rw[hss];exact hsl
 have hkl:(ss.map keyP).length=ss.length:=List.length_map ..
 have hkg:∀ k,k<ss.length->(ss.map keyP).getD k 0=(ss.getD k zP).1:=fun k hk=>by
  rw[List.getD_eq_getElem?_getD,List.getD_eq_getElem?_getD,List.getElem?_map,List.getElem?_eq_getElem hk];rfl
 refine tr_frz 6 24 ps.length 25 partK ss rfl rfl hsn ?_
 refine tr_cut hsp mixed 1 (jI c ss 0) True ?_ (fun _=>?_)
 ·refine vcx (X:=((jI c ss (0:Int)).triv True)) (by kernel_rfl) ?_
  exact tvi trivial
 refine tr_while hsp mixed noSw (fun σ=>rdS iK 18 σ) (jI c ss) (jJ ss) (fun i=>ss.length-i.toNat)
  (fun _=>()) (jO c ss) (fun _=>scn none (ss.map keyP)=0) 0 (c:=nthC (codeOf Tryz.f17) 4) (by kernel_rfl) (by kernel_rfl) (le_of_proj (by kernel_rfl) (by kernel_rfl) ?_) ?_ ?_
 ·exact⟨0,Nat.zero_le _,rfl,rfl⟩
 ·intro (i:Int) ⟨k,hk,ei,es⟩
  subst ei
  refine vcx (X:=((decide ((↑k:Int)<(↑ss.length:Int))=true->((0:Int)<=(↑k:Int)/\(↑k:Int)<(↑ss.length:Int))/\(↑k:Int).toNat<ss.length/\True/\((!memI (ss.getD (↑k:Int).toNat ((0:Int),((0:Fp),(0:Fp)),(0:Fp),(0:Fp))).fst)=true->((((0:Fp),(0:Fp)),(0:Fp),(0:Fp)),(34:Int),())=jn c.length (srtP ps))/\((!memI (ss.getD (↑k:Int).toNat ((0:Int),((0:Fp),(0:Fp)),(0:Fp),(0:Fp))).fst)=false->(decide ((↑k:Int)>(0:Int))=true->((0:Int)<=IntKind.i64.wrap ((↑k:Int)-(1:Int))/\IntKind.i64.wrap ((↑k:Int)-(1:Int))<(↑ss.length:Int))/\(IntKind.i64.wrap ((↑k:Int)-(1:Int))).toNat<ss.length/\(((ss.getD (IntKind.i64.wrap ((↑k:Int)-(1:Int))).toNat ((0:Int),((0:Fp),(0:Fp)),(0:Fp),(0:Fp))).fst==(ss.getD (↑k:Int).toNat ((0:Int),((0:Fp),(0:Fp)),(0:Fp),(0:Fp))).fst)=true->((((0:Fp),(0:Fp)),(0:Fp),(0:Fp)),(33:Int),())=jn c.length (srtP ps))/\(((ss.getD (IntKind.i64.wrap ((↑k:Int)-(1:Int))).toNat ((0:Int),((0:Fp),(0:Fp)),(0:Fp),(0:Fp))).fst==(ss.getD (↑k:Int).toNat ((0:Int),((0:Fp),(0:Fp)),(0:Fp),(0:Fp))).fst)=false->(jI c ss (IntKind.i64.wrap ((↑k:Int)+(1:Int)))).triv (jJ ss (IntKind.i64.wrap ((↑k:Int)+(1:Int)))/\ss.length-(IntKind.i64.wrap ((↑k:Int)+(1:Int))).toNat<ss.length-(↑k:Int).toNat)))/\(decide ((↑k:Int)>(0:Int))=false->(jI c ss (IntKind.i64.wrap ((↑k:Int)+(1:Int)))).triv (jJ ss (IntKind.i64.wrap ((↑k:Int)+(1:Int)))/\ss.length-(IntKind.i64.wrap ((↑k:Int)+(1:Int))).toNat<ss.length-(↑k:Int).toNat))))/\(decide ((↑k:Int)<(↑ss.length:Int))=false->(jO c ss ()).triv (scn none (List.map keyP ss)=(0:Int))))) (by kernel_rfl) ?_
  rw[Int.toNat_natCast]
  refine⟨fun h=>?_,fun h=>tvi ?_⟩
  ·have hlt:k<ss.length:=by have:=of_decide_eq_true h;omega
   have st:=scn_step (ks:=ss.map keyP) (k:=k) (by rw[hkl];exact hlt) (prv (ss.map keyP) k)
   have pn:prv (ss.map keyP) (k+1)=some (ss.getD k zP).1:=by rw[prv,hkg k hlt]
   rw[hkg k hlt,<- es] at st
   rw[wrap_i64' (show -9223372036854775808<=(k:Int)+1 by omega) (by omega)]
   have hmu:ss.length-((k:Int)+1).toNat<ss.length-k:=by omega
   refine⟨⟨by omega,by omega⟩,hlt,trivial,fun hm=>?_,fun hm=>?_⟩
   ·have hm:memI (ss.getD k zP).1=false:=by simpa using hm
    rw[if_pos hm] at st
    rw[<- hss,jn,st,if_neg (by decide)]
   have hm:¬ memI (ss.getD k zP).1=false:=by simpa using hm
   rw[if_neg hm] at st
   refine⟨fun h0=>?_,fun h0=>tvi ?_⟩
   ·obtain⟨u,rfl⟩:∃ u,k=u+1:=⟨k-1,by have:=of_decide_eq_true h0;omega⟩
    have e1:IntKind.i64.wrap (((u+1:Nat):Int)-1)=(u:Int):=by rw[wrap_i64' (by omega) (by omega)];omega
    have pu:prv (ss.map keyP) (u+1)=some (ss.getD u zP).1:=by rw[prv,hkg u (by omega)]
    rw[pu] at st
    rw[e1,Int.toNat_natCast]
    refine⟨⟨by omega,by omega⟩,by omega,fun he=>?_,fun he=>tvi ?_⟩
    ·have he:(ss.getD u zP).1=(ss.getD (u+1) zP).1:=eq_of_beq he
     rw[if_pos (by rw[he])] at st
     rw[<- hss,jn,st,if_neg (by decide)]
    ·rw[if_neg (fun e=>by rw[Option.some.inj e,beq_self_eq_true] at he;cases he)] at st
     exact⟨⟨u+1+1,hlt,rfl,by rw[pn];exact st⟩,hmu⟩
   ·have:k=0:=by have:=of_decide_eq_false h0;omega
    subst this
    rw[if_neg (fun e=>by cases e)] at st
    exact⟨⟨0+1,hlt,rfl,by rw[pn];exact st⟩,hmu⟩
  ·have:k=ss.length:=by have:=of_decide_eq_false h;omega
   subst this
   rw[es,<- hkl,List.drop_length,scn]
 rintro⟨⟩ hs0
 refine tr_cut hsp mixed 5 (jK ss c.length (0,List.replicate c.length 0,List.replicate c.length z2)) (0<c.length/\c.length<=ss.length) ?_ (fun hm=>?_)
 ·refine vcx (X:=((((↑c.length:Int)==(0:Int))=true->((((0:Fp),(0:Fp)),(0:Fp),(0:Fp)),(32:Int),())=jn c.length (srtP ps))/\(((↑c.length:Int)==(0:Int))=false->(decide ((↑ss.length:Int)<(↑c.length:Int))=true->((((0:Fp),(0:Fp)),(0:Fp),(0:Fp)),(32:Int),())=jn c.length (srtP ps))/\(decide ((↑ss.length:Int)<(↑c.length:Int))=false->((0:Int)<=(↑c.length:Int)/\(↑c.length:Int)<=(↑c.length:Int)/\(↑(8:Nat):Int)*(↑c.length:Int)<=(281474976710656:Int)/\(↑c.length:Int)<=(9223372036854775807:Int))/\((0:Int)<=(↑c.length:Int)/\(↑c.length:Int)<=(↑c.length:Int)/\(↑(192:Nat):Int)*(↑c.length:Int)<=(281474976710656:Int)/\(↑c.length:Int)<=(9223372036854775807:Int))/\(jK ss c.length ((0:Int),List.replicate c.length (0:Int),List.replicate c.length z2)).triv ((0:Nat)<c.length/\c.length<=ss.length))))) (by kernel_rfl) ?_
  refine⟨fun h=>?_,fun h=>⟨fun h2=>?_,fun h2=>⟨⟨by omega,Int.le_refl _,by omega,by omega⟩,⟨by omega,Int.le_refl _,by omega,by omega⟩,tvi ⟨?_,?_⟩⟩⟩⟩
  ·have h:(c.length:Int)=0:=eq_of_beq h
   rw[<- hss,jn,if_pos hs0,if_pos (.inl (by omega))]
  ·have h2:=of_decide_eq_true h2
   rw[<- hss,jn,if_pos hs0,if_pos (.inr (by omega))]
  ·have h:¬ (c.length:Int)=0:=fun e=>by rw[e] at h;cases h
   omega
  ·have h2:=of_decide_eq_false h2
   omega
 obtain⟨hm0,hm⟩:=hm
 refine tr_while hsp mixed noSw (fun σ=>(rdS iK 62 σ,rdR iK 176 σ,rdR pt2 208 σ)) (jK ss c.length) (jJ2 ss c.length) (fun g=>c.length-g.1.toNat)
  (fun σ=>(rdR iK 176 σ,rdR pt2 208 σ)) (jL c.length) (fun g=>g=((ss.take c.length).map keyP,(ss.take c.length).map Prod.snd)) (0,List.replicate c.length 0,List.replicate c.length z2) (c:=nthC (codeOf Tryz.f17) 10) (by kernel_rfl) (by kernel_rfl) (le_of_proj (by kernel_rfl) (by kernel_rfl) ?_) ?_ ?_
 ·exact⟨0,Nat.zero_le _,rfl,List.length_replicate ..,List.length_replicate ..,fun j hj=>absurd hj (Nat.not_lt_zero j)⟩
 ·rintro⟨i,xs,qs⟩ hj
  revert i xs qs
  intro (i:Int) (xs:List Int) (qs:List ((Fp × Fp) × (Fp × Fp))) ⟨k,hk,ei,lx,lq,ea⟩
  have ei:i=(k:Int):=ei
  subst ei
  have lx:xs.length=c.length:=lx
  have lq:qs.length=c.length:=lq
  have ea:∀ j,j<k->xs.getD j 0=(ss.getD j zP).1/\qs.getD j z2=(ss.getD j zP).2:=ea
  refine vcx (X:=((decide ((↑k:Int)<(↑c.length:Int))=true->((0:Int)<=(↑k:Int)/\(↑k:Int)<(↑ss.length:Int))/\(↑k:Int).toNat<ss.length/\((0:Int)<=(↑k:Int)/\(↑k:Int)<(↑ss.length:Int))/\(↑k:Int).toNat<ss.length/\((0:Int)<=(↑k:Int)/\(↑k:Int)<(↑c.length:Int))/\(↑k:Int).toNat<c.length/\((0:Int)<=(↑k:Int)/\(↑k:Int)<(↑c.length:Int))/\(↑k:Int).toNat<c.length/\(jK ss c.length (IntKind.i64.wrap ((↑k:Int)+(1:Int)),xs.set (↑k:Int).toNat (ss.getD (↑k:Int).toNat ((0:Int),((0:Fp),(0:Fp)),(0:Fp),(0:Fp))).fst,qs.set (↑k:Int).toNat (ss.getD (↑k:Int).toNat ((0:Int),((0:Fp),(0:Fp)),(0:Fp),(0:Fp))).snd)).triv (jJ2 ss c.length (IntKind.i64.wrap ((↑k:Int)+(1:Int)),xs.set (↑k:Int).toNat (ss.getD (↑k:Int).toNat ((0:Int),((0:Fp),(0:Fp)),(0:Fp),(0:Fp))).fst,qs.set (↑k:Int).toNat (ss.getD (↑k:Int).toNat ((0:Int),((0:Fp),(0:Fp)),(0:Fp),(0:Fp))).snd)/\c.length-(IntKind.i64.wrap ((↑k:Int)+(1:Int))).toNat<c.length-(↑k:Int).toNat))/\(decide ((↑k:Int)<(↑c.length:Int))=false->(jL c.length (xs,qs)).triv ((xs,qs)=(List.map keyP (List.take c.length ss),List.map Prod.snd (List.take c.length ss)))))) (by kernel_rfl) ?_
  rw[Int.toNat_natCast]
  refine⟨fun h=>?_,fun h=>tvi ?_⟩
  ·have hlt:k<c.length:=by have:=of_decide_eq_true h;omega
   rw[wrap_i64' (show -9223372036854775808<=(k:Int)+1 by omega) (by omega)]
   refine⟨⟨by omega,by omega⟩,by omega,⟨by omega,by omega⟩,by omega,⟨by omega,by omega⟩,hlt,⟨by omega,by omega⟩,hlt,tvi ⟨⟨k+1,hlt,rfl,?_,?_,fun j hj=>?_⟩,by omega⟩⟩
   ·show List.length _=_;rw[List.length_set,lx]
   ·show List.length _=_;rw[List.length_set,lq]
   ·show (xs.set k _).getD j 0=_/\(qs.set k _).getD j z2=_
    rw[set_getD (by omega),set_getD (by omega)]
    by_cases e:j=k
    ·rw[if_pos e,if_pos e,e];exact⟨rfl,rfl⟩
    ·rw[if_neg e,if_neg e];exact ea j (by omega)
  ·have:k=c.length:=by have:=of_decide_eq_false h;omega
   rw[this] at ea
   exact Prod.ext (ext_map (zα:=zP) (f:=keyP) (zβ:=0) hm lx (fun j hj=>(ea j hj).1)) (ext_map (zα:=zP) (f:=Prod.snd) (zβ:=z2) hm lq (fun j hj=>(ea j hj).2))
 rintro _ rfl
 refine tr_vc hsp mixed _ _ ?_
 refine vcx (X:=((0:Nat)+c.length<=c.length/\(0:Nat)+c.length<=c.length/\preMixS (List.take c.length (List.map keyP (List.take c.length ss)),List.take c.length (List.map Prod.snd (List.take c.length ss)),())/\((mixS (List.take c.length (List.map keyP (List.take c.length ss))) (List.take c.length (List.map Prod.snd (List.take c.length ss)))).fst,(mixS (List.take c.length (List.map keyP (List.take c.length ss))) (List.take c.length (List.map Prod.snd (List.take c.length ss)))).snd,())=jn c.length (srtP ps))) (by kernel_rfl) ?_
 have lk:((ss.take c.length).map keyP).length=c.length:=by rw[List.length_map,List.length_take];omega
 have lp:((ss.take c.length).map (Prod.snd:PT->(Fp × Fp) × (Fp × Fp))).length=c.length:=by rw[List.length_map,List.length_take];omega
 rw[List.take_of_length_le (Nat.le_of_eq lk),List.take_of_length_le (Nat.le_of_eq lp)]
 refine⟨by omega,by omega,⟨by show List.length _<_;rw[lk];omega,fun x hx=>?_⟩,?_⟩
 ·have hx:x∈ss.map keyP:=List.map_subset _ (fun y hy=>List.mem_of_mem_take hy) hx
  have:=scn0 hs0 x hx
  simp[memI] at this
  exact⟨by omega,by omega⟩
 ·rw[<- hss,jn,if_pos hs0,if_neg (by omega)]
abbrev preJoin:HL [.sl pt1,.sl partK]->Prop:=fun (c,ps,_)=>List.length ps<=12/\List.length c<1048576
theorem fn_join:FnOk Tryz.prog 17 [.sl pt1,.sl partK] [.val pt2,.val iK] noG preJoin (fun (c,ps,_)=>jn (List.length c) (srtP ps)):=by
 rintro w M us ⟨c,ps,⟨⟩⟩ hM hG hin ⟨h1,h2⟩
 revert c ps
 intro (c:List (Fp × Fp)) (ps:List PT) hin (h1:ps.length<=12) (h2:c.length<1048576)
 by_cases h0:ps.length=0
 ·have e:=fn_join0 w M us (c,ps,()) hM hG hin h0
  have hn:ps=[]:=List.eq_nil_of_length_eq_zero h0
  subst hn
  have ej:jn c.length (srtP [])=(z2,32,()):=by
   show jn c.length []=_
   have hc:c.length=0\/([]:List PT).length<c.length:=by
    by_cases hc:c.length=0
    ·exact .inl hc
    ·exact .inr (by show 0<_;omega)
   rw[jn,if_pos (show scn none (([]:List PT).map keyP)=0 from rfl),if_pos hc]
  show CallOk _ _ _ _ _
  rw[show (fun x:HL [.sl pt1,.sl partK]=>jn (List.length x.1) (srtP x.2.1)) (c,[],())=(z2,32,()) from ej]
  exact e
 ·exact fn_join1 w M us (c,ps,()) hM hG hin ⟨by show 0<ps.length;omega,h1,h2⟩
end
end Go.Proofs.YtbeeaekepmnfhaaGreatDoor.part
namespace Go.Proofs.YtbeeaekepmnfhaaGreatDoor.poly
open Go Go.Eng Go.RowKit Cr
noncomputable def mxR (ws:List Fr) (ts:List (Fr)):Nat->Fr
 | 0=>0
 | k+1=>mxR ws ts k+(ts.getD k 0)*(ws.getD k 0)
noncomputable def mixR (xs:List Int) (ts:List (Fr)):(Fr) × Int:=if xs.length=ts.length then (if plE [] xs=0 then (mxR (wtsF xs) ts xs.length,0) else (0,plE [] xs)) else (0,1)
end Go.Proofs.YtbeeaekepmnfhaaGreatDoor.poly
namespace Go.Proofs.YtbeeaekepmnfhaaGreatDoor.poly
open Go Go.Eng Go.RowKit Cr Rg Fd
theorem catS_eq {x:Int} (hx:preI x) (e:Fr):catS x (g1.gmul g1.gG e)=g1.gmul g1.gG (e*zm x):=by
 obtain⟨b1,b2,b3⟩:=bysI_ok hx
 have hz:=szI_ok hx
 have hs:=g1.sub_gmul g1.sub_G e
 have e1:g1.gtms (g1.gmul g1.gG e) (bysI x)=g1.gmul g1.gG (e*zm (szI x)):=by
  rw[g1.gtms_eq hs.1 b1,b3,g1.mul_mul g1.sub_G]
  refine (g1.mul_of hs ?_).symm
  show szI x%Mr=_
  rw[Int.toNat_of_nonneg hz.1];rfl
 unfold catS
 rw[e1]
 unfold szI
 by_cases h:x<0
 ·rw[if_pos h,if_pos h,g1.gneg_eq,<- g1.mul_neg g1.sub_G,<- mul_neg,zm_neg,Int.neg_neg]
 ·rw[if_neg h,if_neg h]
theorem cat_cmt {x:Int} (hx:preI x):∀ p:List Fr,catF x (cmt p)=g1.gmul g1.gG (pat p x)
 | []=>by
  rw[pat_eq]
  show (0,0)=g1.gmul g1.gG 0
  rw[g1.mul_zero g1.sub_G]
 | a::p=>by
  show g1.gadd (catS x (catF x (cmt p))) (g1.gmul g1.gG a)=_
  rw[cat_cmt hx p,catS_eq hx,g1.gadd_eq (g1.sub_gmul g1.sub_G _).1 (g1.sub_gmul g1.sub_G _).1,<- g1.mul_add g1.sub_G,pat_eq,pat_eq]
  rfl
theorem sm_snoc {F:Type} [Rg F]:∀ (l:List F) (a:F),sm (l++[a])=sm l+a
 | [],a=>by show a+0=0+a;rw[Rg.add_comm]
 | b::l,a=>by show b+sm (l++[a])=b+sm l+a;rw[sm_snoc l a,Rg.add_assoc]
theorem getD_map {α β:Type} (f:α->β) {l:List α} {k:Nat} (h:k<l.length) (d:β):(l.map f).getD k d=f l[k]:=by
 rw[List.getD_eq_getElem?_getD,List.getElem?_map,List.getElem?_eq_getElem h];rfl
theorem mxR_map (xs:List Int) (g f:Int->Fr):∀ k,k<=xs.length->mxR (xs.map g) (xs.map f) k=sm ((xs.take k).map fun x=>g x*f x)
 | 0,_=>rfl
 | k+1,h=>by
  have hk:k<xs.length:=h
  rw[mxR,mxR_map xs g f k (by omega),getD_map f hk,getD_map g hk,List.take_succ_eq_append_getElem hk,List.map_append,List.map_cons,List.map_nil,sm_snoc,mul_comm (f _)]
theorem nodup_zm {xs:List Int} (h:∀ x∈xs,1<=x/\x<=9) (hd:xs.Nodup):(xs.map fun y=>(zm y:Fr)).Nodup:=by
 induction xs with
 | nil=>exact List.nodup_nil
 | cons a l ih =>
  obtain⟨h1,h2⟩:=List.nodup_cons.1 hd
  refine List.nodup_cons.2 ⟨fun hm=>?_,ih (fun x hx=>h x (by simp[hx])) h2⟩
  obtain⟨y,hy,e⟩:=List.mem_map.1 hm
  exact h1 (zm_inj9 (h y (by simp[hy])) (h a (by simp)) e▸hy)
theorem lag_sum {xs:List Int} (h:plE [] xs=0) {q:List Fr} (hq:q.length<=xs.length):sm (xs.map fun x=>wtI xs x*peval q (zm x))=peval q 0:=by
 obtain⟨h1,h2⟩:=plE_ok h
 have hl:=lagrange (nodup_zm (fun x hx=>(h1 x hx).1) h2) q (by simpa using hq)
 rw[List.map_map] at hl
 rw[<- hl]
 refine sm_congr fun x _=>?_
 rw[wtI,opq_eq];rfl
theorem mix_ok {xs:List Int} (h:plE [] xs=0) {p:List Fr} (hp:p.length<=xs.length):mixR xs (xs.map (pat p))=(pat p 0,0):=by
 rw[mixR,if_pos (by simp),if_pos h,wtsF,if_pos h,mxR_map xs _ _ _ (Nat.le_refl _),List.take_length,pat_eq,<- show (0:Fr)=zm 0 from rfl,<- lag_sum h hp]
 congr 1
 refine sm_congr fun x _=>?_
 rw[pat_eq]
end Go.Proofs.YtbeeaekepmnfhaaGreatDoor.poly
namespace Cr
open Rg Fd
theorem pigeon:∀ (B A:Nat) (f:Nat->Nat),(∀ i,i<A->f i<B)->(∀ i j,i<A->j<A->f i=f j->i=j)->A<=B:=by
 intro B
 induction B with
 | zero =>
  intro A f h _
  cases A with
  | zero=>exact Nat.le_refl 0
  | succ A=>exact absurd (h 0 (by omega)) (by omega)
 | succ B ih =>
  intro A f h inj
  cases A with
  | zero=>omega
  | succ A =>
   have ne:∀ i,i<A->f i≠f A:=fun i hi e=>by have:=inj i A (by omega) (by omega) e;omega
   have:=ih A (fun i=>if f i>f A then f i-1 else f i) (fun i hi=>by
    have h1:=h i (by omega)
    have h2:=h A (by omega)
    have h3:=ne i hi
    show (if f i>f A then f i-1 else f i)<B
    split<;>omega) (fun i j hi hj e=>by
    have h3:=ne i hi
    have h4:=ne j hj
    have e:(if f i>f A then f i-1 else f i)=(if f j>f A then f j-1 else f j):=e
    refine inj i j (by omega) (by omega) ?_
    split at e<;>split at e<;>omega)
   omega
theorem bez (m n:Nat):∃ u v:Int,u*(m:Int)+v*(n:Int)=((Nat.gcd m n:Nat):Int):=by
 induction m,n using Nat.gcd.induction with
 | H0 n=>exact⟨0,1,by simp⟩
 | H1 m n hm ih =>
  obtain⟨u,v,h⟩:=ih
  refine⟨v-u*((n/m:Nat):Int),u,?_⟩
  rw[Nat.gcd_rec,<- h]
  have e:(n:Int)=(m:Int)*((n/m:Nat):Int)+((n%m:Nat):Int):=by
   have:=Nat.div_add_mod n m
   rw[<- Int.natCast_mul,<- Int.natCast_add,this]
  generalize ((n/m:Nat):Int)=q at *
  generalize ((n%m:Nat):Int)=t at *
  rw[e,Int.sub_mul,Int.mul_add]
  have:u*q*(m:Int)=u*((m:Int)*q):=by rw[Int.mul_assoc,Int.mul_comm q]
  omega
theorem inv_mod {l a:Nat} (h:Nat.Coprime l a) (hl:1<l):∃ s:Nat,a*s%l=1:=by
 obtain⟨u,v,e⟩:=bez l a
 rw[h] at e
 refine⟨(v%(l:Int)).toNat,?_⟩
 have hv:(((v%(l:Int)).toNat:Nat):Int)=v%(l:Int):=Int.toNat_of_nonneg (Int.emod_nonneg _ (by omega))
 have:(((a*(v%(l:Int)).toNat%l:Nat)):Int)=1:=by
  rw[Int.natCast_emod,Int.natCast_mul,hv,Int.mul_emod,Int.emod_emod_of_dvd _ (Int.dvd_refl _),<- Int.mul_emod]
  have e2:(a:Int)*v=1+(l:Int)*(-u):=by
   rw[Int.mul_neg,Int.mul_comm (l:Int) u,Int.mul_comm (a:Int) v]
   omega
  rw[e2,Int.add_mul_emod_self_left]
  exact Int.emod_eq_of_lt (by omega) (by omega)
 omega
section
variable {F:Type} [Fd F] {b:F} (hb:b≠0)
include hb
theorem nmul_gcd {S:F × F} (oS:OnP b S) (m n:Nat):nmul S m=O2->nmul S n=O2->nmul S (Nat.gcd m n)=O2:=by
 induction m,n using Nat.gcd.induction with
 | H0 n=>intro _ h;rw[Nat.gcd_zero_left];exact h
 | H1 m n hm ih =>
  intro h1 h2
  rw[Nat.gcd_rec]
  refine ih ?_ h1
  have e:=Nat.div_add_mod n m
  rw[<- e,nmul_add hb oS,<- nmul_mul hb oS,h1,nmul_O,O_add] at h2
  exact h2
theorem nmul_red {S:F × F} (oS:OnP b S) {l:Nat} (h:nmul S l=O2) (n:Nat):nmul S n=nmul S (n%l):=by
 conv=>lhs;rw[<- Nat.div_add_mod n l]
 rw[nmul_add hb oS,<- nmul_mul hb oS,h,nmul_O,O_add]
theorem ord_dvd {P:F × F} (oP:OnP b P) {l n a:Nat} (hl:Prm l) (hk:nmul P (n*l)=O2) (hne:nmul P n≠O2) (ha:nmul P a=O2):l∣a:=by
 refine Classical.byContradiction fun hd=>hne ?_
 have hc:Nat.gcd l a=1:=hl.coprime hd
 have oS:=nmul_on hb oP n
 have h1:nmul (nmul P n) l=O2:=by rw[nmul_mul hb oP];exact hk
 have h2:nmul (nmul P n) a=O2:=by rw[nmul_mul hb oP,Nat.mul_comm,<- nmul_mul hb oP,ha,nmul_O]
 have:=nmul_gcd hb oS l a h1 h2
 rw[hc,nmul_one] at this
 exact this
theorem ind2 {U V:F × F} (oU:OnP b U) (oV:OnP b V) {l:Nat} (hl:Prm l) (hU:nmul U l=O2) (hV:nmul V l=O2) (hV0:V≠O2) (hj:∀ j,j<l->padd U (nmul V j)≠O2) {a c:Nat}
  (h:padd (nmul U a) (nmul V c)=O2):l∣a/\l∣c:=by
 by_cases hd:l∣a
 ·refine⟨hd,?_⟩
  obtain⟨t,rfl⟩:=hd
  rw[<- nmul_mul hb oU,hU,nmul_O,O_add] at h
  refine Classical.byContradiction fun hc=>hV0 ?_
  have:=nmul_gcd hb oV l c hV h
  rw[show Nat.gcd l c=1 from hl.coprime hc,nmul_one] at this
  exact this
 ·obtain⟨s,hs⟩:=inv_mod (hl.coprime hd) hl.1
  have h2:nmul (padd (nmul U a) (nmul V c)) s=O2:=by rw[h,nmul_O]
  rw[nmul_padd hb (nmul_on hb oU _) (nmul_on hb oV _),nmul_mul hb oU,nmul_mul hb oV,nmul_red hb oU hU (a*s),hs,nmul_one,nmul_red hb oV hV (c*s)] at h2
  exact absurd h2 (hj _ (Nat.mod_lt _ (by have:=hl.1;omega)))
def InH (P1 P2 P:F × F):Prop:=∃ a c:Nat,P=padd (nmul P1 a) (nmul P2 c)
variable {P1 P2:F × F} (o1:OnP b P1) (o2:OnP b P2)
include o1 o2
theorem inH_on {P:F × F} (h:InH P1 P2 P):OnP b P:=by
 obtain⟨a,c,rfl⟩:=h
 exact padd_on hb (nmul_on hb o1 _) (nmul_on hb o2 _)
theorem inH_add {P Q:F × F} (h:InH P1 P2 P) (k:InH P1 P2 Q):InH P1 P2 (padd P Q):=by
 obtain⟨a,c,rfl⟩:=h
 obtain⟨a',c',rfl⟩:=k
 refine⟨a+a',c+c',?_⟩
 rw[nmul_add hb o1,nmul_add hb o2]
 exact add4 hb (nmul_on hb o1 _) (nmul_on hb o2 _) (nmul_on hb o1 _) (nmul_on hb o2 _)
theorem inH_mul {P:F × F} (h:InH P1 P2 P) (n:Nat):InH P1 P2 (nmul P n):=by
 obtain⟨a,c,rfl⟩:=h
 refine⟨a*n,c*n,?_⟩
 rw[nmul_padd hb (nmul_on hb o1 _) (nmul_on hb o2 _),nmul_mul hb o1,nmul_mul hb o2]
omit o1 o2 in
theorem neg_mul_of {P:F × F} (oP:OnP b P) {N:Nat} (h:nmul P N=O2) (hN:0<N):pneg P=nmul P (N-1):=by
 have e:N=1+(N-1):=by omega
 rw[e,nmul_add hb oP,nmul_one] at h
 have:=cancel hb oP (nmul_on hb oP (N-1))
 rw[h,add_O] at this
 exact this
variable {n1 n2:Nat} (k1:nmul P1 n1=O2) (k2:nmul P2 n2=O2)
include k1 k2
theorem inH_kill {P:F × F} (h:InH P1 P2 P):nmul P (n1*n2)=O2:=by
 obtain⟨a,c,rfl⟩:=h
 rw[nmul_padd hb (nmul_on hb o1 _) (nmul_on hb o2 _),nmul_mul hb o1,nmul_mul hb o2]
 rw[show a*(n1*n2)=n1*(n2*a) by rw[Nat.mul_comm a,Nat.mul_assoc],show c*(n1*n2)=n2*(n1*c) by rw[Nat.mul_comm c,Nat.mul_comm n1,Nat.mul_assoc]]
 rw[<- nmul_mul hb o1,<- nmul_mul hb o2,k1,k2,nmul_O,nmul_O,O_add]
theorem inH_neg (hN:0<n1*n2) {P:F × F} (h:InH P1 P2 P):InH P1 P2 (pneg P):=by
 rw[neg_mul_of hb (inH_on hb o1 o2 h) (inH_kill hb o1 o2 k1 k2 h) hN]
 exact inH_mul hb o1 o2 h _
theorem inH_half (hodd:n1*n2%2=1) (no2:∀ P:F × F,OnP b P->padd P P=O2->P=O2) {Q:F × F} (oQ:OnP b Q) (h:InH P1 P2 (padd Q Q)):InH P1 P2 Q:=by
 have hk:=inH_kill hb o1 o2 k1 k2 h
 rw[nmul_padd hb oQ oQ] at hk
 have hz:=no2 _ (nmul_on hb oQ _) hk
 have e:nmul Q (2*((n1*n2+1)/2))=Q:=by
  rw[show 2*((n1*n2+1)/2)=n1*n2+1 by omega,nmul_add hb oQ,hz,O_add,nmul_one]
 rw[<- nmul_mul hb oQ,nmul_two] at e
 rw[<- e]
 exact inH_mul hb o1 o2 h _
theorem inH_sub (hN:0<n1*n2) {X Y U V:F × F} (oX:OnP b X) (oY:OnP b Y) (hU:InH P1 P2 U) (hV:InH P1 P2 V) (e:padd X U=padd Y V):∃ W,InH P1 P2 W/\X=padd Y W/\(W=O2->U=V):=by
 have oU:=inH_on hb o1 o2 hU
 have oV:=inH_on hb o1 o2 hV
 have onU:=pneg_onP oU
 refine⟨padd V (pneg U),inH_add hb o1 o2 hV (inH_neg hb o1 o2 k1 k2 hN hU),?_,?_⟩
 ·rw[<- padd_assoc hb oY oV onU,<- e,padd_assoc hb oX oU onU,add_neg_self,add_O]
 ·intro h
  have:padd (padd V (pneg U)) U=padd O2 U:=by rw[h]
  rw[padd_assoc hb oV onU oU,neg_add_self,add_O,O_add] at this
  exact this.symm
theorem inH_inj (ind:∀ a c,padd (nmul P1 a) (nmul P2 c)=O2->n1∣a/\n2∣c) {a c a' c':Nat} (ha:a<n1) (ha':a'<n1) (hc:c<n2) (hc':c'<n2)
  (e:padd (nmul P1 a) (nmul P2 c)=padd (nmul P1 a') (nmul P2 c')):a=a'/\c=c':=by
 have h:padd (padd (nmul P1 a) (nmul P2 c)) (padd (nmul P1 (n1-a)) (nmul P2 (n2-c)))=O2:=by
  rw[add4 hb (nmul_on hb o1 _) (nmul_on hb o2 _) (nmul_on hb o1 _) (nmul_on hb o2 _),<- nmul_add hb o1,<- nmul_add hb o2,show a+(n1-a)=n1 by omega,show c+(n2-c)=n2 by omega,k1,k2,O_add]
 rw[e,add4 hb (nmul_on hb o1 _) (nmul_on hb o2 _) (nmul_on hb o1 _) (nmul_on hb o2 _),<- nmul_add hb o1,<- nmul_add hb o2] at h
 obtain⟨⟨u,hu⟩,⟨v,hv⟩⟩:=ind _ _ h
 refine⟨?_,?_⟩
 ·match u with
  | 0=>omega
  | 1=>omega
  | u+2=>have:n1*(u+2)=n1*u+n1+n1:=by rw[Nat.mul_add];omega
         omega
 ·match v with
  | 0=>omega
  | 1=>omega
  | v+2=>have:n2*(v+2)=n2*v+n2+n2:=by rw[Nat.mul_add];omega
         omega
def cQ (Q:F × F) (c:Nat):F × F:=if c=0 then O2 else if c=1 then Q else pneg Q
omit k1 k2 o1 o2 hb in
theorem cQ_on {Q:F × F} (oQ:OnP b Q) (c:Nat):OnP b (cQ Q c):=by
 unfold cQ
 split
 ·exact .inl rfl
 ·split
  ·exact oQ
  ·exact pneg_onP oQ
theorem gen_all (hodd:n1*n2%2=1) (ind:∀ a c,padd (nmul P1 a) (nmul P2 c)=O2->n1∣a/\n2∣c) (no2:∀ P:F × F,OnP b P->padd P P=O2->P=O2)
  (code:F × F->Nat) (B:Nat) (hB:∀ P,OnP b P->code P<B) (hinj:∀ P Q,OnP b P->OnP b Q->code P=code Q->P=Q) (hsz:B<3*(n1*n2)) {Q:F × F} (oQ:OnP b Q):InH P1 P2 Q:=by
 refine Classical.byContradiction fun hQ=>?_
 have hN:0<n1*n2:=by omega
 have hn2:0<n2:=Nat.pos_of_ne_zero fun e=>by rw[e] at hN;simp at hN
 have hH:∀ t,InH P1 P2 (padd (nmul P1 (t/n2)) (nmul P2 (t%n2))):=fun t=>⟨_,_,rfl⟩
 have hneg:∀ P,OnP b P->InH P1 P2 (pneg P)->InH P1 P2 P:=fun P _ h=>by have:=inH_neg hb o1 o2 k1 k2 hN h;rwa [pneg_pneg] at this
 have h2Q:¬ InH P1 P2 (padd Q Q):=fun h=>hQ (inH_half hb o1 o2 k1 k2 hodd no2 oQ h)
 have key:∀ c c',c<3->c'<3->c≠c'->∀ W,InH P1 P2 W->cQ Q c=padd (cQ Q c') W->False:=by
  intro c c' hc hc' hne W hW e
  have oW:=inH_on hb o1 o2 hW
  have oN:=pneg_onP oQ
  have hc:c=0\/c=1\/c=2:=by omega
  have hc':c'=0\/c'=1\/c'=2:=by omega
  have e0:cQ Q 0=O2:=rfl
  have e1:cQ Q 1=Q:=rfl
  have e2:cQ Q 2=pneg Q:=rfl
  rcases hc with rfl|rfl|rfl<;>rcases hc' with rfl|rfl|rfl
  ·exact hne rfl
  ·rw[e0,e1] at e
   have:=cancel hb oQ oW
   rw[<- e,add_O] at this
   exact hQ (hneg Q oQ (this▸hW))
  ·rw[e0,e2] at e
   have:=cancel hb oN oW
   rw[<- e,add_O,pneg_pneg] at this
   exact hQ (this▸hW)
  ·rw[e1,e0,O_add] at e
   exact hQ (e▸hW)
  ·exact hne rfl
  ·rw[e1,e2] at e
   have:padd Q Q=W:=by
    have:=cancel hb oN oW
    rw[<- e,pneg_pneg] at this
    exact this
   exact h2Q (this▸hW)
  ·rw[e2,e0,O_add] at e
   exact hQ (hneg Q oQ (e▸hW))
  ·rw[e2,e1] at e
   have:pneg (padd Q Q)=W:=by
    have:=cancel hb oQ oW
    rw[<- e] at this
    rw[<- this]
    exact pneg_add hb oQ oQ
   exact h2Q (hneg _ (padd_on hb oQ oQ) (this▸hW))
  ·exact hne rfl
 have:=pigeon B (3*(n1*n2)) (fun i=>code (padd (cQ Q (i/(n1*n2))) (padd (nmul P1 (i%(n1*n2)/n2)) (nmul P2 (i%(n1*n2)%n2))))) (fun i _=>hB _ (padd_on hb (cQ_on oQ _) (inH_on hb o1 o2 (hH _)))) (fun i j hi hj e=>by
  have e:=hinj _ _ (padd_on hb (cQ_on oQ _) (inH_on hb o1 o2 (hH _))) (padd_on hb (cQ_on oQ _) (inH_on hb o1 o2 (hH _))) e
  obtain⟨W,hW,eW,hz⟩:=inH_sub hb o1 o2 k1 k2 hN (cQ_on oQ _) (cQ_on oQ _) (hH _) (hH _) e
  have di:i/(n1*n2)<3:=Nat.div_lt_of_lt_mul (by rw[Nat.mul_comm];exact hi)
  have dj:j/(n1*n2)<3:=Nat.div_lt_of_lt_mul (by rw[Nat.mul_comm];exact hj)
  by_cases hc:i/(n1*n2)=j/(n1*n2)
  ·rw[hc] at eW
   have oc:=cQ_on oQ (j/(n1*n2))
   have hW0:W=O2:=by
    have:=cancel hb oc (inH_on hb o1 o2 hW)
    rw[<- eW,neg_add_self] at this
    exact this.symm
   have li:i%(n1*n2)<n1*n2:=Nat.mod_lt _ hN
   have lj:j%(n1*n2)<n1*n2:=Nat.mod_lt _ hN
   obtain⟨ea,ec⟩:=inH_inj hb o1 o2 k1 k2 ind (Nat.div_lt_of_lt_mul (by rw[Nat.mul_comm n2];exact li)) (Nat.div_lt_of_lt_mul (by rw[Nat.mul_comm n2];exact lj)) (Nat.mod_lt _ hn2) (Nat.mod_lt _ hn2) (hz hW0)
   have f1:=Nat.div_add_mod (i%(n1*n2)) n2
   have f2:=Nat.div_add_mod (j%(n1*n2)) n2
   have f3:=Nat.div_add_mod i (n1*n2)
   have f4:=Nat.div_add_mod j (n1*n2)
   rw[ea,ec,f2] at f1
   rw[<- f1,hc] at f3
   omega
  ·exact (key _ _ di dj hc W hW eW).elim)
 omega
omit k1 k2 o1 o2 in
theorem no2_of (hx:∀ x:F,x*x*x+b≠0) (P:F × F) (oP:OnP b P) (h:padd P P=O2):P=O2:=by
 rcases oP with rfl|oP
 ·rfl
 ·have:=cancel hb (.inr oP) (.inr oP)
  rw[h,add_O] at this
  have e : -P.2=P.2:=congrArg Prod.snd this
  have e0:=eq_neg_self e.symm
  have oP:P.2*P.2=P.1*P.1*P.1+b:=oP
  rw[e0,Rg.mul_zero] at oP
  exact absurd oP.symm (hx _)
omit k1 k2 in
theorem ind_all {k l l':Nat} (hl:Prm l) (hl':Prm l') (hll:Nat.Coprime l l') (hkl:Nat.Coprime k (l*l')) (k1:nmul P1 (k*(l*l'))=O2) (k2:nmul P2 (l*l')=O2)
  (hk:∀ a,nmul P1 a=O2->k∣a)
  (v1:nmul P2 l'≠O2) (j1:∀ j,j<l->padd (nmul P1 (k*l')) (nmul (nmul P2 l') j)≠O2)
  (v2:nmul P2 l≠O2) (j2:∀ j,j<l'->padd (nmul P1 (k*l)) (nmul (nmul P2 l) j)≠O2) (a c:Nat) (h:padd (nmul P1 a) (nmul P2 c)=O2):k*(l*l')∣a/\l*l'∣c:=by
 have h1:nmul (padd (nmul P1 a) (nmul P2 c)) (l*l')=O2:=by rw[h,nmul_O]
 rw[nmul_padd hb (nmul_on hb o1 _) (nmul_on hb o2 _),nmul_mul hb o1,nmul_mul hb o2,Nat.mul_comm c,<- nmul_mul hb o2,k2,nmul_O,add_O] at h1
 obtain⟨a',rfl⟩:k∣a:=hkl.dvd_of_dvd_mul_right (hk _ h1)
 have part:∀ {l l':Nat},Prm l->nmul P1 (k*(l*l'))=O2->nmul P2 (l*l')=O2->nmul P2 l'≠O2->(∀ j,j<l->padd (nmul P1 (k*l')) (nmul (nmul P2 l') j)≠O2)->l∣a'/\l∣c:=by
  intro l l' hl k1 k2 v1 j1
  have e:nmul (padd (nmul P1 (k*a')) (nmul P2 c)) l'=O2:=by rw[h,nmul_O]
  rw[nmul_padd hb (nmul_on hb o1 _) (nmul_on hb o2 _),nmul_mul hb o1,nmul_mul hb o2,show k*a'*l'=k*l'*a' by rw[Nat.mul_assoc,Nat.mul_comm a',Nat.mul_assoc],Nat.mul_comm c,<- nmul_mul hb o1,<- nmul_mul hb o2] at e
  exact ind2 hb (nmul_on hb o1 _) (nmul_on hb o2 _) hl (by rw[nmul_mul hb o1,Nat.mul_assoc,Nat.mul_comm l'];exact k1) (by rw[nmul_mul hb o2,Nat.mul_comm];exact k2) v1 j1 e
 obtain⟨d1,d2⟩:=part hl k1 k2 v1 j1
 obtain⟨d3,d4⟩:=part hl' (by rw[Nat.mul_comm l'];exact k1) (by rw[Nat.mul_comm l'];exact k2) v2 j2
 exact⟨Nat.mul_dvd_mul (Nat.dvd_refl k) (hll.mul_dvd_of_dvd_of_dvd d1 d3),hll.mul_dvd_of_dvd_of_dvd d2 d4⟩
end
end Cr
namespace Cr
theorem prm_1367711:Prm 1367711:=trial (f:=11) (by decide) (by decide) (by kernel_rfl)
theorem prm_541:Prm 541:=trial (f:=5) (by decide) (by decide) (by kernel_rfl)
theorem prm_12192593745179:Prm 12192593745179:=by
 refine Classical.byContradiction fun hp=>?_
 obtain⟨d,hd,hdn,hdd⟩:=small_prime (n:=12192593745179) (by decide) hp
 have h0:1367711∣d-1:=pock (k:=8914598) (a:=2) (f:=44) prm_1367711 (by kernel_rfl) (of_decide_eq_true (by kernel_rfl)) (by kernel_rfl) (by kernel_rfl) hd hdn
 have h1:541∣d-1:=pock (k:=22537141858) (a:=2) (f:=44) prm_541 (by kernel_rfl) (of_decide_eq_true (by kernel_rfl)) (by kernel_rfl) (by kernel_rfl) hd hdn
 have g1:1367711*541∣d-1:=Nat.Coprime.mul_dvd_of_dvd_of_dvd (show Nat.gcd 1367711 541=1 by kernel_rfl) h0 h1
 rw[show 1367711*541=739931651 by kernel_rfl] at g1
 exact pock_fin hd.1 g1 hdd (of_decide_eq_true (by kernel_rfl))
theorem prm_512088937297519:Prm 512088937297519:=by
 refine Classical.byContradiction fun hp=>?_
 obtain⟨d,hd,hdn,hdd⟩:=small_prime (n:=512088937297519) (by decide) hp
 have h0:12192593745179∣d-1:=pock (k:=42) (a:=2) (f:=49) prm_12192593745179 (by kernel_rfl) (of_decide_eq_true (by kernel_rfl)) (by kernel_rfl) (by kernel_rfl) hd hdn
 exact pock_fin hd.1 h0 hdd (of_decide_eq_true (by kernel_rfl))
theorem prm_1857858664515398933:Prm 1857858664515398933:=by
 refine Classical.byContradiction fun hp=>?_
 obtain⟨d,hd,hdn,hdd⟩:=small_prime (n:=1857858664515398933) (by decide) hp
 have h0:512088937297519∣d-1:=pock (k:=3628) (a:=2) (f:=61) prm_512088937297519 (by kernel_rfl) (of_decide_eq_true (by kernel_rfl)) (by kernel_rfl) (by kernel_rfl) hd hdn
 exact pock_fin hd.1 h0 hdd (of_decide_eq_true (by kernel_rfl))
theorem prm_22294303974184787197:Prm 22294303974184787197:=by
 refine Classical.byContradiction fun hp=>?_
 obtain⟨d,hd,hdn,hdd⟩:=small_prime (n:=22294303974184787197) (by decide) hp
 have h0:1857858664515398933∣d-1:=pock (k:=12) (a:=2) (f:=65) prm_1857858664515398933 (by kernel_rfl) (of_decide_eq_true (by kernel_rfl)) (by kernel_rfl) (by kernel_rfl) hd hdn
 exact pock_fin hd.1 h0 hdd (of_decide_eq_true (by kernel_rfl))
theorem prm_19931107752921199754119:Prm 19931107752921199754119:=by
 refine Classical.byContradiction fun hp=>?_
 obtain⟨d,hd,hdn,hdd⟩:=small_prime (n:=19931107752921199754119) (by decide) hp
 have h0:22294303974184787197∣d-1:=pock (k:=894) (a:=2) (f:=75) prm_22294303974184787197 (by kernel_rfl) (of_decide_eq_true (by kernel_rfl)) (by kernel_rfl) (by kernel_rfl) hd hdn
 exact pock_fin hd.1 h0 hdd (of_decide_eq_true (by kernel_rfl))
theorem prm_81162125843606155545104998607900118769099783:Prm 81162125843606155545104998607900118769099783:=by
 refine Classical.byContradiction fun hp=>?_
 obtain⟨d,hd,hdn,hdd⟩:=small_prime (n:=81162125843606155545104998607900118769099783) (by decide) hp
 have h0:19931107752921199754119∣d-1:=pock (k:=4072133212551150901578) (a:=2) (f:=146) prm_19931107752921199754119 (by kernel_rfl) (of_decide_eq_true (by kernel_rfl)) (by kernel_rfl) (by kernel_rfl) hd hdn
 exact pock_fin hd.1 h0 hdd (of_decide_eq_true (by kernel_rfl))
theorem prm_26935696298915610574513298451669528361624243820491956655650666425177:Prm 26935696298915610574513298451669528361624243820491956655650666425177:=by
 refine Classical.byContradiction fun hp=>?_
 obtain⟨d,hd,hdn,hdd⟩:=small_prime (n:=26935696298915610574513298451669528361624243820491956655650666425177) (by decide) hp
 have h0:81162125843606155545104998607900118769099783∣d-1:=pock (k:=331875194481953911837672) (a:=2) (f:=224) prm_81162125843606155545104998607900118769099783 (by kernel_rfl) (of_decide_eq_true (by kernel_rfl)) (by kernel_rfl) (by kernel_rfl) hd hdn
 exact pock_fin hd.1 h0 hdd (of_decide_eq_true (by kernel_rfl))
theorem prm_4638704574076146691498289350639807119782054683906549022985642612861209609656189848749536921852444848596916990932297:Prm 4638704574076146691498289350639807119782054683906549022985642612861209609656189848749536921852444848596916990932297:=by
 refine Classical.byContradiction fun hp=>?_
 obtain⟨d,hd,hdn,hdd⟩:=small_prime (n:=4638704574076146691498289350639807119782054683906549022985642612861209609656189848749536921852444848596916990932297) (by decide) hp
 have h0:26935696298915610574513298451669528361624243820491956655650666425177∣d-1:=pock (k:=172214021222941014338396330402661971150362189448) (a:=2) (f:=381) prm_26935696298915610574513298451669528361624243820491956655650666425177 (by kernel_rfl) (of_decide_eq_true (by kernel_rfl)) (by kernel_rfl) (by kernel_rfl) hd hdn
 exact pock_fin hd.1 h0 hdd (of_decide_eq_true (by kernel_rfl))
theorem prm_m:Prm 402096035359507321594726366720466575392706800671181159425656785868777272553337714697862511267018014931937703598282857976535744623203249:=by
 refine Classical.byContradiction fun hp=>?_
 obtain⟨d,hd,hdn,hdd⟩:=small_prime (n:=402096035359507321594726366720466575392706800671181159425656785868777272553337714697862511267018014931937703598282857976535744623203249) (by decide) hp
 have h0:4638704574076146691498289350639807119782054683906549022985642612861209609656189848749536921852444848596916990932297∣d-1:=pock (k:=86682828996409959984) (a:=2) (f:=448) prm_4638704574076146691498289350639807119782054683906549022985642612861209609656189848749536921852444848596916990932297 (by kernel_rfl) (of_decide_eq_true (by kernel_rfl)) (by kernel_rfl) (by kernel_rfl) hd hdn
 exact pock_fin hd.1 h0 hdd (of_decide_eq_true (by kernel_rfl))
theorem prm_13:Prm 13:=trial (f:=1) (by decide) (by decide) (by kernel_rfl)
theorem prm_23:Prm 23:=trial (f:=2) (by decide) (by decide) (by kernel_rfl)
theorem prm_2713:Prm 2713:=trial (f:=6) (by decide) (by decide) (by kernel_rfl)
theorem prm_11953:Prm 11953:=trial (f:=7) (by decide) (by decide) (by kernel_rfl)
theorem prm_262069:Prm 262069:=trial (f:=9) (by decide) (by decide) (by kernel_rfl)
end Cr
namespace Cr
open Rg Fd Go.Eng
abbrev F6:=F2 × F2 × F2
def xi:F2:=((1:Fp),(1:Fp))
theorem xi_mul (x:F2):xi*x=(x.1-x.2,x.1+x.2):=by
 rw[F2.mul_def]
 show ((1:Fp)*x.1-1*x.2,1*x.2+1*x.1)=_
 rw[one_mul,one_mul,add_comm x.2]
theorem f6_c1 {F:Type} [Rg F] (a b c d e f x:F):a*d+x*(b*f+c*e)=d*a+x*(e*c+f*b) :=
 rid [a,b,c,d,e,f,x] ((fun (a b c d e f x:PE)=>(a*d+x*(b*f+c*e))) (.v 0) (.v 1) (.v 2) (.v 3) (.v 4) (.v 5) (.v 6)) ((fun (a b c d e f x:PE)=>(d*a+x*(e*c+f*b))) (.v 0) (.v 1) (.v 2) (.v 3) (.v 4) (.v 5) (.v 6)) (by kernel_rfl)
theorem f6_c2 {F:Type} [Rg F] (a b c d e f x:F):a*e+b*d+x*(c*f)=d*b+e*a+x*(f*c) :=
 rid [a,b,c,d,e,f,x] ((fun (a b c d e f x:PE)=>(a*e+b*d+x*(c*f))) (.v 0) (.v 1) (.v 2) (.v 3) (.v 4) (.v 5) (.v 6)) ((fun (a b c d e f x:PE)=>(d*b+e*a+x*(f*c))) (.v 0) (.v 1) (.v 2) (.v 3) (.v 4) (.v 5) (.v 6)) (by kernel_rfl)
theorem f6_c3 {F:Type} [Rg F] (a b c d e f x:F):a*f+b*e+c*d=d*c+e*b+f*a :=
 rid [a,b,c,d,e,f,x] ((fun (a b c d e f x:PE)=>(a*f+b*e+c*d)) (.v 0) (.v 1) (.v 2) (.v 3) (.v 4) (.v 5) (.v 6)) ((fun (a b c d e f x:PE)=>(d*c+e*b+f*a)) (.v 0) (.v 1) (.v 2) (.v 3) (.v 4) (.v 5) (.v 6)) (by kernel_rfl)
theorem f6_s1 {F:Type} [Rg F] (a b c d e f g h k x:F):(a*d+x*(b*f+c*e))*g+x*((a*e+b*d+x*(c*f))*k+(a*f+b*e+c*d)*h)=a*(d*g+x*(e*k+f*h))+x*(b*(d*k+e*h+f*g)+c*(d*h+e*g+x*(f*k))) :=
 rid [a,b,c,d,e,f,g,h,k,x] ((fun (a b c d e f g h k x:PE)=>((a*d+x*(b*f+c*e))*g+x*((a*e+b*d+x*(c*f))*k+(a*f+b*e+c*d)*h))) (.v 0) (.v 1) (.v 2) (.v 3) (.v 4) (.v 5) (.v 6) (.v 7) (.v 8) (.v 9)) ((fun (a b c d e f g h k x:PE)=>(a*(d*g+x*(e*k+f*h))+x*(b*(d*k+e*h+f*g)+c*(d*h+e*g+x*(f*k))))) (.v 0) (.v 1) (.v 2) (.v 3) (.v 4) (.v 5) (.v 6) (.v 7) (.v 8) (.v 9)) (by kernel_rfl)
theorem f6_s2 {F:Type} [Rg F] (a b c d e f g h k x:F):(a*d+x*(b*f+c*e))*h+(a*e+b*d+x*(c*f))*g+x*((a*f+b*e+c*d)*k)=a*(d*h+e*g+x*(f*k))+b*(d*g+x*(e*k+f*h))+x*(c*(d*k+e*h+f*g)) :=
 rid [a,b,c,d,e,f,g,h,k,x] ((fun (a b c d e f g h k x:PE)=>((a*d+x*(b*f+c*e))*h+(a*e+b*d+x*(c*f))*g+x*((a*f+b*e+c*d)*k))) (.v 0) (.v 1) (.v 2) (.v 3) (.v 4) (.v 5) (.v 6) (.v 7) (.v 8) (.v 9)) ((fun (a b c d e f g h k x:PE)=>(a*(d*h+e*g+x*(f*k))+b*(d*g+x*(e*k+f*h))+x*(c*(d*k+e*h+f*g)))) (.v 0) (.v 1) (.v 2) (.v 3) (.v 4) (.v 5) (.v 6) (.v 7) (.v 8) (.v 9)) (by kernel_rfl)
theorem f6_s3 {F:Type} [Rg F] (a b c d e f g h k x:F):(a*d+x*(b*f+c*e))*k+(a*e+b*d+x*(c*f))*h+(a*f+b*e+c*d)*g=a*(d*k+e*h+f*g)+b*(d*h+e*g+x*(f*k))+c*(d*g+x*(e*k+f*h)) :=
 rid [a,b,c,d,e,f,g,h,k,x] ((fun (a b c d e f g h k x:PE)=>((a*d+x*(b*f+c*e))*k+(a*e+b*d+x*(c*f))*h+(a*f+b*e+c*d)*g)) (.v 0) (.v 1) (.v 2) (.v 3) (.v 4) (.v 5) (.v 6) (.v 7) (.v 8) (.v 9)) ((fun (a b c d e f g h k x:PE)=>(a*(d*k+e*h+f*g)+b*(d*h+e*g+x*(f*k))+c*(d*g+x*(e*k+f*h)))) (.v 0) (.v 1) (.v 2) (.v 3) (.v 4) (.v 5) (.v 6) (.v 7) (.v 8) (.v 9)) (by kernel_rfl)
theorem f6_o1 {F:Type} [Rg F] (a b c x:F):1*a+x*(0*c+0*b)=a :=
 rid [a,b,c,x] ((fun (a b c x:PE)=>(1*a+x*(0*c+0*b))) (.v 0) (.v 1) (.v 2) (.v 3)) ((fun (a b c x:PE)=>(a)) (.v 0) (.v 1) (.v 2) (.v 3)) (by kernel_rfl)
theorem f6_o2 {F:Type} [Rg F] (a b c x:F):1*b+0*a+x*(0*c)=b :=
 rid [a,b,c,x] ((fun (a b c x:PE)=>(1*b+0*a+x*(0*c))) (.v 0) (.v 1) (.v 2) (.v 3)) ((fun (a b c x:PE)=>(b)) (.v 0) (.v 1) (.v 2) (.v 3)) (by kernel_rfl)
theorem f6_o3 {F:Type} [Rg F] (a b c:F):1*c+0*b+0*a=c :=
 rid [a,b,c] ((fun (a b c:PE)=>(1*c+0*b+0*a)) (.v 0) (.v 1) (.v 2)) ((fun (a b c:PE)=>(c)) (.v 0) (.v 1) (.v 2)) (by kernel_rfl)
theorem f6_d1 {F:Type} [Rg F] (a b c d e f g h k x:F):(a+d)*g+x*((b+e)*k+(c+f)*h)=a*g+x*(b*k+c*h)+(d*g+x*(e*k+f*h)) :=
 rid [a,b,c,d,e,f,g,h,k,x] ((fun (a b c d e f g h k x:PE)=>((a+d)*g+x*((b+e)*k+(c+f)*h))) (.v 0) (.v 1) (.v 2) (.v 3) (.v 4) (.v 5) (.v 6) (.v 7) (.v 8) (.v 9)) ((fun (a b c d e f g h k x:PE)=>(a*g+x*(b*k+c*h)+(d*g+x*(e*k+f*h)))) (.v 0) (.v 1) (.v 2) (.v 3) (.v 4) (.v 5) (.v 6) (.v 7) (.v 8) (.v 9)) (by kernel_rfl)
theorem f6_d2 {F:Type} [Rg F] (a b c d e f g h k x:F):(a+d)*h+(b+e)*g+x*((c+f)*k)=a*h+b*g+x*(c*k)+(d*h+e*g+x*(f*k)) :=
 rid [a,b,c,d,e,f,g,h,k,x] ((fun (a b c d e f g h k x:PE)=>((a+d)*h+(b+e)*g+x*((c+f)*k))) (.v 0) (.v 1) (.v 2) (.v 3) (.v 4) (.v 5) (.v 6) (.v 7) (.v 8) (.v 9)) ((fun (a b c d e f g h k x:PE)=>(a*h+b*g+x*(c*k)+(d*h+e*g+x*(f*k)))) (.v 0) (.v 1) (.v 2) (.v 3) (.v 4) (.v 5) (.v 6) (.v 7) (.v 8) (.v 9)) (by kernel_rfl)
theorem f6_d3 {F:Type} [Rg F] (a b c d e f g h k:F):(a+d)*k+(b+e)*h+(c+f)*g=a*k+b*h+c*g+(d*k+e*h+f*g) :=
 rid [a,b,c,d,e,f,g,h,k] ((fun (a b c d e f g h k:PE)=>((a+d)*k+(b+e)*h+(c+f)*g)) (.v 0) (.v 1) (.v 2) (.v 3) (.v 4) (.v 5) (.v 6) (.v 7) (.v 8)) ((fun (a b c d e f g h k:PE)=>(a*k+b*h+c*g+(d*k+e*h+f*g))) (.v 0) (.v 1) (.v 2) (.v 3) (.v 4) (.v 5) (.v 6) (.v 7) (.v 8)) (by kernel_rfl)
section
variable {R:Type} [Rg R] (v:R)
noncomputable def cadd (x y:R × R × R):R × R × R:=opq (x.1+y.1,x.2.1+y.2.1,x.2.2+y.2.2)
noncomputable def csub (x y:R × R × R):R × R × R:=opq (x.1-y.1,x.2.1-y.2.1,x.2.2-y.2.2)
noncomputable def cneg (x:R × R × R):R × R × R:=opq (-x.1,-x.2.1,-x.2.2)
noncomputable def cmul (x y:R × R × R):R × R × R:=opq (x.1*y.1+v*(x.2.1*y.2.2+x.2.2*y.2.1),x.1*y.2.1+x.2.1*y.1+v*(x.2.2*y.2.2),x.1*y.2.2+x.2.1*y.2.1+x.2.2*y.1)
theorem cadd_def (x y:R × R × R):cadd x y=(x.1+y.1,x.2.1+y.2.1,x.2.2+y.2.2):=opq_eq _
theorem csub_def (x y:R × R × R):csub x y=(x.1-y.1,x.2.1-y.2.1,x.2.2-y.2.2):=opq_eq _
theorem cneg_def (x:R × R × R):cneg x=(-x.1,-x.2.1,-x.2.2):=opq_eq _
theorem cmul_def (x y:R × R × R):cmul v x y=(x.1*y.1+v*(x.2.1*y.2.2+x.2.2*y.2.1),x.1*y.2.1+x.2.1*y.1+v*(x.2.2*y.2.2),x.1*y.2.2+x.2.1*y.2.1+x.2.2*y.1):=opq_eq _
omit [Rg R] in
theorem cext {x y:R × R × R} (h1:x.1=y.1) (h2:x.2.1=y.2.1) (h3:x.2.2=y.2.2):x=y:=Prod.ext h1 (Prod.ext h2 h3)
theorem c_l1 (a b:R × R × R):cadd a b=cadd b a:=by rw[cadd_def,cadd_def,add_comm,add_comm a.2.1,add_comm a.2.2]
theorem c_l2 (a b c:R × R × R):cadd (cadd a b) c=cadd a (cadd b c):=by rw[cadd_def,cadd_def,cadd_def,cadd_def,add_assoc,add_assoc,add_assoc]
theorem c_l3 (a:R × R × R):cadd (0,0,0) a=a:=by rw[cadd_def,zero_add,zero_add,zero_add]
theorem c_l4 (a:R × R × R):cadd (cneg a) a=(0,0,0):=by rw[cadd_def,cneg_def,neg_add,neg_add,neg_add]
theorem c_l5 (a b:R × R × R):csub a b=cadd a (cneg b):=by rw[cadd_def,cneg_def,csub_def,Rg.sub_def,Rg.sub_def,Rg.sub_def]
theorem c_l6 (a b:R × R × R):cmul v a b=cmul v b a:=by rw[cmul_def,cmul_def];exact cext (f6_c1 _ _ _ _ _ _ _) (f6_c2 _ _ _ _ _ _ _) (f6_c3 _ _ _ _ _ _ (0:R))
theorem c_l7 (a b c:R × R × R):cmul v (cmul v a b) c=cmul v a (cmul v b c):=by rw[cmul_def,cmul_def,cmul_def,cmul_def];exact cext (f6_s1 _ _ _ _ _ _ _ _ _ _) (f6_s2 _ _ _ _ _ _ _ _ _ _) (f6_s3 _ _ _ _ _ _ _ _ _ _)
theorem c_l8 (a:R × R × R):cmul v (1,0,0) a=a:=by rw[cmul_def];exact cext (f6_o1 _ _ _ _) (f6_o2 _ _ _ _) (f6_o3 _ _ _)
theorem c_l9 (a b c:R × R × R):cmul v (cadd a b) c=cadd (cmul v a c) (cmul v b c):=by rw[cadd_def,cmul_def,cmul_def,cmul_def,cadd_def];exact cext (f6_d1 _ _ _ _ _ _ _ _ _ _) (f6_d2 _ _ _ _ _ _ _ _ _ _) (f6_d3 _ _ _ _ _ _ _ _ _)
end
noncomputable instance rgF6:Rg F6 where
 zero:=(0,0,0)
 one:=(1,0,0)
 add:=cadd
 sub:=csub
 neg:=cneg
 mul:=cmul xi
 add_comm:=c_l1
 add_assoc:=c_l2
 zero_add:=c_l3
 neg_add:=c_l4
 sub_def:=c_l5
 mul_comm:=c_l6 xi
 mul_assoc:=c_l7 xi
 one_mul:=c_l8 xi
 add_mul:=c_l9 xi
theorem F6.ext {x y:F6} (h1:x.1=y.1) (h2:x.2.1=y.2.1) (h3:x.2.2=y.2.2):x=y:=Prod.ext h1 (Prod.ext h2 h3)
theorem F6.add_def (x y:F6):x+y=(x.1+y.1,x.2.1+y.2.1,x.2.2+y.2.2):=cadd_def x y
theorem F6.sub_def (x y:F6):x-y=(x.1-y.1,x.2.1-y.2.1,x.2.2-y.2.2):=csub_def x y
theorem F6.neg_def (x:F6) : -x=(-x.1,-x.2.1,-x.2.2):=cneg_def x
theorem F6.mul_def (x y:F6):x*y=(x.1*y.1+xi*(x.2.1*y.2.2+x.2.2*y.2.1),x.1*y.2.1+x.2.1*y.1+xi*(x.2.2*y.2.2),x.1*y.2.2+x.2.1*y.2.1+x.2.2*y.1):=cmul_def xi x y
theorem f2_nn {F:Type} [Rg F] (a b c d:F):(a*c-b*d)*(a*c-b*d)+(a*d+b*c)*(a*d+b*c)=(a*a+b*b)*(c*c+d*d) :=
 rid [a,b,c,d] ((fun (a b c d:PE)=>((a*c-b*d)*(a*c-b*d)+(a*d+b*c)*(a*d+b*c))) (.v 0) (.v 1) (.v 2) (.v 3)) ((fun (a b c d:PE)=>((a*a+b*b)*(c*c+d*d))) (.v 0) (.v 1) (.v 2) (.v 3)) (by kernel_rfl)
noncomputable def nm2 (x:F2):Fp:=x.1*x.1+x.2*x.2
theorem nm2_mul (x y:F2):nm2 (x*y)=nm2 x*nm2 y:=by
 unfold nm2
 rw[F2.mul1,F2.mul2]
 exact f2_nn _ _ _ _
theorem nm2_xi:nm2 xi=1+1:=by
 unfold nm2 xi
 show (1:Fp)*1+1*1=1+1
 rw[one_mul]
section
variable {M:Int} [Md M]
theorem zpow_add' (x:Zm M) (m n:Nat):zpow x (m+n)=zpow x m*zpow x n:=by
 induction n with
 | zero=>show zpow x m=zpow x m*1;rw[mul_one]
 | succ n ih=>show zpow x (m+n)*x=zpow x m*(zpow x n*x);rw[ih,mul_assoc]
theorem zpow_mul' (x:Zm M) (m n:Nat):zpow x (m*n)=zpow (zpow x m) n:=by
 induction n with
 | zero=>rfl
 | succ n ih=>show zpow x (m*n+m)=zpow (zpow x m) n*zpow x m;rw[zpow_add',ih]
end
def fpP:Nat:=4002409555221667393417789825735904156556882819939007885332058136124031650490837864442687629129015664037894272559787
theorem fp_fermat {x:Fp} (hx:x≠0):zpow x (fpP-1)=1:=by
 have h1:=zm_fermat Mp_nat prm_p hx (n:=fpP-2) (of_decide_eq_true (by kernel_rfl))
 have h3:zpow x (fpP-1)=zpow x (fpP-2+1):=congrArg (zpow x) (of_decide_eq_true (by kernel_rfl))
 have h4:zpow x (fpP-2+1)=zpow x (fpP-2)*x:=rfl
 rw[h3,h4,mul_comm,h1]
def npm (m x:Nat):Nat->Nat->Nat
 | 0,_=>1
 | f+1,n=>match n with
  | 0=>1
  | n+1=>fc (npm m x f ((n+1)/2)) fun h=>match (n+1)%2 with
   | 0=>h*h%m
   | _=>h*h%m*x%m
theorem npm_eq (m x:Nat) (hm:1<m):∀ f n,n<2^f->npm m x f n=x^n%m
 | 0,n,h=>by
  have:n=0:=by simpa using h
  subst this
  show 1=1%m
  rw[Nat.mod_eq_of_lt hm]
 | f+1,0,_=>by show 1=1%m;rw[Nat.mod_eq_of_lt hm]
 | f+1,n+1,h=>by
  have ih:=npm_eq m x hm f ((n+1)/2) (by rw[Nat.pow_succ] at h;omega)
  rw[npm,fc_eq,ih]
  have e:n+1=(n+1)/2+(n+1)/2+(n+1)%2:=by omega
  have e2:x^(n+1)=x^((n+1)/2)*x^((n+1)/2)*x^((n+1)%2):=by rw[<- Nat.pow_add,<- Nat.pow_add,<- e]
  rw[e2]
  rcases Nat.mod_two_eq_zero_or_one (n+1) with h0|h0
  ·rw[h0,Nat.pow_zero,Nat.mul_one,<- Nat.mul_mod]
   rfl
  ·rw[h0,Nat.pow_one]
   show x^((n+1)/2)%m*(x^((n+1)/2)%m)%m*x%m=_
   rw[<- Nat.mul_mod,Nat.mul_mod (_%m) x,Nat.mod_mod,<- Nat.mul_mod]
theorem zpow_two_v (n:Nat):(zpow (1+1:Fp) n).v=((2^n%fpP:Nat):Int):=by
 rw[zpow_v]
 have:(1+1:Fp).v=2:=by decide
 rw[this,Mp_nat,Int.natCast_emod,Int.natCast_pow];rfl
theorem no_pow2 {s:Fp} {k:Nat} {q:Nat} (hq:q*k=fpP-1) (h:zpow s k=1+1):(2:Nat)^q%fpP=1:=by
 have hs:zpow (1+1:Fp) q=1:=by
  rw[<- h,<- zpow_mul',Nat.mul_comm,hq]
  refine fp_fermat ?_
  intro e
  subst e
  cases k with
  | zero=>rw[Nat.mul_zero] at hq;exact absurd hq (by decide)
  | succ k =>
   have:zpow (0:Fp) (k+1)=zpow (0:Fp) k*0:=rfl
   rw[this,mul_zero] at h
   exact absurd h (by decide)
 have h2:=zpow_two_v q
 rw[hs] at h2
 have:(1:Fp).v=1:=by decide
 rw[this] at h2
 omega
theorem two_sq:npm fpP 2 384 2001204777610833696708894912867952078278441409969503942666029068062015825245418932221343814564507832018947136279893=fpP-1:=by kernel_rfl
theorem two_cube:Nat.beq (npm fpP 2 384 1334136518407222464472596608578634718852294273313002628444019378708010550163612621480895876376338554679298090853262) 1=false:=by kernel_rfl
theorem xi_sq {s:F2} (h:s*s=xi):False:=by
 have e:=congrArg nm2 h
 rw[nm2_mul,nm2_xi] at e
 have k:=no_pow2 (s:=nm2 s) (k:=2) (q:=2001204777610833696708894912867952078278441409969503942666029068062015825245418932221343814564507832018947136279893) (of_decide_eq_true (by kernel_rfl)) (by
  show 1*nm2 s*nm2 s=1+1
  rw[one_mul];exact e)
 have t:=two_sq
 rw[npm_eq _ _ (by decide) 384 _ (of_decide_eq_true (by kernel_rfl)),k] at t
 exact absurd t (by decide)
theorem xi_cube {s:F2} (h:s*s*s=xi):False:=by
 have e:=congrArg nm2 h
 rw[nm2_mul,nm2_mul,nm2_xi] at e
 have k:=no_pow2 (s:=nm2 s) (k:=3) (q:=1334136518407222464472596608578634718852294273313002628444019378708010550163612621480895876376338554679298090853262) (of_decide_eq_true (by kernel_rfl)) (by
  show 1*nm2 s*nm2 s*nm2 s=1+1
  rw[one_mul];exact e)
 have t:=two_cube
 rw[npm_eq _ _ (by decide) 384 _ (of_decide_eq_true (by kernel_rfl)),k] at t
 exact absurd t (by decide)
theorem n6_id {F:Type} [Rg F] (a b c x:F):(a*(a*a-x*(b*c))+x*(c*(x*(c*c)-a*b)+b*(b*b-a*c)))*(x*(c*c*c)-b*b*b)=(x*(c*c)-a*b)*(x*(c*c)-a*b)*(x*(c*c)-a*b)+x*((c*a-b*b)*(c*a-b*b)*(c*a-b*b)) :=
 rid [a,b,c,x] ((fun (a b c x:PE)=>((a*(a*a-x*(b*c))+x*(c*(x*(c*c)-a*b)+b*(b*b-a*c)))*(x*(c*c*c)-b*b*b))) (.v 0) (.v 1) (.v 2) (.v 3)) ((fun (a b c x:PE)=>((x*(c*c)-a*b)*(x*(c*c)-a*b)*(x*(c*c)-a*b)+x*((c*a-b*b)*(c*a-b*b)*(c*a-b*b)))) (.v 0) (.v 1) (.v 2) (.v 3)) (by kernel_rfl)
theorem n6_c0 {F:Type} [Rg F] (a b x:F):a*(a*a-x*(b*0))+x*(0*(x*(0*0)-a*b)+b*(b*b-a*0))=a*a*a+x*(b*b*b) :=
 rid [a,b,x] ((fun (a b x:PE)=>(a*(a*a-x*(b*0))+x*(0*(x*(0*0)-a*b)+b*(b*b-a*0)))) (.v 0) (.v 1) (.v 2)) ((fun (a b x:PE)=>(a*a*a+x*(b*b*b))) (.v 0) (.v 1) (.v 2)) (by kernel_rfl)
theorem n6_t {F:Type} [Rg F] (a j:F):(- a*j)*(- a*j)*(- a*j)=-(a*a*a*(j*j*j)) :=
 rid [a,j] ((fun (a j:PE)=>((- a*j)*(- a*j)*(- a*j))) (.v 0) (.v 1)) ((fun (a j:PE)=>(-(a*a*a*(j*j*j)))) (.v 0) (.v 1)) (by kernel_rfl)
theorem n6_q {F:Type} [Rg F] (x c j:F):x*(c*c*c)*(j*j*j)=x*((c*j)*(c*j)*(c*j)) :=
 rid [x,c,j] ((fun (x c j:PE)=>(x*(c*c*c)*(j*j*j))) (.v 0) (.v 1) (.v 2)) ((fun (x c j:PE)=>(x*((c*j)*(c*j)*(c*j)))) (.v 0) (.v 1) (.v 2)) (by kernel_rfl)
theorem n6_p1 {F:Type} [Rg F] (b c a x:F):b*b*b-c*c*c*x=(-b)*(c*a-b*b)+(-c)*(x*(c*c)-a*b) :=
 rid [b,c,a,x] ((fun (b c a x:PE)=>(b*b*b-c*c*c*x)) (.v 0) (.v 1) (.v 2) (.v 3)) ((fun (b c a x:PE)=>((-b)*(c*a-b*b)+(-c)*(x*(c*c)-a*b))) (.v 0) (.v 1) (.v 2) (.v 3)) (by kernel_rfl)
theorem n6_p2 {F:Type} [Rg F] (b c j x:F):b*j*(b*j)*(b*j)-x*((c*j)*(c*j)*(c*j))=(j*j*j)*(b*b*b-c*c*c*x) :=
 rid [b,c,j,x] ((fun (b c j x:PE)=>(b*j*(b*j)*(b*j)-x*((c*j)*(c*j)*(c*j)))) (.v 0) (.v 1) (.v 2) (.v 3)) ((fun (b c j x:PE)=>((j*j*j)*(b*b*b-c*c*c*x))) (.v 0) (.v 1) (.v 2) (.v 3)) (by kernel_rfl)
theorem i6_1 {F:Type} [Rg F] (a b c x n:F):a*((a*a-x*(b*c))*n)+x*(b*((b*b-a*c)*n)+c*((x*(c*c)-a*b)*n))=(a*(a*a-x*(b*c))+x*(c*(x*(c*c)-a*b)+b*(b*b-a*c)))*n :=
 rid [a,b,c,x,n] ((fun (a b c x n:PE)=>(a*((a*a-x*(b*c))*n)+x*(b*((b*b-a*c)*n)+c*((x*(c*c)-a*b)*n)))) (.v 0) (.v 1) (.v 2) (.v 3) (.v 4)) ((fun (a b c x n:PE)=>((a*(a*a-x*(b*c))+x*(c*(x*(c*c)-a*b)+b*(b*b-a*c)))*n)) (.v 0) (.v 1) (.v 2) (.v 3) (.v 4)) (by kernel_rfl)
theorem i6_2 {F:Type} [Rg F] (a b c x n:F):a*((x*(c*c)-a*b)*n)+b*((a*a-x*(b*c))*n)+x*(c*((b*b-a*c)*n))=0 :=
 rid [a,b,c,x,n] ((fun (a b c x n:PE)=>(a*((x*(c*c)-a*b)*n)+b*((a*a-x*(b*c))*n)+x*(c*((b*b-a*c)*n)))) (.v 0) (.v 1) (.v 2) (.v 3) (.v 4)) ((fun (a b c x n:PE)=>(0)) (.v 0) (.v 1) (.v 2) (.v 3) (.v 4)) (by kernel_rfl)
theorem i6_3 {F:Type} [Rg F] (a b c x n:F):a*((b*b-a*c)*n)+b*((x*(c*c)-a*b)*n)+c*((a*a-x*(b*c))*n)=0 :=
 rid [a,b,c,x,n] ((fun (a b c x n:PE)=>(a*((b*b-a*c)*n)+b*((x*(c*c)-a*b)*n)+c*((a*a-x*(b*c))*n))) (.v 0) (.v 1) (.v 2) (.v 3) (.v 4)) ((fun (a b c x n:PE)=>(0)) (.v 0) (.v 1) (.v 2) (.v 3) (.v 4)) (by kernel_rfl)
theorem n6_sq {F:Type} [Rg F] (a b c x:F):(a*a+x*(b*c+c*b))*((a*a+x*(b*c+c*b))*(a*a+x*(b*c+c*b))-x*((a*b+b*a+x*(c*c))*(a*c+b*b+c*a)))+x*((a*c+b*b+c*a)*(x*((a*c+b*b+c*a)*(a*c+b*b+c*a))-(a*a+x*(b*c+c*b))*(a*b+b*a+x*(c*c)))+(a*b+b*a+x*(c*c))*((a*b+b*a+x*(c*c))*(a*b+b*a+x*(c*c))-(a*a+x*(b*c+c*b))*(a*c+b*b+c*a)))=(a*(a*a-x*(b*c))+x*(c*(x*(c*c)-a*b)+b*(b*b-a*c)))*(a*(a*a-x*(b*c))+x*(c*(x*(c*c)-a*b)+b*(b*b-a*c))) :=
 rid [a,b,c,x] ((fun (a b c x:PE)=>((a*a+x*(b*c+c*b))*((a*a+x*(b*c+c*b))*(a*a+x*(b*c+c*b))-x*((a*b+b*a+x*(c*c))*(a*c+b*b+c*a)))+x*((a*c+b*b+c*a)*(x*((a*c+b*b+c*a)*(a*c+b*b+c*a))-(a*a+x*(b*c+c*b))*(a*b+b*a+x*(c*c)))+(a*b+b*a+x*(c*c))*((a*b+b*a+x*(c*c))*(a*b+b*a+x*(c*c))-(a*a+x*(b*c+c*b))*(a*c+b*b+c*a))))) (.v 0) (.v 1) (.v 2) (.v 3)) ((fun (a b c x:PE)=>((a*(a*a-x*(b*c))+x*(c*(x*(c*c)-a*b)+b*(b*b-a*c)))*(a*(a*a-x*(b*c))+x*(c*(x*(c*c)-a*b)+b*(b*b-a*c))))) (.v 0) (.v 1) (.v 2) (.v 3)) (by kernel_rfl)
theorem n6_vv {F:Type} [Rg F] (x:F):0*(0*0-x*(1*0))+x*(0*(x*(0*0)-0*1)+1*(1*1-0*0))=x :=
 rid [x] ((fun (x:PE)=>(0*(0*0-x*(1*0))+x*(0*(x*(0*0)-0*1)+1*(1*1-0*0)))) (.v 0)) ((fun (x:PE)=>(x)) (.v 0)) (by kernel_rfl)
section
variable {R:Type} [Fd R] (x:R)
theorem c_lin (hx:∀ s:R,s*s*s=x->False) {a c:R} (h:a*a*a+x*(c*c*c)=0):a=0/\c=0:=by
 have hc:c=0:=by
  refine Classical.byContradiction fun hc=>?_
  have hi:=mul_inv c hc
  refine hx (-a*inv c) ?_
  have e:a*a*a=-(x*(c*c*c)):=by
   have:=neg_eq h
   rw[<- this,neg_neg]
  rw[n6_t,e,neg_mul,neg_neg]
  have:x*(c*c*c)*(inv c*inv c*inv c)=x*((c*inv c)*(c*inv c)*(c*inv c)):=n6_q _ _ _
  rw[this,hi,one_mul,one_mul,mul_one]
 refine⟨?_,hc⟩
 rw[hc,mul_zero,mul_zero,add_zero] at h
 rcases mul_eq_zero h with h|h
 ·rcases mul_eq_zero h with h|h<;>exact h
 ·exact h
def cadj (t:R × R × R):R × R × R:=(t.1*t.1-x*(t.2.1*t.2.2),x*(t.2.2*t.2.2)-t.1*t.2.1,t.2.1*t.2.1-t.1*t.2.2)
def cnm (t:R × R × R):R:=t.1*(t.1*t.1-x*(t.2.1*t.2.2))+x*(t.2.2*(x*(t.2.2*t.2.2)-t.1*t.2.1)+t.2.1*(t.2.1*t.2.1-t.1*t.2.2))
theorem cnm_ne (hx:∀ s:R,s*s*s=x->False) {t:R × R × R} (h:t≠(0,0,0)):cnm x t≠0:=by
 intro e
 unfold cnm at e
 by_cases hc:t.2.2=0
 ·rw[hc,n6_c0] at e
  obtain⟨h1,h2⟩:=c_lin x hx e
  exact h (cext h1 h2 hc)
 ·have k:=n6_id t.1 t.2.1 t.2.2 x
  rw[e,zero_mul] at k
  obtain⟨h1,h2⟩:=c_lin x hx k.symm
  have hi:=mul_inv _ hc
  refine hx (t.2.1*inv t.2.2) (eq_of_sub ?_)
  have p:=n6_p1 t.2.1 t.2.2 t.1 x
  rw[h1,h2,mul_zero,mul_zero,add_zero] at p
  have q:=n6_p2 t.2.1 t.2.2 (inv t.2.2) x
  rw[p,mul_zero,hi,one_mul,one_mul,mul_one] at q
  exact q
noncomputable def cinv (t:R × R × R):R × R × R:=opq ((cadj x t).1*inv (cnm x t),(cadj x t).2.1*inv (cnm x t),(cadj x t).2.2*inv (cnm x t))
theorem cinv_def (t:R × R × R):cinv x t=((cadj x t).1*inv (cnm x t),(cadj x t).2.1*inv (cnm x t),(cadj x t).2.2*inv (cnm x t)):=opq_eq _
theorem cinv_mul (hx:∀ s:R,s*s*s=x->False) {t:R × R × R} (h:t≠(0,0,0)):cmul x t (cinv x t)=(1,0,0):=by
 have hn:=mul_inv _ (cnm_ne x hx h)
 rw[cmul_def,cinv_def]
 exact cext ((i6_1 _ _ _ _ _).trans hn) (i6_2 _ _ _ _ _) (i6_3 _ _ _ _ _)
theorem cnm_sq (t:R × R × R):cnm x (cmul x t t)=cnm x t*cnm x t:=by
 rw[cmul_def]
 exact n6_sq t.1 t.2.1 t.2.2 x
theorem cnm_v:cnm x ((0:R),(1:R),(0:R))=x:=n6_vv x
end
noncomputable abbrev nm6 (t:F6):F2:=cnm xi t
noncomputable abbrev inv6 (t:F6):F6:=cinv xi t
noncomputable instance fdF6:Fd F6 where
 deq:=inferInstanceAs (DecidableEq (F2 × F2 × F2))
 inv:=inv6
 mul_inv _ h:=cinv_mul xi (fun _ e=>xi_cube e) h
 one_ne:=fun h=>absurd (congrArg Prod.fst h) one_ne
 two_ne:=fun h=>absurd (congrArg Prod.fst h) (by rw[F6.add_def];exact two_ne)
 three_ne:=fun h=>absurd (congrArg Prod.fst h) (by rw[F6.add_def,F6.add_def];exact three_ne)
end Cr
namespace Cr
open Rg
section
variable {F:Type} [Rg F]
def pwn (x:F):Nat->F
 | 0=>1
 | n+1=>pwn x n*x
theorem pwn_add (x:F) (m n:Nat):pwn x (m+n)=pwn x m*pwn x n:=by
 induction n with
 | zero=>show pwn x m=pwn x m*1;rw[mul_one]
 | succ n ih=>show pwn x (m+n)*x=pwn x m*(pwn x n*x);rw[ih,mul_assoc]
theorem pwn_mul (x:F) (m n:Nat):pwn x (m*n)=pwn (pwn x m) n:=by
 induction n with
 | zero=>rfl
 | succ n ih=>show pwn x (m*n+m)=pwn (pwn x m) n*pwn x m;rw[pwn_add,ih]
theorem pwn_prod (x y:F) (n:Nat):pwn (x*y) n=pwn x n*pwn y n:=by
 induction n with
 | zero=>show (1:F)=1*1;rw[one_mul]
 | succ n ih =>
  show pwn (x*y) n*(x*y)=pwn x n*x*(pwn y n*y)
  rw[ih,mul_assoc,mul_assoc,<- mul_assoc (pwn y n),mul_comm (pwn y n),mul_assoc x]
theorem pwn_one (n:Nat):pwn (1:F) n=1:=by
 induction n with
 | zero=>rfl
 | succ n ih=>show pwn (1:F) n*1=1;rw[ih,mul_one]
def sumN (f:Nat->F):Nat->F
 | 0=>0
 | n+1=>sumN f n+f n
theorem sumN_congr {f g:Nat->F}:∀ n,(∀ k,k<n->f k=g k)->sumN f n=sumN g n
 | 0,_=>rfl
 | n+1,h=>by show sumN f n+f n=sumN g n+g n;rw[sumN_congr n (fun k hk=>h k (by omega)),h n (by omega)]
theorem sumN_add (f g:Nat->F):∀ n,sumN (fun k=>f k+g k) n=sumN f n+sumN g n
 | 0=>by show (0:F)=0+0;rw[zero_add]
 | n+1=>by show sumN _ n+(f n+g n)=sumN f n+f n+(sumN g n+g n);rw[sumN_add f g n,add_add_add]
theorem sumN_mul (f:Nat->F) (c:F):∀ n,sumN f n*c=sumN (fun k=>f k*c) n
 | 0=>zero_mul c
 | n+1=>by show (sumN f n+f n)*c=_+f n*c;rw[add_mul,sumN_mul f c n]
theorem sumN_shift (f:Nat->F):∀ n,sumN f (n+1)=f 0+sumN (fun k=>f (k+1)) n
 | 0=>by show 0+f 0=f 0+0;rw[zero_add,add_zero]
 | n+1=>by show sumN f (n+1)+f (n+1)=f 0+(sumN _ n+f (n+1));rw[sumN_shift f n,add_assoc]
theorem sumN_zero {f:Nat->F}:∀ n,(∀ k,k<n->f k=0)->sumN f n=0
 | 0,_=>rfl
 | n+1,h=>by show sumN f n+f n=0;rw[sumN_zero n (fun k hk=>h k (by omega)),h n (by omega),zero_add]
def bc:Nat->Nat->Nat
 | _,0=>1
 | 0,_+1=>0
 | n+1,k+1=>bc n k+bc n (k+1)
theorem bc_big:∀ n k,n<k->bc n k=0
 | 0,k+1,_=>rfl
 | n+1,k+1,h=>by show bc n k+bc n (k+1)=0;rw[bc_big n k (by omega),bc_big n (k+1) (by omega)]
theorem bc_self:∀ n,bc n n=1
 | 0=>rfl
 | n+1=>by show bc n n+bc n (n+1)=1;rw[bc_self n,bc_big n (n+1) (by omega)]
theorem bc_zero (n:Nat):bc n 0=1:=by cases n<;>rfl
theorem bc_abs:∀ n k,(k+1)*bc (n+1) (k+1)=(n+1)*bc n k
 | 0,0=>rfl
 | 0,k+1=>by show (k+2)*(bc 0 (k+1)+bc 0 (k+2))=_;rfl
 | n+1,0=>by
  have h:=bc_abs n 0
  show 1*(bc (n+1) 0+bc (n+1) 1)=(n+2)*bc (n+1) 0
  rw[bc_zero] at h ⊢
  have h:1*bc (n+1) 1=(n+1)*1:=h
  omega
 | n+1,k+1=>by
  have h1:=bc_abs n k
  have h2:=bc_abs n (k+1)
  show (k+2)*(bc (n+1) (k+1)+bc (n+1) (k+2))=(n+2)*bc (n+1) (k+1)
  have h3:bc (n+1) (k+1)=bc n k+bc n (k+1):=rfl
  have e1:(k+2)*(bc (n+1) (k+1)+bc (n+1) (k+2))=(k+1)*bc (n+1) (k+1)+bc (n+1) (k+1)+(k+2)*bc (n+1) (k+2):=by
   rw[Nat.mul_add,show (k+2)*bc (n+1) (k+1)=(k+1)*bc (n+1) (k+1)+bc (n+1) (k+1) by rw[<- Nat.succ_mul]]
  have e2:(n+2)*bc (n+1) (k+1)=(n+1)*bc n k+(n+1)*bc n (k+1)+bc (n+1) (k+1):=by
   rw[show (n+2)*bc (n+1) (k+1)=(n+1)*bc (n+1) (k+1)+bc (n+1) (k+1) by rw[<- Nat.succ_mul],h3,Nat.mul_add]
  rw[e1,e2,h1,h2]
  omega
theorem pwn_binom (x y:F):∀ n,pwn (x+y) n=sumN (fun k=>nc (bc n k)*(pwn x k*pwn y (n-k))) (n+1)
 | 0=>by
  show (1:F)=0+nc 1*(1*1)
  have:(nc 1:F)=1:=by show (0:F)+1=1;rw[zero_add]
  rw[this,one_mul,one_mul,zero_add]
 | n+1=>by
  have ih:=pwn_binom x y n
  show pwn (x+y) n*(x+y)=_
  rw[mul_add,ih,sumN_mul,sumN_mul,sumN_shift _ (n+1)]
  have a0:nc (bc (n+1) 0)*(pwn x 0*pwn y (n+1-0))=pwn y (n+1):=by
   have:(nc 1:F)=1:=by show (0:F)+1=1;rw[zero_add]
   rw[bc_zero,this,one_mul]
   show 1*pwn y (n+1)=_
   rw[one_mul]
  have a1:sumN (fun k=>nc (bc (n+1) (k+1))*(pwn x (k+1)*pwn y (n+1-(k+1)))) (n+1) =
    sumN (fun k=>nc (bc n k)*(pwn x (k+1)*pwn y (n-k))) (n+1)+sumN (fun k=>nc (bc n (k+1))*(pwn x (k+1)*pwn y (n-k))) (n+1):=by
   rw[<- sumN_add]
   refine sumN_congr _ fun k _=>?_
   show nc (bc n k+bc n (k+1))*_=_
   rw[nc_add,add_mul,Nat.add_sub_add_right]
  have a2:sumN (fun k=>nc (bc n k)*(pwn x k*pwn y (n-k))*x) (n+1)=sumN (fun k=>nc (bc n k)*(pwn x (k+1)*pwn y (n-k))) (n+1):=by
   refine sumN_congr _ fun k _=>?_
   show nc (bc n k)*(pwn x k*pwn y (n-k))*x=nc (bc n k)*(pwn x k*x*pwn y (n-k))
   rw[mul_assoc,mul_assoc,mul_assoc,mul_comm (pwn y (n-k)) x]
  have a3:sumN (fun k=>nc (bc n k)*(pwn x k*pwn y (n-k))*y) (n+1)=pwn y (n+1)+sumN (fun k=>nc (bc n (k+1))*(pwn x (k+1)*pwn y (n-k))) (n+1):=by
   rw[sumN_shift]
   have b0:nc (bc n 0)*(pwn x 0*pwn y (n-0))*y=pwn y (n+1):=by
    have:(nc 1:F)=1:=by show (0:F)+1=1;rw[zero_add]
    rw[bc_zero,this,one_mul]
    show 1*pwn y n*y=pwn y n*y
    rw[one_mul]
   have b1:sumN (fun k=>nc (bc n (k+1))*(pwn x (k+1)*pwn y (n-k))) (n+1)=sumN (fun k=>nc (bc n (k+1))*(pwn x (k+1)*pwn y (n-k))) n:=by
    show _+nc (bc n (n+1))*_=_
    rw[bc_big n (n+1) (by omega)]
    show _+(0:F)*_=_
    rw[zero_mul,add_zero]
   rw[b0,b1]
   congr 1
   refine sumN_congr _ fun k hk=>?_
   have e:n-k=n-(k+1)+1:=by omega
   rw[e]
   show nc _*(_*_)*y=nc _*(_*(pwn y (n-(k+1))*y))
   rw[mul_assoc,mul_assoc]
  rw[a0,a1,a2,a3]
  generalize sumN (fun k=>nc (bc n k)*(pwn x (k+1)*pwn y (n-k))) (n+1)=A
  generalize sumN (fun k=>nc (bc n (k+1))*(pwn x (k+1)*pwn y (n-k))) (n+1)=B
  rw[<- add_assoc,<- add_assoc,add_comm A]
theorem bc_dvd {p:Nat} (hp:Prm p) {k:Nat} (h0:0<k) (h1:k<p):p∣bc p k:=by
 obtain⟨k,rfl⟩:∃ j,k=j+1:=⟨k-1,by omega⟩
 obtain⟨n,rfl⟩:∃ m,p=m+1:=⟨p-1,by omega⟩
 have h:=bc_abs n k
 have hd:(n+1)∣(k+1)*bc (n+1) (k+1):=⟨_,h⟩
 rcases hp.dvd_mul hd with h2|h2
 ·exact absurd (Nat.le_of_dvd (by omega) h2) (by omega)
 ·exact h2
theorem pwn_sum {p:Nat} (hp:Prm p) (h0:(nc p:F)=0) (x y:F):pwn (x+y) p=pwn x p+pwn y p:=by
 have hp1:1<p:=hp.1
 obtain⟨n,rfl⟩:∃ m,p=m+1:=⟨p-1,by omega⟩
 have n1:(nc 1:F)=1:=by show (0:F)+1=1;rw[zero_add]
 rw[pwn_binom,sumN_shift]
 show _+(sumN _ n+_)=_
 have e1:sumN (fun k=>nc (bc (n+1) (k+1))*(pwn x (k+1)*pwn y (n+1-(k+1)))) n=0:=by
  refine sumN_zero _ fun k hk=>?_
  obtain⟨c,hc⟩:=bc_dvd hp (show 0<k+1 by omega) (show k+1<n+1 by omega)
  show nc (bc (n+1) (k+1))*_=0
  rw[hc,nc_mul,h0,zero_mul,zero_mul]
 rw[e1]
 show nc (bc (n+1) 0)*(pwn x 0*pwn y (n+1-0))+(0+nc (bc (n+1) (n+1))*(pwn x (n+1)*pwn y (n+1-(n+1))))=_
 rw[zero_add,bc_zero,bc_self,n1,one_mul,one_mul,Nat.sub_self,Nat.sub_zero]
 show 1*pwn y (n+1)+pwn x (n+1)*1=_
 rw[one_mul,mul_one,add_comm]
end
end Cr
namespace Cr
open Rg Fd Go.Eng
abbrev F12:=F6 × F6
def vv:F6:=((0:F2),(1:F2),(0:F2))
theorem vv_1 {F:Type} [Rg F] (a b c x:F):0*a+x*(1*c+0*b)=x*c :=
 rid [a,b,c,x] ((fun (a b c x:PE)=>(0*a+x*(1*c+0*b))) (.v 0) (.v 1) (.v 2) (.v 3)) ((fun (a b c x:PE)=>(x*c)) (.v 0) (.v 1) (.v 2) (.v 3)) (by kernel_rfl)
theorem vv_2 {F:Type} [Rg F] (a b c x:F):0*b+1*a+x*(0*c)=a :=
 rid [a,b,c,x] ((fun (a b c x:PE)=>(0*b+1*a+x*(0*c))) (.v 0) (.v 1) (.v 2) (.v 3)) ((fun (a b c x:PE)=>(a)) (.v 0) (.v 1) (.v 2) (.v 3)) (by kernel_rfl)
theorem vv_3 {F:Type} [Rg F] (a b c:F):0*c+1*b+0*a=b :=
 rid [a,b,c] ((fun (a b c:PE)=>(0*c+1*b+0*a)) (.v 0) (.v 1) (.v 2)) ((fun (a b c:PE)=>(b)) (.v 0) (.v 1) (.v 2)) (by kernel_rfl)
section
variable {R:Type} [Rg R] (v:R)
theorem cv_mul (x:R × R × R):cmul v (0,1,0) x=(v*x.2.2,x.1,x.2.1):=by rw[cmul_def];exact cext (vv_1 _ _ _ _) (vv_2 _ _ _ _) (vv_3 _ _ _)
end
theorem vv_mul (x:F6):vv*x=(xi*x.2.2,x.1,x.2.1):=cv_mul xi x
theorem q_co1 {F:Type} [Rg F] (a b c d v:F):a*c+v*(b*d)=c*a+v*(d*b) :=
 rid [a,b,c,d,v] ((fun (a b c d v:PE)=>(a*c+v*(b*d))) (.v 0) (.v 1) (.v 2) (.v 3) (.v 4)) ((fun (a b c d v:PE)=>(c*a+v*(d*b))) (.v 0) (.v 1) (.v 2) (.v 3) (.v 4)) (by kernel_rfl)
theorem q_co2 {F:Type} [Rg F] (a b c d:F):a*d+b*c=c*b+d*a :=
 rid [a,b,c,d] ((fun (a b c d:PE)=>(a*d+b*c)) (.v 0) (.v 1) (.v 2) (.v 3)) ((fun (a b c d:PE)=>(c*b+d*a)) (.v 0) (.v 1) (.v 2) (.v 3)) (by kernel_rfl)
theorem q_as1 {F:Type} [Rg F] (a b c d e f v:F):(a*c+v*(b*d))*e+v*((a*d+b*c)*f)=a*(c*e+v*(d*f))+v*(b*(c*f+d*e)) :=
 rid [a,b,c,d,e,f,v] ((fun (a b c d e f v:PE)=>((a*c+v*(b*d))*e+v*((a*d+b*c)*f))) (.v 0) (.v 1) (.v 2) (.v 3) (.v 4) (.v 5) (.v 6)) ((fun (a b c d e f v:PE)=>(a*(c*e+v*(d*f))+v*(b*(c*f+d*e)))) (.v 0) (.v 1) (.v 2) (.v 3) (.v 4) (.v 5) (.v 6)) (by kernel_rfl)
theorem q_as2 {F:Type} [Rg F] (a b c d e f v:F):(a*c+v*(b*d))*f+(a*d+b*c)*e=a*(c*f+d*e)+b*(c*e+v*(d*f)) :=
 rid [a,b,c,d,e,f,v] ((fun (a b c d e f v:PE)=>((a*c+v*(b*d))*f+(a*d+b*c)*e)) (.v 0) (.v 1) (.v 2) (.v 3) (.v 4) (.v 5) (.v 6)) ((fun (a b c d e f v:PE)=>(a*(c*f+d*e)+b*(c*e+v*(d*f)))) (.v 0) (.v 1) (.v 2) (.v 3) (.v 4) (.v 5) (.v 6)) (by kernel_rfl)
theorem q_o1 {F:Type} [Rg F] (a b v:F):1*a+v*(0*b)=a :=
 rid [a,b,v] ((fun (a b v:PE)=>(1*a+v*(0*b))) (.v 0) (.v 1) (.v 2)) ((fun (a b v:PE)=>(a)) (.v 0) (.v 1) (.v 2)) (by kernel_rfl)
theorem q_o2 {F:Type} [Rg F] (a b:F):1*b+0*a=b :=
 rid [a,b] ((fun (a b:PE)=>(1*b+0*a)) (.v 0) (.v 1)) ((fun (a b:PE)=>(b)) (.v 0) (.v 1)) (by kernel_rfl)
theorem q_d1 {F:Type} [Rg F] (a b c d e f v:F):(a+c)*e+v*((b+d)*f)=a*e+v*(b*f)+(c*e+v*(d*f)) :=
 rid [a,b,c,d,e,f,v] ((fun (a b c d e f v:PE)=>((a+c)*e+v*((b+d)*f))) (.v 0) (.v 1) (.v 2) (.v 3) (.v 4) (.v 5) (.v 6)) ((fun (a b c d e f v:PE)=>(a*e+v*(b*f)+(c*e+v*(d*f)))) (.v 0) (.v 1) (.v 2) (.v 3) (.v 4) (.v 5) (.v 6)) (by kernel_rfl)
theorem q_d2 {F:Type} [Rg F] (a b c d e f:F):(a+c)*f+(b+d)*e=a*f+b*e+(c*f+d*e) :=
 rid [a,b,c,d,e,f] ((fun (a b c d e f:PE)=>((a+c)*f+(b+d)*e)) (.v 0) (.v 1) (.v 2) (.v 3) (.v 4) (.v 5)) ((fun (a b c d e f:PE)=>(a*f+b*e+(c*f+d*e))) (.v 0) (.v 1) (.v 2) (.v 3) (.v 4) (.v 5)) (by kernel_rfl)
section
variable {R:Type} [Rg R] (v:R)
noncomputable def qadd (x y:R × R):R × R:=opq (x.1+y.1,x.2+y.2)
noncomputable def qsub (x y:R × R):R × R:=opq (x.1-y.1,x.2-y.2)
noncomputable def qneg (x:R × R):R × R:=opq (-x.1,-x.2)
noncomputable def qmul (x y:R × R):R × R:=opq (x.1*y.1+v*(x.2*y.2),x.1*y.2+x.2*y.1)
theorem qadd_def (x y:R × R):qadd x y=(x.1+y.1,x.2+y.2):=opq_eq _
theorem qsub_def (x y:R × R):qsub x y=(x.1-y.1,x.2-y.2):=opq_eq _
theorem qneg_def (x:R × R):qneg x=(-x.1,-x.2):=opq_eq _
theorem qmul_def (x y:R × R):qmul v x y=(x.1*y.1+v*(x.2*y.2),x.1*y.2+x.2*y.1):=opq_eq _
theorem q_l1 (a b:R × R):qadd a b=qadd b a:=by rw[qadd_def,qadd_def,add_comm,add_comm a.2]
theorem q_l2 (a b c:R × R):qadd (qadd a b) c=qadd a (qadd b c):=by rw[qadd_def,qadd_def,qadd_def,qadd_def,add_assoc,add_assoc]
theorem q_l3 (a:R × R):qadd (0,0) a=a:=by rw[qadd_def,zero_add,zero_add]
theorem q_l4 (a:R × R):qadd (qneg a) a=(0,0):=by rw[qadd_def,qneg_def,neg_add,neg_add]
theorem q_l5 (a b:R × R):qsub a b=qadd a (qneg b):=by rw[qadd_def,qneg_def,qsub_def,Rg.sub_def,Rg.sub_def]
theorem q_l6 (a b:R × R):qmul v a b=qmul v b a:=by rw[qmul_def,qmul_def];exact Prod.ext (q_co1 a.1 a.2 b.1 b.2 v) (q_co2 a.1 a.2 b.1 b.2)
theorem q_l7 (a b c:R × R):qmul v (qmul v a b) c=qmul v a (qmul v b c):=by rw[qmul_def,qmul_def,qmul_def,qmul_def];exact Prod.ext (q_as1 a.1 a.2 b.1 b.2 c.1 c.2 v) (q_as2 a.1 a.2 b.1 b.2 c.1 c.2 v)
theorem q_l8 (a:R × R):qmul v (1,0) a=a:=by rw[qmul_def];exact Prod.ext (q_o1 a.1 a.2 v) (q_o2 a.1 a.2)
theorem q_l9 (a b c:R × R):qmul v (qadd a b) c=qadd (qmul v a c) (qmul v b c):=by rw[qadd_def,qmul_def,qmul_def,qmul_def,qadd_def];exact Prod.ext (q_d1 a.1 a.2 b.1 b.2 c.1 c.2 v) (q_d2 a.1 a.2 b.1 b.2 c.1 c.2)
end
noncomputable instance rgF12:Rg F12 where
 zero:=(0,0)
 one:=(1,0)
 add:=qadd
 sub:=qsub
 neg:=qneg
 mul:=qmul vv
 add_comm:=q_l1
 add_assoc:=q_l2
 zero_add:=q_l3
 neg_add:=q_l4
 sub_def:=q_l5
 mul_comm:=q_l6 vv
 mul_assoc:=q_l7 vv
 one_mul:=q_l8 vv
 add_mul:=q_l9 vv
theorem F12.ext {x y:F12} (h1:x.1=y.1) (h2:x.2=y.2):x=y:=Prod.ext h1 h2
theorem F12.add_def (x y:F12):x+y=(x.1+y.1,x.2+y.2):=qadd_def x y
theorem F12.sub_def (x y:F12):x-y=(x.1-y.1,x.2-y.2):=qsub_def x y
theorem F12.neg_def (x:F12) : -x=(-x.1,-x.2):=qneg_def x
theorem F12.mul_def (x y:F12):x*y=(x.1*y.1+vv*(x.2*y.2),x.1*y.2+x.2*y.1):=qmul_def vv x y
theorem F12.a1 (x y:F12):(x+y).1=x.1+y.1:=by rw[F12.add_def]
theorem F12.a2 (x y:F12):(x+y).2=x.2+y.2:=by rw[F12.add_def]
theorem F12.m1 (x y:F12):(x*y).1=x.1*y.1+vv*(x.2*y.2):=by rw[F12.mul_def]
theorem F12.m2 (x y:F12):(x*y).2=x.1*y.2+x.2*y.1:=by rw[F12.mul_def]
theorem nm6_sq (t:F6):nm6 (t*t)=nm6 t*nm6 t:=cnm_sq xi t
theorem nm6_vv:nm6 vv=xi:=cnm_v xi
theorem vv_sq {t:F6} (h:t*t=vv):False:=by
 have e:=congrArg nm6 h
 rw[nm6_sq,nm6_vv] at e
 exact xi_sq e
theorem q_nr {F:Type} [Rg F] (a b j v:F):(a*j)*(a*j)-v=(j*j)*(a*a-v*(b*b))+v*((b*j)*(b*j)-1) :=
 rid [a,b,j,v] ((fun (a b j v:PE)=>((a*j)*(a*j)-v)) (.v 0) (.v 1) (.v 2) (.v 3)) ((fun (a b j v:PE)=>((j*j)*(a*a-v*(b*b))+v*((b*j)*(b*j)-1))) (.v 0) (.v 1) (.v 2) (.v 3)) (by kernel_rfl)
theorem q_i1 {F:Type} [Rg F] (a b n v:F):a*(a*n)+v*(b * -(b*n))=(a*a-v*(b*b))*n :=
 rid [a,b,n,v] ((fun (a b n v:PE)=>(a*(a*n)+v*(b * -(b*n)))) (.v 0) (.v 1) (.v 2) (.v 3)) ((fun (a b n v:PE)=>((a*a-v*(b*b))*n)) (.v 0) (.v 1) (.v 2) (.v 3)) (by kernel_rfl)
theorem q_i2 {F:Type} [Rg F] (a b n:F):a * -(b*n)+b*(a*n)=0 :=
 rid [a,b,n] ((fun (a b n:PE)=>(a * -(b*n)+b*(a*n))) (.v 0) (.v 1) (.v 2)) ((fun (a b n:PE)=>(0)) (.v 0) (.v 1) (.v 2)) (by kernel_rfl)
section
variable {R:Type} [Fd R] (v:R)
theorem qnm_ne (hv:∀ t:R,t*t=v->False) {x:R × R} (h:x≠(0,0)):x.1*x.1-v*(x.2*x.2)≠0:=by
 intro e
 by_cases hb:x.2=0
 ·rw[hb,mul_zero,mul_zero,Rg.sub_def,neg_zero,add_zero] at e
  have ha:x.1=0:=by rcases mul_eq_zero e with e|e<;>exact e
  exact h (Prod.ext ha hb)
 ·have hi:=mul_inv x.2 hb
  refine hv (x.1*inv x.2) (eq_of_sub ?_)
  have k:=q_nr x.1 x.2 (inv x.2) v
  rw[e,hi,one_mul,sub_self,mul_zero,mul_zero,zero_add] at k
  exact k
noncomputable def qinv (x:R × R):R × R:=opq (x.1*inv (x.1*x.1-v*(x.2*x.2)),-(x.2*inv (x.1*x.1-v*(x.2*x.2))))
theorem qinv_def (x:R × R):qinv v x=(x.1*inv (x.1*x.1-v*(x.2*x.2)),-(x.2*inv (x.1*x.1-v*(x.2*x.2)))):=opq_eq _
theorem qinv_mul (hv:∀ t:R,t*t=v->False) {x:R × R} (h:x≠(0,0)):qmul v x (qinv v x)=(1,0):=by
 have hn:=mul_inv _ (qnm_ne v hv h)
 rw[qmul_def,qinv_def]
 exact Prod.ext ((q_i1 _ _ _ _).trans hn) (q_i2 _ _ _)
end
noncomputable abbrev inv12 (t:F12):F12:=qinv vv t
noncomputable instance fdF12:Fd F12 where
 deq:=inferInstanceAs (DecidableEq (F6 × F6))
 inv:=inv12
 mul_inv _ h:=qinv_mul vv (fun _ e=>vv_sq e) h
 one_ne:=fun h=>absurd (congrArg Prod.fst h) one_ne
 two_ne:=fun h=>absurd (congrArg Prod.fst h) (by rw[F12.add_def];exact two_ne)
 three_ne:=fun h=>absurd (congrArg Prod.fst h) (by rw[F12.add_def,F12.add_def];exact three_ne)
end Cr
namespace Cr
open Rg Fd
theorem t6_1 {F:Type} [Rg F] (a b c d e f x:F):a*d+x*((b+c)*(e+f)-b*e-c*f)=a*d+x*(b*f+c*e) :=
 rid [a,b,c,d,e,f,x] ((fun (a b c d e f x:PE)=>(a*d+x*((b+c)*(e+f)-b*e-c*f))) (.v 0) (.v 1) (.v 2) (.v 3) (.v 4) (.v 5) (.v 6)) ((fun (a b c d e f x:PE)=>(a*d+x*(b*f+c*e))) (.v 0) (.v 1) (.v 2) (.v 3) (.v 4) (.v 5) (.v 6)) (by kernel_rfl)
theorem t6_2 {F:Type} [Rg F] (a b c d e f x:F):((a+b)*(d+e)-a*d-b*e)+x*(c*f)=a*e+b*d+x*(c*f) :=
 rid [a,b,c,d,e,f,x] ((fun (a b c d e f x:PE)=>(((a+b)*(d+e)-a*d-b*e)+x*(c*f))) (.v 0) (.v 1) (.v 2) (.v 3) (.v 4) (.v 5) (.v 6)) ((fun (a b c d e f x:PE)=>(a*e+b*d+x*(c*f))) (.v 0) (.v 1) (.v 2) (.v 3) (.v 4) (.v 5) (.v 6)) (by kernel_rfl)
theorem t6_3 {F:Type} [Rg F] (a b c d e f:F):((a+c)*(d+f)-a*d-c*f)+b*e=a*f+b*e+c*d :=
 rid [a,b,c,d,e,f] ((fun (a b c d e f:PE)=>(((a+c)*(d+f)-a*d-c*f)+b*e)) (.v 0) (.v 1) (.v 2) (.v 3) (.v 4) (.v 5)) ((fun (a b c d e f:PE)=>(a*f+b*e+c*d)) (.v 0) (.v 1) (.v 2) (.v 3) (.v 4) (.v 5)) (by kernel_rfl)
theorem tw_mul (x y:F6):((x.1*y.1+xi*((x.2.1+x.2.2)*(y.2.1+y.2.2)-x.2.1*y.2.1-x.2.2*y.2.2),((x.1+x.2.1)*(y.1+y.2.1)-x.1*y.1-x.2.1*y.2.1)+xi*(x.2.2*y.2.2),((x.1+x.2.2)*(y.1+y.2.2)-x.1*y.1-x.2.2*y.2.2)+x.2.1*y.2.1):F6)=x*y:=by
 rw[F6.mul_def,t6_1,t6_2,t6_3]
theorem t6_p1 {F:Type} [Rg F] (a b c d e x:F):a*d+x*(c*e)=a*d+x*(b*0+c*e) :=
 rid [a,b,c,d,e,x] ((fun (a b c d e x:PE)=>(a*d+x*(c*e))) (.v 0) (.v 1) (.v 2) (.v 3) (.v 4) (.v 5)) ((fun (a b c d e x:PE)=>(a*d+x*(b*0+c*e))) (.v 0) (.v 1) (.v 2) (.v 3) (.v 4) (.v 5)) (by kernel_rfl)
theorem t6_p2 {F:Type} [Rg F] (a b c d e x:F):(a+b)*(d+e)-a*d-b*e=a*e+b*d+x*(c*0) :=
 rid [a,b,c,d,e,x] ((fun (a b c d e x:PE)=>((a+b)*(d+e)-a*d-b*e)) (.v 0) (.v 1) (.v 2) (.v 3) (.v 4) (.v 5)) ((fun (a b c d e x:PE)=>(a*e+b*d+x*(c*0))) (.v 0) (.v 1) (.v 2) (.v 3) (.v 4) (.v 5)) (by kernel_rfl)
theorem t6_p3 {F:Type} [Rg F] (a b c d e:F):b*e+c*d=a*0+b*e+c*d :=
 rid [a,b,c,d,e] ((fun (a b c d e:PE)=>(b*e+c*d)) (.v 0) (.v 1) (.v 2) (.v 3) (.v 4)) ((fun (a b c d e:PE)=>(a*0+b*e+c*d)) (.v 0) (.v 1) (.v 2) (.v 3) (.v 4)) (by kernel_rfl)
theorem tw_pair (x:F6) (a b:F2):((x.1*a+xi*(x.2.2*b),(x.1+x.2.1)*(a+b)-x.1*a-x.2.1*b,x.2.1*b+x.2.2*a):F6)=x*((a,b,0):F6):=by
 rw[F6.mul_def,t6_p1 x.1 x.2.1 x.2.2 a b xi,t6_p2 x.1 x.2.1 x.2.2 a b xi,t6_p3 x.1 x.2.1 x.2.2 a b]
theorem t6_s1 {F:Type} [Rg F] (a b c k x:F):a*k=a*k+x*(b*0+c*0) :=
 rid [a,b,c,k,x] ((fun (a b c k x:PE)=>(a*k)) (.v 0) (.v 1) (.v 2) (.v 3) (.v 4)) ((fun (a b c k x:PE)=>(a*k+x*(b*0+c*0))) (.v 0) (.v 1) (.v 2) (.v 3) (.v 4)) (by kernel_rfl)
theorem t6_s2 {F:Type} [Rg F] (a b c k x:F):b*k=a*0+b*k+x*(c*0) :=
 rid [a,b,c,k,x] ((fun (a b c k x:PE)=>(b*k)) (.v 0) (.v 1) (.v 2) (.v 3) (.v 4)) ((fun (a b c k x:PE)=>(a*0+b*k+x*(c*0))) (.v 0) (.v 1) (.v 2) (.v 3) (.v 4)) (by kernel_rfl)
theorem t6_s3 {F:Type} [Rg F] (a b c k:F):c*k=a*0+b*0+c*k :=
 rid [a,b,c,k] ((fun (a b c k:PE)=>(c*k)) (.v 0) (.v 1) (.v 2) (.v 3)) ((fun (a b c k:PE)=>(a*0+b*0+c*k)) (.v 0) (.v 1) (.v 2) (.v 3)) (by kernel_rfl)
theorem tw_scale (x:F6) (k:F2):((x.1*k,x.2.1*k,x.2.2*k):F6)=x*((k,0,0):F6):=by
 rw[F6.mul_def,<- t6_s1,<- t6_s2,<- t6_s3]
theorem tw_inv (x:F6):((x.1*x.1-xi*(x.2.1*x.2.2),xi*(x.2.2*x.2.2)-x.1*x.2.1,x.2.1*x.2.1-x.1*x.2.2):F6)*((inv (x.1*(x.1*x.1-xi*(x.2.1*x.2.2))+xi*(x.2.2*(xi*(x.2.2*x.2.2)-x.1*x.2.1)+x.2.1*(x.2.1*x.2.1-x.1*x.2.2))),0,0):F6)=inv x:=by
 rw[<- tw_scale]
 show _=cinv xi x
 rw[cinv_def];rfl
theorem t12_1 {F:Type} [Rg F] (a b c d v:F):(a+b)*(c+d)-a*c-b*d=a*d+b*c :=
 rid [a,b,c,d,v] ((fun (a b c d v:PE)=>((a+b)*(c+d)-a*c-b*d)) (.v 0) (.v 1) (.v 2) (.v 3) (.v 4)) ((fun (a b c d v:PE)=>(a*d+b*c)) (.v 0) (.v 1) (.v 2) (.v 3) (.v 4)) (by kernel_rfl)
theorem tw_emul (x y:F12):((x.1*y.1+vv*(x.2*y.2),(x.1+x.2)*(y.1+y.2)-x.1*y.1-x.2*y.2):F12)=x*y:=by
 rw[F12.mul_def,t12_1 x.1 x.2 y.1 y.2 vv]
theorem t12_2 {F:Type} [Rg F] (a b v:F):(a+b)*(a+v*b)-a*b-v*(a*b)=a*a+v*(b*b) :=
 rid [a,b,v] ((fun (a b v:PE)=>((a+b)*(a+v*b)-a*b-v*(a*b))) (.v 0) (.v 1) (.v 2)) ((fun (a b v:PE)=>(a*a+v*(b*b))) (.v 0) (.v 1) (.v 2)) (by kernel_rfl)
theorem t12_3 {F:Type} [Rg F] (a b:F):a*b+a*b=a*b+b*a :=
 rid [a,b] ((fun (a b:PE)=>(a*b+a*b)) (.v 0) (.v 1)) ((fun (a b:PE)=>(a*b+b*a)) (.v 0) (.v 1)) (by kernel_rfl)
theorem tw_esq (x:F12):(((x.1+x.2)*(x.1+vv*x.2)-x.1*x.2-vv*(x.1*x.2),x.1*x.2+x.1*x.2):F12)=x*x:=by
 rw[F12.mul_def,t12_2 x.1 x.2 vv,t12_3 x.1 x.2]
noncomputable def conj12 (x:F12):F12:=(x.1,-x.2)
theorem zero_sub' {R:Type} [Rg R] (b:R):0-b=-b:=by rw[Rg.sub_def,zero_add]
theorem tw_conj (x:F12):((x.1,(0:F6)-x.2):F12)=conj12 x:=by rw[zero_sub'];rfl
theorem tw_einv (x:F12):((x.1*inv (x.1*x.1-vv*(x.2*x.2)),(0:F6)-x.2*inv (x.1*x.1-vv*(x.2*x.2))):F12)=inv x:=by
 rw[zero_sub']
 show _=qinv vv x
 rw[qinv_def]
def line12 (a b c:F2):F12:=(((a,b,0):F6),((0,c,0):F6))
theorem l12_1 (c:F2):vv*((c,0,0):F6)=((0,c,0):F6):=by
 rw[vv_mul]
 show ((xi*0,c,0):F6)=_
 rw[mul_zero]
theorem l12_2 (a b c:F2):((a,b+c,0):F6)=((a,b,0):F6)+((0,c,0):F6):=by
 rw[F6.add_def]
 show _=((a+0,b+c,0+0):F6)
 rw[add_zero,add_zero]
theorem t12_l {F:Type} [Rg F] (b c v:F):v*(b*c)=b*(v*c) :=
 rid [b,c,v] ((fun (b c v:PE)=>(v*(b*c))) (.v 0) (.v 1) (.v 2)) ((fun (b c v:PE)=>(b*(v*c))) (.v 0) (.v 1) (.v 2)) (by kernel_rfl)
theorem t12_m {F:Type} [Rg F] (a b l m:F):(a+b)*(l+m)-a*l-b*m=a*m+b*l :=
 rid [a,b,l,m] ((fun (a b l m:PE)=>((a+b)*(l+m)-a*l-b*m)) (.v 0) (.v 1) (.v 2) (.v 3)) ((fun (a b l m:PE)=>(a*m+b*l)) (.v 0) (.v 1) (.v 2) (.v 3)) (by kernel_rfl)
theorem tw_line (x:F12) (a b c:F2):((x.1*((a,b,0):F6)+vv*(vv*(x.2*((c,0,0):F6))),(x.1+x.2)*((a,b+c,0):F6)-x.1*((a,b,0):F6)-vv*(x.2*((c,0,0):F6))):F12)=x*line12 a b c:=by
 rw[F12.mul_def,t12_l x.2,l12_1,l12_2,t12_m]
 rfl
end Cr
namespace Cr
open Rg Fd Go.Eng
theorem neg_z {F:Type} [Rg F]:(-0:F)=0:=by have h:=Rg.neg_add (0:F);rwa [add_zero] at h
theorem sub_z {F:Type} [Rg F] (x:F):x-0=x:=by rw[Rg.sub_def,neg_z,add_zero]
theorem zpow_pwn {M:Int} [Md M] (x:Zm M):∀ n,zpow x n=pwn x n
 | 0=>rfl
 | n+1=>by show zpow x n*x=pwn x n*x;rw[zpow_pwn x n]
theorem nc_v:∀ n:Nat,(nc n:Fp).v=(n:Int)%Mp
 | 0=>by rw[Int.natCast_zero,Int.zero_emod];rfl
 | n+1=>by
  show ((nc n:Fp)+1).v=_
  rw[add_v,nc_v n,one_v,Int.emod_add_emod]
  rfl
theorem nc_2:∀ n:Nat,(nc n:F2)=((nc n:Fp),(0:Fp))
 | 0=>rfl
 | n+1=>by
  show (nc n:F2)+1=((nc n:Fp)+1,(0:Fp))
  rw[nc_2 n,F2.add_def]
  exact F2.ext rfl (zero_add _)
theorem nc_p {p:Nat} (hp:p=fpP):(nc p:Fp)=0:=by
 refine Zm.ext ?_
 rw[nc_v,hp]
 exact of_decide_eq_true (by kernel_rfl)
theorem nc_p2 {p:Nat} (hp:p=fpP):(nc p:F2)=0:=by rw[nc_2,nc_p hp];rfl
theorem prm_q {p:Nat} (hp:p=fpP):Prm p:=by rw[hp];exact prm_p
theorem pw_fp {p:Nat} (hp:p=fpP) (x:Fp):pwn x p=x:=by
 obtain⟨q,hq⟩:∃ q,p=q+1:=⟨fpP-1,hp.trans (of_decide_eq_true (by kernel_rfl))⟩
 by_cases hx:x=0
 ·rw[hq,hx];show _*(0:Fp)=0;rw[mul_zero]
 ·have h1:=fp_fermat hx
  have h2:fpP-1=q:=by rw[<- hp,hq];rfl
  rw[h2,zpow_pwn] at h1
  rw[hq];show pwn x q*x=x;rw[h1,one_mul]
theorem pw_2 (a:Fp):∀ n,pwn ((a,0):F2) n=(pwn a n,0)
 | 0=>rfl
 | n+1=>by
  show pwn ((a,0):F2) n*(a,0)=(pwn a n*a,0)
  rw[pw_2 a n,F2.mul_def]
  refine F2.ext ?_ ?_
  ·show pwn a n*a-0*0=_
   rw[zero_mul,sub_z]
  ·show pwn a n*0+0*a=0
   rw[mul_zero,zero_mul,zero_add]
def ii:F2:=((0:Fp),(1:Fp))
theorem ii_sq:ii*ii=(-1:F2):=by
 rw[F2.mul_def,F2.neg_def]
 refine F2.ext ?_ ?_
 ·show (0:Fp)*0-1*1=-1
  rw[zero_mul,one_mul,Rg.sub_def,zero_add]
 ·show (0:Fp)*1+1*0=-0
  rw[zero_mul,mul_zero,zero_add]
  exact Zm.ext (of_decide_eq_true (by kernel_rfl))
theorem pw_ii {p:Nat} (hp:p=fpP):pwn ii p=-ii:=by
 obtain⟨q,hq⟩:∃ q,p=2*(2*q)+2+1:=⟨fpP/4,hp.trans (of_decide_eq_true (by kernel_rfl))⟩
 have h2:pwn ii 2=(-1:F2):=by show 1*ii*ii=_;rw[one_mul,ii_sq]
 have h3:pwn (-1:F2) 2=1:=by show 1*(-1:F2) * -1=1;rw[one_mul,neg_mul,one_mul,neg_neg]
 have h4:pwn ii (2*(2*q))=1:=by rw[pwn_mul,h2,pwn_mul,h3,pwn_one]
 rw[hq]
 show pwn ii (2*(2*q)+2)*ii=_
 rw[pwn_add,h4,h2,one_mul,neg_mul,one_mul]
theorem pw_f2 {p:Nat} (hp:p=fpP) (x:F2):pwn x p=(x.1,-x.2):=by
 have h1:x=(x.1,0)+(x.2,0)*ii:=by
  rw[F2.mul_def,F2.add_def]
  refine F2.ext ?_ ?_
  ·show x.1=x.1+(x.2*0-0*1)
   rw[mul_zero,zero_mul,sub_z,add_zero]
  ·show x.2=0+(x.2*1+0*0)
   rw[mul_one,mul_zero,add_zero,zero_add]
 have h2:pwn x p=pwn ((x.1,0)+(x.2,0)*ii) p:=congrArg (fun t=>pwn t p) h1
 rw[h2,pwn_sum (prm_q hp) (nc_p2 hp),pwn_prod,pw_2,pw_2,pw_fp hp,pw_fp hp,pw_ii hp,F2.neg_def,F2.mul_def,F2.add_def]
 refine F2.ext ?_ ?_
 ·show x.1+(x.2 * -0-0 * -1)=x.1
  rw[neg_z,mul_zero,zero_mul,sub_z,add_zero]
 ·show 0+(x.2 * -1+0 * -0)=-x.2
  rw[neg_z,mul_zero,add_zero,zero_add,mul_comm,neg_mul,one_mul]
end Cr
namespace Cr
open Rg Fd Go.Eng
theorem fr_2 {F:Type} [Rg F] (r c:F):r*(r*c)=c*(r*r) :=
 rid [r,c] ((fun (r c:PE)=>(r*(r*c))) (.v 0) (.v 1)) ((fun (r c:PE)=>(c*(r*r))) (.v 0) (.v 1)) (by kernel_rfl)
theorem fr_3 {F:Type} [Rg F] (r c:F):r*(r*(r*c))=c*(r*r*r) :=
 rid [r,c] ((fun (r c:PE)=>(r*(r*(r*c)))) (.v 0) (.v 1)) ((fun (r c:PE)=>(c*(r*r*r))) (.v 0) (.v 1)) (by kernel_rfl)
theorem fr_4 {F:Type} [Rg F] (r c:F):r*(r*(r*(r*c)))=c*(r*r*(r*r)) :=
 rid [r,c] ((fun (r c:PE)=>(r*(r*(r*(r*c))))) (.v 0) (.v 1)) ((fun (r c:PE)=>(c*(r*r*(r*r)))) (.v 0) (.v 1)) (by kernel_rfl)
theorem fr_5 {F:Type} [Rg F] (r c:F):r*(r*(r*(r*(r*c))))=c*(r*r*(r*r)*r) :=
 rid [r,c] ((fun (r c:PE)=>(r*(r*(r*(r*(r*c)))))) (.v 0) (.v 1)) ((fun (r c:PE)=>(c*(r*r*(r*r)*r))) (.v 0) (.v 1)) (by kernel_rfl)
def e2 (c:F2):F12:=((c,(0:F2),(0:F2)),(0:F2),(0:F2),(0:F2))
def e6 (c:F2):F6:=(c,(0:F2),(0:F2))
def ww:F12:=(((0:F2),(0:F2),(0:F2)),(1:F2),(0:F2),(0:F2))
theorem e6_mul (c:F2) (x:F6):e6 c*x=(c*x.1,c*x.2.1,c*x.2.2):=by
 rw[F6.mul_def]
 refine F6.ext ?_ ?_ ?_
 ·show c*x.1+xi*(0*x.2.2+0*x.2.1)=c*x.1
  rw[zero_mul,zero_mul,add_zero,mul_zero,add_zero]
 ·show c*x.2.1+0*x.1+xi*(0*x.2.2)=c*x.2.1
  rw[zero_mul,zero_mul,mul_zero,add_zero,add_zero]
 ·show c*x.2.2+0*x.2.1+0*x.1=c*x.2.2
  rw[zero_mul,zero_mul,add_zero,add_zero]
theorem e2_mul (c:F2) (x:F12):e2 c*x=((c*x.1.1,c*x.1.2.1,c*x.1.2.2),c*x.2.1,c*x.2.2.1,c*x.2.2.2):=by
 rw[F12.mul_def]
 refine F12.ext ?_ ?_
 ·show e6 c*x.1+vv*((0:F6)*x.2)=_
  rw[zero_mul,mul_zero,add_zero,e6_mul]
 ·show e6 c*x.2+(0:F6)*x.1=_
  rw[zero_mul,add_zero,e6_mul]
theorem ww_mul (x:F12):ww*x=((xi*x.2.2.2,x.2.1,x.2.2.1),x.1):=by
 rw[F12.mul_def]
 refine F12.ext ?_ ?_
 ·show (0:F6)*x.1+vv*((1:F6)*x.2)=_
  rw[zero_mul,zero_add,one_mul,vv_mul]
 ·show (0:F6)*x.2+(1:F6)*x.1=x.1
  rw[zero_mul,zero_add,one_mul]
theorem e2_one:e2 1=(1:F12):=rfl
theorem e2_pw (c:F2):∀ n,pwn (e2 c) n=e2 (pwn c n)
 | 0=>rfl
 | n+1=>by
  show pwn (e2 c) n*e2 c=e2 (pwn c n*c)
  rw[e2_pw c n,e2_mul]
  show ((pwn c n*c,pwn c n*0,pwn c n*0),pwn c n*0,pwn c n*0,pwn c n*0)=_
  rw[mul_zero];rfl
theorem ww_six:ww*(ww*(ww*(ww*(ww*ww))))=e2 xi:=by
 simp only[ww_mul]
 show ((xi*(1:F2),xi*(0:F2),xi*(0:F2)),xi*(0:F2),xi*(0:F2),(0:F2))=_
 rw[mul_one,mul_zero];rfl
theorem ww_six':pwn ww 6=e2 xi:=by
 show (1:F12)*ww*ww*ww*ww*ww*ww=_
 rw[one_mul,mul_assoc,mul_assoc,mul_assoc,mul_assoc]
 exact ww_six
theorem pw_ww {p q:Nat} (hq:p=6*q+1):pwn ww p=e2 (pwn xi q)*ww:=by
 rw[hq]
 show pwn ww (6*q)*ww=_
 rw[pwn_mul,ww_six',e2_pw]
theorem e2_add (c:F2) (x:F12):e2 c+x=((c+x.1.1,x.1.2.1,x.1.2.2),x.2):=by
 rw[F12.add_def]
 refine F12.ext ?_ ?_
 ·rw[F6.add_def]
  refine F6.ext rfl ?_ ?_
  ·exact zero_add _
  ·exact zero_add _
 ·exact zero_add x.2
theorem horner (a b c d e f:F2):(((a,c,e),b,d,f):F12)=e2 a+ww*(e2 b+ww*(e2 c+ww*(e2 d+ww*(e2 e+ww*e2 f)))):=by
 simp only[ww_mul,e2_add]
 show _=((a+xi*(0:F2),c+xi*(0:F2),e+xi*(0:F2)),b+xi*(0:F2),d+xi*(0:F2),f)
 simp only[mul_zero,add_zero]
theorem nc_12:∀ n:Nat,(nc n:F12)=e2 (nc n)
 | 0=>rfl
 | n+1=>by
  show (nc n:F12)+1=e2 ((nc n:F2)+1)
  rw[nc_12 n,e2_add];rfl
theorem nc_p12 {p:Nat} (hp:p=fpP):(nc p:F12)=0:=by rw[nc_12,nc_p2 hp];rfl
def cjg (x:F2):F2:=(x.1,-x.2)
noncomputable def frg (r:F2) (x:F12):F12:=((cjg x.1.1,cjg x.1.2.1*(r*r),cjg x.1.2.2*(r*r*(r*r))),(cjg x.2.1*r,cjg x.2.2.1*(r*r*r),cjg x.2.2.2*(r*r*(r*r)*r)))
theorem pw_st {p q:Nat} (hp:p=fpP) (hq:p=6*q+1) (a:F2) (Y:F12):pwn (e2 a+ww*Y) p=e2 (cjg a)+e2 (pwn xi q)*(ww*pwn Y p):=by
 rw[pwn_sum (prm_q hp) (nc_p12 hp),pwn_prod,e2_pw,pw_f2 hp,pw_ww hq,mul_assoc];rfl
theorem pw_f12 {p q:Nat} (hp:p=fpP) (hq:p=6*q+1) (x:F12):pwn x p=frg (pwn xi q) x:=by
 obtain⟨⟨a,c,e⟩,b,d,f⟩:=x
 obtain⟨r,hr⟩:∃ r,r=pwn xi q:=⟨_,rfl⟩
 have h1:=horner a b c d e f
 have h2:=congrArg (fun t:F12=>pwn t p) h1
 refine h2.trans ?_
 show pwn (e2 a+ww*(e2 b+ww*(e2 c+ww*(e2 d+ww*(e2 e+ww*e2 f))))) p=_
 rw[pw_st hp hq,pw_st hp hq,pw_st hp hq,pw_st hp hq,pw_st hp hq,e2_pw,pw_f2 hp,<- hr]
 show e2 (cjg a)+e2 r*(ww*(e2 (cjg b)+e2 r*(ww*(e2 (cjg c)+e2 r*(ww*(e2 (cjg d)+e2 r*(ww*(e2 (cjg e)+e2 r*(ww*e2 (cjg f))))))))))=_
 simp only[ww_mul,e2_add,e2_mul]
 refine F12.ext (F6.ext ?_ ?_ ?_) (F6.ext ?_ ?_ ?_)
 ·show cjg a+r*(xi*(r*(r*(r*(r*(0:F2))))))=cjg a
  simp only[mul_zero,add_zero]
 ·show r*(r*(cjg c+r*(xi*(r*(r*(0:F2))))))=cjg c*(r*r)
  simp only[mul_zero,add_zero];exact fr_2 r _
 ·show r*(r*(r*(r*(cjg e+r*(xi*(0:F2))))))=cjg e*(r*r*(r*r))
  simp only[mul_zero,add_zero];exact fr_4 r _
 ·show r*(cjg b+r*(xi*(r*(r*(r*(0:F2))))))=cjg b*r
  simp only[mul_zero,add_zero];exact mul_comm _ _
 ·show r*(r*(r*(cjg d+r*(xi*(r*(0:F2))))))=cjg d*(r*r*r)
  simp only[mul_zero,add_zero];exact fr_3 r _
 ·exact fr_5 r (cjg f)
theorem xi_two:xi*xi=(((1:Fp)+1,(0:Fp)):F2)*ii:=by
 rw[F2.mul_def,F2.mul_def]
 refine F2.ext ?_ ?_
 ·show (1:Fp)*1-1*1=(1+1)*0-0*1
  rw[mul_zero,one_mul,zero_mul,sub_z,Rg.sub_def,add_comm,Rg.neg_add]
 ·show (1:Fp)*1+1*1=(1+1)*1+0*0
  rw[mul_one,mul_one,mul_zero,add_zero]
theorem xi_pw {q m t:Nat} (hq:q=2*m+1) (hm:m=2*(2*t)+2+1):pwn xi q=(pwn ((1:Fp)+1) m,-pwn ((1:Fp)+1) m):=by
 have h2:pwn ii 2=(-1:F2):=by show 1*ii*ii=_;rw[one_mul,ii_sq]
 have h3:pwn (-1:F2) 2=1:=by show 1*(-1:F2) * -1=1;rw[one_mul,neg_mul,one_mul,neg_neg]
 have h4:pwn ii (2*(2*t))=1:=by rw[pwn_mul,h2,pwn_mul,h3,pwn_one]
 have h5:pwn ii m=-ii:=by
  rw[hm];show pwn ii (2*(2*t)+2)*ii=_
  rw[pwn_add,h4,h2,one_mul,neg_mul,one_mul]
 have h6:pwn xi 2=(((1:Fp)+1,(0:Fp)):F2)*ii:=by show 1*xi*xi=_;rw[one_mul,xi_two]
 rw[hq]
 show pwn xi (2*m)*xi=_
 rw[pwn_mul,h6,pwn_prod,pw_2,h5,F2.neg_def,F2.mul_def,F2.mul_def]
 obtain⟨u,hu⟩:∃ u,u=pwn ((1:Fp)+1) m:=⟨_,rfl⟩
 rw[<- hu]
 refine F2.ext ?_ ?_
 ·show (u * -0-0 * -1)*1-(u * -1+0 * -0)*1=u
  rw[neg_z,mul_zero,zero_mul,mul_zero,sub_z,add_zero,mul_one,mul_one,mul_comm,neg_mul,one_mul,Rg.sub_def,zero_add,neg_neg]
 ·show (u * -0-0 * -1)*1+(u * -1+0 * -0)*1=-u
  rw[neg_z,mul_zero,zero_mul,mul_zero,sub_z,add_zero,mul_one,mul_one,mul_comm,neg_mul,one_mul,zero_add]
end Cr
namespace Cr
open Rg Fd Go.Eng
theorem pw_it {F:Type} [Rg F] (x:F) (p k:Nat):pwn x (p^(k+1))=pwn (pwn x (p^k)) p:=by rw[Nat.pow_succ,pwn_mul]
theorem pw_1 {F:Type} [Rg F] (x:F):pwn x 1=x:=one_mul x
theorem pw_sumk {p:Nat} (hp:p=fpP) (x y:F12):∀ k,pwn (x+y) (p^k)=pwn x (p^k)+pwn y (p^k)
 | 0=>by rw[Nat.pow_zero,pw_1,pw_1,pw_1]
 | k+1=>by rw[pw_it,pw_it,pw_it,pw_sumk hp x y k,pwn_sum (prm_q hp) (nc_p12 hp)]
theorem pw_2k {p:Nat} (hp:p=fpP) (c:F2):pwn c (p^2)=c:=by
 rw[pw_it c p 1,Nat.pow_one,pw_f2 hp,pw_f2 hp]
 exact F2.ext rfl (neg_neg c.2)
theorem pw_2n {p:Nat} (hp:p=fpP) (c:F2):∀ n,pwn c ((p^2)^n)=c
 | 0=>by rw[Nat.pow_zero,pw_1]
 | n+1=>by rw[pw_it,pw_2n hp c n,pw_2k hp]
theorem pw_x12 {p:Nat} (hp:p=fpP) (c:F2):pwn c (p^12)=c:=by
 rw[show p^12=(p^2)^6 by rw[<- Nat.pow_mul]];exact pw_2n hp c 6
theorem xi_ne:xi≠0:=fun h=>xi_sq (s:=0) (by rw[h,mul_zero])
theorem pw_xi {p n:Nat} (hp:p=fpP) (hn:p^2=n+1):pwn xi n=1:=by
 have h1:=pw_2k hp xi
 rw[hn] at h1
 have h2:pwn xi n*xi=xi:=h1
 have h3:pwn xi n*(xi*inv xi)=xi*inv xi:=by rw[<- mul_assoc,h2]
 rwa [mul_inv _ xi_ne,mul_one] at h3
theorem pw_ww12 {p:Nat} (hp:p=fpP):pwn ww (p^12)=ww:=by
 obtain⟨n,hn⟩:∃ n,n=fpP^2-1:=⟨_,rfl⟩
 obtain⟨s,hs⟩:∃ s,s=(fpP^12-1)/6/(fpP^2-1):=⟨_,rfl⟩
 have h1:p^2=n+1:=by rw[hp,hn];exact of_decide_eq_true (by kernel_rfl)
 have h2:p^12=6*(n*s)+1:=by rw[hp,hn,hs];exact of_decide_eq_true (by kernel_rfl)
 rw[h2]
 show pwn ww (6*(n*s))*ww=ww
 rw[pwn_mul,ww_six',pwn_mul,e2_pw,pw_xi hp h1,e2_one,pwn_one,one_mul]
theorem pw_s12 {p:Nat} (hp:p=fpP) (a:F2) (Y:F12):pwn (e2 a+ww*Y) (p^12)=e2 a+ww*pwn Y (p^12):=by
 rw[pw_sumk hp,pwn_prod,e2_pw,pw_x12 hp,pw_ww12 hp]
theorem pw_12 {p:Nat} (hp:p=fpP) (x:F12):pwn x (p^12)=x:=by
 obtain⟨⟨a,c,e⟩,b,d,f⟩:=x
 have h1:=horner a b c d e f
 have h2:=congrArg (fun t:F12=>pwn t (p^12)) h1
 refine h2.trans (Eq.trans ?_ h1.symm)
 show pwn (e2 a+ww*(e2 b+ww*(e2 c+ww*(e2 d+ww*(e2 e+ww*e2 f))))) (p^12)=_
 rw[pw_s12 hp,pw_s12 hp,pw_s12 hp,pw_s12 hp,pw_s12 hp,e2_pw,pw_x12 hp]
theorem pw_one {n:Nat} (hn:fpP^12=n+1) {x:F12} (hx:x≠0):pwn x n=1:=by
 have h1:=pw_12 rfl x
 rw[hn] at h1
 have h2:pwn x n*x=x:=h1
 have h3:pwn x n*(x*inv x)=x*inv x:=by rw[<- mul_assoc,h2]
 rwa [mul_inv _ hx,mul_one] at h3
theorem npm_two {n:Nat} (hn:n<2^384) (h:npm fpP 2 384 n=fpP-1):pwn (1+1:Fp) n=-1:=by
 rw[<- zpow_pwn]
 refine Zm.ext ?_
 rw[zpow_two_v,<- npm_eq fpP 2 (of_decide_eq_true (by kernel_rfl)) 384 n hn,h]
 exact of_decide_eq_true (by kernel_rfl)
theorem pw_hf {p n:Nat} (hp:p=fpP) (hn:n=(fpP-1)/2):pwn xi ((p+1)*n)=-1:=by
 rw[pwn_mul]
 have h1:pwn xi (p+1)=(((1+1:Fp),(0:Fp)):F2):=by
  show pwn xi p*xi=_
  rw[pw_f2 hp,F2.mul_def]
  refine F2.ext ?_ ?_
  ·show (1:Fp)*1 - -1*1=1+1
   rw[mul_one,mul_one,Rg.sub_def,neg_neg]
  ·show (1:Fp)*1 + -1*1=0
   rw[mul_one,mul_one,add_comm,Rg.neg_add]
 have h2:n<2^384:=by rw[hn];exact of_decide_eq_true (by kernel_rfl)
 have h3:npm fpP 2 384 n=fpP-1:=by rw[hn];exact two_sq
 rw[h1,pw_2,npm_two h2 h3,F2.neg_def]
 exact F2.ext rfl neg_z.symm
theorem pw_ww6 {p:Nat} (hp:p=fpP):pwn ww (p^6)=-ww:=by
 obtain⟨n,hn⟩:∃ n,n=(fpP-1)/2:=⟨_,rfl⟩
 obtain⟨s,hs⟩:∃ s,s=(fpP^6-1)/6/((fpP+1)*((fpP-1)/2))/2:=⟨_,rfl⟩
 have h2:p^6=6*((p+1)*n*(2*s+1))+1:=by rw[hp,hn,hs];exact of_decide_eq_true (by kernel_rfl)
 have h3:pwn (-1:F2) 2=1:=by show 1*(-1:F2) * -1=1;rw[one_mul,neg_mul,one_mul,neg_neg]
 have h4:pwn (-1:F2) (2*s+1)=-1:=by
  show pwn (-1:F2) (2*s) * -1=-1
  rw[pwn_mul,h3,pwn_one,one_mul]
 rw[h2]
 show pwn ww (6*((p+1)*n*(2*s+1)))*ww=-ww
 rw[pwn_mul,ww_six',e2_pw,pwn_mul,pw_hf hp hn,h4]
 have h5:e2 (-1)=-(1:F12):=by
  rw[F12.neg_def]
  refine F12.ext ?_ ?_
  ·show e6 (-1)=-(1:F6)
   rw[F6.neg_def]
   exact F6.ext rfl neg_z.symm neg_z.symm
  ·exact neg_z.symm
 rw[h5,neg_mul,one_mul]
theorem pw_2h {p:Nat} (hp:p=fpP) (c:F2):pwn c (p^6)=c:=by
 rw[show p^6=(p^2)^3 by rw[<- Nat.pow_mul]];exact pw_2n hp c 3
theorem pw_s6 {p:Nat} (hp:p=fpP) (a:F2) (Y:F12):pwn (e2 a+ww*Y) (p^6)=e2 a+ww * -pwn Y (p^6):=by
 rw[pw_sumk hp,pwn_prod,e2_pw,pw_2h hp,pw_ww6 hp,neg_mul,mul_comm ww (-_),neg_mul,mul_comm ww]
theorem e2_neg (c:F2) : -e2 c=e2 (-c):=by
 rw[F12.neg_def]
 refine F12.ext ?_ ?_
 ·show -(e6 c)=e6 (-c)
  rw[F6.neg_def]
  exact F6.ext rfl neg_z neg_z
 ·exact neg_z
theorem hs_1 (b:F2) (Z:F12) : -(e2 b+ww * -Z)=e2 (-b)+ww*Z:=by
 have h1:(e2 b+ww * -Z)+(e2 (-b)+ww*Z)=0:=by
  rw[<- e2_neg,mul_comm ww (-Z),neg_mul,mul_comm Z,add_assoc,<- add_assoc (-(ww*Z)),add_comm (-(ww*Z)),add_assoc,Rg.neg_add,add_zero,add_comm,Rg.neg_add]
 have h2 : -(e2 b+ww * -Z)+((e2 b+ww * -Z)+(e2 (-b)+ww*Z))=-(e2 b+ww * -Z):=by rw[h1,add_zero]
 rw[<- add_assoc,Rg.neg_add,zero_add] at h2
 exact h2.symm
theorem pw_6 {p:Nat} (hp:p=fpP) (x:F12):pwn x (p^6)=(x.1,-x.2):=by
 obtain⟨⟨a,c,e⟩,b,d,f⟩:=x
 have h1:=horner a b c d e f
 have h2:=congrArg (fun t:F12=>pwn t (p^6)) h1
 refine h2.trans ?_
 show pwn (e2 a+ww*(e2 b+ww*(e2 c+ww*(e2 d+ww*(e2 e+ww*e2 f))))) (p^6)=_
 rw[pw_s6 hp,pw_s6 hp,pw_s6 hp,pw_s6 hp,pw_s6 hp,e2_pw,pw_2h hp,hs_1,hs_1,e2_neg,<- horner]
 refine F12.ext rfl ?_
 show ((-b,-d,-f):F6)=-((b,d,f):F6)
 rw[F6.neg_def]
end Cr
namespace Cr
open Rg Fd Go.Eng
abbrev V2:=Nat × Nat
abbrev V6:=V2 × V2 × V2
abbrev V12:=V6 × V6
noncomputable def q2 (a:V2):F2:=evP2.φ a
noncomputable def q6 (a:V6):F6:=(q2 a.1,q2 a.2.1,q2 a.2.2)
noncomputable def q12 (a:V12):F12:=(q6 a.1,q6 a.2)
def fo2 {α:Type} (a:V2) (k:V2->α):α:=fc a.1 fun x=>fc a.2 fun y=>k (x,y)
theorem fo2_eq {α:Type} (a:V2) (k:V2->α):fo2 a k=k a:=by rw[fo2,fc_eq,fc_eq]
def fo6 {α:Type} (a:V6) (k:V6->α):α:=fo2 a.1 fun x=>fo2 a.2.1 fun y=>fo2 a.2.2 fun z=>k (x,y,z)
theorem fo6_eq {α:Type} (a:V6) (k:V6->α):fo6 a k=k a:=by rw[fo6,fo2_eq,fo2_eq,fo2_eq]
def fo12 {α:Type} (a:V12) (k:V12->α):α:=fo6 a.1 fun x=>fo6 a.2 fun y=>k (x,y)
theorem fo12_eq {α:Type} (a:V12) (k:V12->α):fo12 a k=k a:=by rw[fo12,fo6_eq,fo6_eq]
def vadd (a b:V2):V2:=(addN2 a.1 b.1,addN2 a.2 b.2)
def vsub (a b:V2):V2:=(subN2 a.1 b.1,subN2 a.2 b.2)
def vmul (a b:V2):V2:=(subN2 (a.1*b.1) (a.2*b.2),addN2 (a.1*b.2) (a.2*b.1))
def vxi (a:V2):V2:=(subN2 a.1 a.2,addN2 a.1 a.2)
def vneg (a:V2):V2:=vsub (0,0) a
def vcj (a:V2):V2:=(a.1,subN2 0 a.2)
theorem q2_add (a b:V2):q2 (vadd a b)=q2 a+q2 b:=evP2.add_φ a b
theorem q2_sub (a b:V2):q2 (vsub a b)=q2 a-q2 b:=evP2.sub_φ a b
theorem q2_mul (a b:V2):q2 (vmul a b)=q2 a*q2 b:=evP2.mul_φ a b
theorem q2_xi (a:V2):q2 (vxi a)=xi*q2 a:=by
 rw[xi_mul]
 show (zm ((subN2 a.1 a.2:Nat):Int),zm ((addN2 a.1 a.2:Nat):Int))=_
 rw[addN2_φ,subN2_φ];rfl
theorem q2_zero:q2 (0,0)=0:=rfl
theorem q2_neg (a:V2):q2 (vneg a)=-q2 a:=by rw[vneg,q2_sub,q2_zero,zero_sub']
theorem q2_cj (a:V2):q2 (vcj a)=((q2 a).1,-(q2 a).2):=by
 refine F2.ext rfl ?_
 show (zm ((subN2 0 a.2:Nat):Int):Fp)=-zm (a.2:Int)
 rw[subN2_φ]
 show (0:Fp)-_=_
 rw[zero_sub']
def v6add (x y:V6):V6:=(vadd x.1 y.1,vadd x.2.1 y.2.1,vadd x.2.2 y.2.2)
def v6sub (x y:V6):V6:=(vsub x.1 y.1,vsub x.2.1 y.2.1,vsub x.2.2 y.2.2)
def v6vv (x:V6):V6:=(vxi x.2.2,x.1,x.2.1)
def v6mul (x y:V6):V6 :=
 fo2 (vmul x.1 y.1) fun a=>fo2 (vmul x.2.1 y.2.1) fun b=>fo2 (vmul x.2.2 y.2.2) fun c =>
 fo2 (vadd x.2.1 x.2.2) fun s1=>fo2 (vadd y.2.1 y.2.2) fun t1=>fo2 (vadd x.1 x.2.1) fun s2=>fo2 (vadd y.1 y.2.1) fun t2=>fo2 (vadd x.1 x.2.2) fun s3=>fo2 (vadd y.1 y.2.2) fun t3 =>
 fo2 (vsub (vsub (vmul s1 t1) b) c) fun d=>fo2 (vsub (vsub (vmul s2 t2) a) b) fun e=>fo2 (vsub (vsub (vmul s3 t3) a) c) fun f =>
 (vadd a (vxi d),vadd e (vxi c),vadd f b)
theorem q6_add (x y:V6):q6 (v6add x y)=q6 x+q6 y:=by
 rw[F6.add_def];simp only[q6,v6add,q2_add]
theorem q6_sub (x y:V6):q6 (v6sub x y)=q6 x-q6 y:=by
 rw[F6.sub_def];simp only[q6,v6sub,q2_sub]
theorem q6_vv (x:V6):q6 (v6vv x)=vv*q6 x:=by
 rw[vv_mul];simp only[q6,v6vv,q2_xi]
theorem q6_mul (x y:V6):q6 (v6mul x y)=q6 x*q6 y:=by
 rw[<- tw_mul]
 simp only[v6mul,fo2_eq,q6,q2_add,q2_sub,q2_mul,q2_xi]
def v12mul (x y:V12):V12 :=
 fo6 (v6mul x.1 y.1) fun a=>fo6 (v6mul x.2 y.2) fun b=>fo6 (v6add x.1 x.2) fun s=>fo6 (v6add y.1 y.2) fun t =>
 fo6 (v6mul s t) fun m=>fo6 (v6add a (v6vv b)) fun c=>fo6 (v6sub (v6sub m a) b) fun d=>(c,d)
def v12sq (x:V12):V12 :=
 fo6 (v6mul x.1 x.2) fun a=>fo6 (v6vv a) fun b=>fo6 (v6add x.1 x.2) fun s=>fo6 (v6add x.1 (v6vv x.2)) fun t =>
 fo6 (v6mul s t) fun m=>fo6 (v6sub (v6sub m a) b) fun c=>fo6 (v6add a a) fun d=>(c,d)
theorem q12_mul (x y:V12):q12 (v12mul x y)=q12 x*q12 y:=by
 rw[<- tw_emul]
 simp only[v12mul,fo6_eq,q12,q6_add,q6_sub,q6_mul,q6_vv]
theorem q12_sq (x:V12):q12 (v12sq x)=q12 x*q12 x:=by
 rw[<- tw_esq]
 simp only[v12sq,fo6_eq,q12,q6_add,q6_sub,q6_mul,q6_vv]
def v6neg (x:V6):V6:=v6sub ((0,0),(0,0),(0,0)) x
theorem q6_neg (x:V6):q6 (v6neg x)=-q6 x:=by
 rw[v6neg,q6_sub]
 show (0:F6)-_=_
 rw[zero_sub']
def v12cj (x:V12):V12:=fo6 (v6neg x.2) fun y=>(x.1,y)
theorem q12_cj (x:V12):q12 (v12cj x)=conj12 (q12 x):=by
 simp only[v12cj,fo6_eq,q12,q6_neg];rfl
def vone:V12:=(((1,0),(0,0),(0,0)),(0,0),(0,0),(0,0))
theorem q12_one:q12 vone=1:=rfl
def v12pw (x:V12):Nat->Nat->V12
 | 0,_=>vone
 | f+1,n=>match Nat.beq n 0 with
  | true=>vone
  | false=>fo12 (v12pw x f (n/2)) fun y=>fo12 (v12sq y) fun z=>match Nat.beq (n%2) 1 with
   | true=>v12mul z x
   | false=>z
theorem q12_pw (x:V12):∀ f n,n<2^f->q12 (v12pw x f n)=pwn (q12 x) n
 | 0,n,h=>by
  have:n=0:=by simp at h;exact h
  subst this;exact q12_one
 | f+1,n,h=>by
  unfold v12pw
  split
  ·rename_i hn;have:=Nat.eq_of_beq_eq_true hn;subst this;exact q12_one
  ·have ih:=q12_pw x f (n/2) (by rw[Nat.pow_succ] at h;omega)
   rw[fo12_eq,fo12_eq]
   split
   ·rename_i hn
    have h1:=Nat.eq_of_beq_eq_true hn
    have h2:n=n/2+n/2+1:=by omega
    rw[q12_mul,q12_sq,ih]
    conv=>rhs;rw[h2]
    show _=pwn (q12 x) (n/2+n/2)*q12 x
    rw[pwn_add]
   ·rename_i hn
    have h1:n%2≠1:=fun e=>by rw[e] at hn;cases hn
    have h2:n=n/2+n/2:=by omega
    rw[q12_sq,ih]
    conv=>rhs;rw[h2]
    rw[pwn_add]
def v12fr (r:V2) (x:V12):V12 :=
 fo2 (vmul r r) fun r2=>fo2 (vmul r2 r2) fun r4=>fo2 (vmul r2 r) fun r3=>fo2 (vmul r4 r) fun r5 =>
 ((vcj x.1.1,vmul (vcj x.1.2.1) r2,vmul (vcj x.1.2.2) r4),(vmul (vcj x.2.1) r,vmul (vcj x.2.2.1) r3,vmul (vcj x.2.2.2) r5))
end Cr
namespace Cr
open Rg Fd
theorem i_lvt {F:Type} [Rg F] (x x1 y1 u l:F):y1+l*(x-x1)=- -(y1+l*(u-x1))+l*(x-u) :=
 rid [x,x1,y1,u,l] ((fun (x x1 y1 u l:PE)=>(y1+l*(x-x1))) (.v 0) (.v 1) (.v 2) (.v 3) (.v 4)) ((fun (x x1 y1 u l:PE)=>(- -(y1+l*(u-x1))+l*(x-u))) (.v 0) (.v 1) (.v 2) (.v 3) (.v 4)) (by kernel_rfl)
theorem i_two {F:Type} [Rg F] (x y u v l m b:F):(y-(-v+l*(x-u)))*(y-(v+m*(x-u)))-(x-u)*(x*x+(u+l*m)*x+(u*u-l*m*u+(l-m)*v)-(l+m)*y)=1*(y*y-(x*x*x+b))+(-1)*(v*v-(u*u*u+b)) :=
 rid [x,y,u,v,l,m,b] ((fun (x y u v l m b:PE)=>((y-(-v+l*(x-u)))*(y-(v+m*(x-u)))-(x-u)*(x*x+(u+l*m)*x+(u*u-l*m*u+(l-m)*v)-(l+m)*y))) (.v 0) (.v 1) (.v 2) (.v 3) (.v 4) (.v 5) (.v 6)) ((fun (x y u v l m b:PE)=>(1*(y*y-(x*x*x+b))+(-1)*(v*v-(u*u*u+b)))) (.v 0) (.v 1) (.v 2) (.v 3) (.v 4) (.v 5) (.v 6)) (by kernel_rfl)
theorem i_nl {F:Type} [Rg F] (y a:F):(y-a)*(y - -a)=y*y-a*a :=
 rid [y,a] ((fun (y a:PE)=>((y-a)*(y - -a))) (.v 0) (.v 1)) ((fun (y a:PE)=>(y*y-a*a)) (.v 0) (.v 1)) (by kernel_rfl)
theorem i_nl2 {F:Type} [Rg F] (y1 l x x1:F) : -y1 + -l*(x-x1)=-(y1+l*(x-x1)) :=
 rid [y1,l,x,x1] ((fun (y1 l x x1:PE)=>(-y1 + -l*(x-x1))) (.v 0) (.v 1) (.v 2) (.v 3)) ((fun (y1 l x x1:PE)=>(-(y1+l*(x-x1)))) (.v 0) (.v 1) (.v 2) (.v 3)) (by kernel_rfl)
theorem i_e2 {F:Type} [Rg F] (x1 y1 x2 y2 m:F):(x1*x2+(x1+x2)*(m*m-x1-x2)) - -((y1-m*x1)+(y1-m*x1))*m=1*(m*(y1+y2)-(x1*x1+x1*x2+x2*x2))+m*(m*(x2-x1)-(y2-y1)) :=
 rid [x1,y1,x2,y2,m] ((fun (x1 y1 x2 y2 m:PE)=>((x1*x2+(x1+x2)*(m*m-x1-x2)) - -((y1-m*x1)+(y1-m*x1))*m)) (.v 0) (.v 1) (.v 2) (.v 3) (.v 4)) ((fun (x1 y1 x2 y2 m:PE)=>(1*(m*(y1+y2)-(x1*x1+x1*x2+x2*x2))+m*(m*(x2-x1)-(y2-y1)))) (.v 0) (.v 1) (.v 2) (.v 3) (.v 4)) (by kernel_rfl)
theorem i_e3 {F:Type} [Rg F] (x1 y1 x2 y2 m b:F):(x1*x2*(m*m-x1-x2))-((y1-m*x1)*(y1-m*x1)-b)=(-1)*(y1*y1-(x1*x1*x1+b))+x1*(m*(y1+y2)-(x1*x1+x1*x2+x2*x2))+(m*x1)*(m*(x2-x1)-(y2-y1)) :=
 rid [x1,y1,x2,y2,m,b] ((fun (x1 y1 x2 y2 m b:PE)=>((x1*x2*(m*m-x1-x2))-((y1-m*x1)*(y1-m*x1)-b))) (.v 0) (.v 1) (.v 2) (.v 3) (.v 4) (.v 5)) ((fun (x1 y1 x2 y2 m b:PE)=>((-1)*(y1*y1-(x1*x1*x1+b))+x1*(m*(y1+y2)-(x1*x1+x1*x2+x2*x2))+(m*x1)*(m*(x2-x1)-(y2-y1)))) (.v 0) (.v 1) (.v 2) (.v 3) (.v 4) (.v 5)) (by kernel_rfl)
theorem i_p3 {F:Type} [Rg F] (x1 x2 x3 d e:F):(d*x1+e)*(d*x2+e)*(d*x3+e)=d*d*d*(x1*x2*x3)+d*d*e*(x1*x2+(x1+x2)*x3)+d*e*e*(x1+x2+x3)+e*e*e :=
 rid [x1,x2,x3,d,e] ((fun (x1 x2 x3 d e:PE)=>((d*x1+e)*(d*x2+e)*(d*x3+e))) (.v 0) (.v 1) (.v 2) (.v 3) (.v 4)) ((fun (x1 x2 x3 d e:PE)=>(d*d*d*(x1*x2*x3)+d*d*e*(x1*x2+(x1+x2)*x3)+d*e*e*(x1+x2+x3)+e*e*e)) (.v 0) (.v 1) (.v 2) (.v 3) (.v 4)) (by kernel_rfl)
theorem i_e1 {F:Type} [Rg F] (x1 x2 m:F):x1+x2+(m*m-x1-x2)=m*m :=
 rid [x1,x2,m] ((fun (x1 x2 m:PE)=>(x1+x2+(m*m-x1-x2))) (.v 0) (.v 1) (.v 2)) ((fun (x1 x2 m:PE)=>(m*m)) (.v 0) (.v 1) (.v 2)) (by kernel_rfl)
theorem i_rc {F:Type} [Rg F] (m l n k b:F):(m-l)*(m-l)*(m-l)*(k*k-b)+(m-l)*(m-l)*(k-n)*(-(k+k)*m)+(m-l)*(k-n)*(k-n)*(m*m)+(k-n)*(k-n)*(k-n)=-((l-m)*(l-m)*(l-m)*(n*n-b)+(l-m)*(l-m)*(n-k)*(-(n+n)*l)+(l-m)*(n-k)*(n-k)*(l*l)+(n-k)*(n-k)*(n-k)) :=
 rid [m,l,n,k,b] ((fun (m l n k b:PE)=>((m-l)*(m-l)*(m-l)*(k*k-b)+(m-l)*(m-l)*(k-n)*(-(k+k)*m)+(m-l)*(k-n)*(k-n)*(m*m)+(k-n)*(k-n)*(k-n))) (.v 0) (.v 1) (.v 2) (.v 3) (.v 4)) ((fun (m l n k b:PE)=>(-((l-m)*(l-m)*(l-m)*(n*n-b)+(l-m)*(l-m)*(n-k)*(-(n+n)*l)+(l-m)*(n-k)*(n-k)*(l*l)+(n-k)*(n-k)*(n-k)))) (.v 0) (.v 1) (.v 2) (.v 3) (.v 4)) (by kernel_rfl)
theorem i_lvd {F:Type} [Rg F] (x y a c xA yA xC yC l m:F):(y-(yA+l*(x-xA)))-((m-l)*x+((yC-m*xC)-(yA-l*xA)))=(-1)*(m*(x-xC)-(y-yC)) :=
 rid [x,y,a,c,xA,yA,xC,yC,l,m] ((fun (x y a c xA yA xC yC l m:PE)=>((y-(yA+l*(x-xA)))-((m-l)*x+((yC-m*xC)-(yA-l*xA))))) (.v 0) (.v 1) (.v 2) (.v 3) (.v 4) (.v 5) (.v 6) (.v 7) (.v 8) (.v 9)) ((fun (x y a c xA yA xC yC l m:PE)=>((-1)*(m*(x-xC)-(y-yC)))) (.v 0) (.v 1) (.v 2) (.v 3) (.v 4) (.v 5) (.v 6) (.v 7) (.v 8) (.v 9)) (by kernel_rfl)
theorem i_sw {F:Type} [Rg F] (x1 y1 x2 y2 l x:F):(y1+l*(x-x1))-(y2+l*(x-x2))=1*(l*(x2-x1)-(y2-y1)) :=
 rid [x1,y1,x2,y2,l,x] ((fun (x1 y1 x2 y2 l x:PE)=>((y1+l*(x-x1))-(y2+l*(x-x2)))) (.v 0) (.v 1) (.v 2) (.v 3) (.v 4) (.v 5)) ((fun (x1 y1 x2 y2 l x:PE)=>(1*(l*(x2-x1)-(y2-y1)))) (.v 0) (.v 1) (.v 2) (.v 3) (.v 4) (.v 5)) (by kernel_rfl)
theorem i_nrm {F:Type} [Rg F] (x y x1 y1 x2 y2 l b:F):(y*y-(y1+l*(x-x1))*(y1+l*(x-x1)))-(x-x1)*(x-x2)*(x-(l*l-x1-x2))=1*(y*y-(x*x*x+b))+(-1)*(y1*y1-(x1*x1*x1+b))+(-1)*(x-x1)*(l*(y1+y2)-(x1*x1+x1*x2+x2*x2))+(-1)*(x-x1)*l*(l*(x2-x1)-(y2-y1)) :=
 rid [x,y,x1,y1,x2,y2,l,b] ((fun (x y x1 y1 x2 y2 l b:PE)=>((y*y-(y1+l*(x-x1))*(y1+l*(x-x1)))-(x-x1)*(x-x2)*(x-(l*l-x1-x2)))) (.v 0) (.v 1) (.v 2) (.v 3) (.v 4) (.v 5) (.v 6) (.v 7)) ((fun (x y x1 y1 x2 y2 l b:PE)=>(1*(y*y-(x*x*x+b))+(-1)*(y1*y1-(x1*x1*x1+b))+(-1)*(x-x1)*(l*(y1+y2)-(x1*x1+x1*x2+x2*x2))+(-1)*(x-x1)*l*(l*(x2-x1)-(y2-y1)))) (.v 0) (.v 1) (.v 2) (.v 3) (.v 4) (.v 5) (.v 6) (.v 7)) (by kernel_rfl)
theorem i_sw3 {F:Type} [Rg F] (a b c:F):a*c*b=b*c*a :=
 rid [a,b,c] ((fun (a b c:PE)=>(a*c*b)) (.v 0) (.v 1) (.v 2)) ((fun (a b c:PE)=>(b*c*a)) (.v 0) (.v 1) (.v 2)) (by kernel_rfl)
theorem i_sw4 {F:Type} [Rg F] (a b c d:F):a*b*c*d=a*b*d*c :=
 rid [a,b,c,d] ((fun (a b c d:PE)=>(a*b*c*d)) (.v 0) (.v 1) (.v 2) (.v 3)) ((fun (a b c d:PE)=>(a*b*d*c)) (.v 0) (.v 1) (.v 2) (.v 3)) (by kernel_rfl)
theorem i_sw5 {F:Type} [Rg F] (a b c:F):a*b*c=a*c*b :=
 rid [a,b,c] ((fun (a b c:PE)=>(a*b*c)) (.v 0) (.v 1) (.v 2)) ((fun (a b c:PE)=>(a*c*b)) (.v 0) (.v 1) (.v 2)) (by kernel_rfl)
theorem i_sw6 {F:Type} [Rg F] (a b c:F):a*b*c=b*c*a :=
 rid [a,b,c] ((fun (a b c:PE)=>(a*b*c)) (.v 0) (.v 1) (.v 2)) ((fun (a b c:PE)=>(b*c*a)) (.v 0) (.v 1) (.v 2)) (by kernel_rfl)
theorem i_mm {F:Type} [Rg F] (y a:F) : -y-a=-(y - -a) :=
 rid [y,a] ((fun (y a:PE)=>(-y-a)) (.v 0) (.v 1)) ((fun (y a:PE)=>(-(y - -a))) (.v 0) (.v 1)) (by kernel_rfl)
theorem i_ns {F:Type} [Rg F] (a c:F):a-c=-(c-a) :=
 rid [a,c] ((fun (a c:PE)=>(a-c)) (.v 0) (.v 1)) ((fun (a c:PE)=>(-(c-a))) (.v 0) (.v 1)) (by kernel_rfl)
theorem i_sw7 {F:Type} [Rg F] (a b c:F):a*b*c=c*b*a :=
 rid [a,b,c] ((fun (a b c:PE)=>(a*b*c)) (.v 0) (.v 1) (.v 2)) ((fun (a b c:PE)=>(c*b*a)) (.v 0) (.v 1) (.v 2)) (by kernel_rfl)
theorem i_sw8 {F:Type} [Rg F] (a b c:F):a*b*c=c*a*b :=
 rid [a,b,c] ((fun (a b c:PE)=>(a*b*c)) (.v 0) (.v 1) (.v 2)) ((fun (a b c:PE)=>(c*a*b)) (.v 0) (.v 1) (.v 2)) (by kernel_rfl)
theorem i_z1 {F:Type} [Rg F] (m x y:F):m*(x-x)=y-y :=
 rid [m,x,y] ((fun (m x y:PE)=>(m*(x-x))) (.v 0) (.v 1) (.v 2)) ((fun (m x y:PE)=>(y-y)) (.v 0) (.v 1) (.v 2)) (by kernel_rfl)
section
variable {F:Type} [Fd F] {b:F}
def lv (A:F × F) (l:F) (R:F × F):F:=R.2-(A.2+l*(R.1-A.1))
theorem lv_third (P:F × F) (l u:F) (R:F × F):lv P l R=R.2-(- -(P.2+l*(u-P.1))+l*(R.1-u)):=by
 unfold lv;rw[i_lvt R.1 P.1 P.2 u l]
theorem lv_two {P Q D R:F × F} {l m:F} (hl:LnP P Q l) (hD:D=(sx P.1 Q.1 l,sy P.1 P.2 Q.1 l)) (oP:OnF b P) (oR:OnF b R):lv P l R*lv D m R=(R.1-D.1)*fn D.1 D.2 l m R.1 R.2:=by
 have oD:OnF b D:=by rw[hD];exact hl.sum_on oP
 have e1:lv P l R=R.2-(-D.2+l*(R.1-D.1)):=by rw[lv_third P l D.1 R,hD];rfl
 rw[e1]
 exact lc2 _ _ (i_two R.1 R.2 D.1 D.2 l m b) oR oD
theorem lv_d {A C:F × F} {l m x y:F} (h:m*(x-C.1)=y-C.2):lv A l (x,y)=(m-l)*x+((C.2-m*C.1)-(A.2-l*A.1)):=lc1 _ (i_lvd x y 0 0 A.1 A.2 C.1 C.2 l m) h
theorem lv_prod {A C D:F × F} {l m:F} (h:LnP C D m) (oC:OnF b C):lv A l C*lv A l D*lv A l (sx C.1 D.1 m,-sy C.1 C.2 D.1 m) =
  (m-l)*(m-l)*(m-l)*((C.2-m*C.1)*(C.2-m*C.1)-b)+(m-l)*(m-l)*((C.2-m*C.1)-(A.2-l*A.1))*(-((C.2-m*C.1)+(C.2-m*C.1))*m)+(m-l)*((C.2-m*C.1)-(A.2-l*A.1))*((C.2-m*C.1)-(A.2-l*A.1))*(m*m)+((C.2-m*C.1)-(A.2-l*A.1))*((C.2-m*C.1)-(A.2-l*A.1))*((C.2-m*C.1)-(A.2-l*A.1)):=by
 have h1:lv A l C=_:=lv_d (A:=A) (C:=C) (l:=l) (m:=m) (x:=C.1) (y:=C.2) (i_z1 m C.1 C.2)
 have h2:lv A l D=_:=lv_d (A:=A) (C:=C) (l:=l) (m:=m) (x:=D.1) (y:=D.2) h.1
 have h3:=lv_d (A:=A) (C:=C) (l:=l) (m:=m) (x:=sx C.1 D.1 m) (y:=-sy C.1 C.2 D.1 m) h.third.1
 rw[h1,h2,h3,i_p3]
 have g3:C.1*D.1*sx C.1 D.1 m=(C.2-m*C.1)*(C.2-m*C.1)-b:=lc3 _ _ _ (i_e3 C.1 C.2 D.1 D.2 m b) oC h.2 h.1
 have g2:C.1*D.1+(C.1+D.1)*sx C.1 D.1 m=-((C.2-m*C.1)+(C.2-m*C.1))*m:=lc2 _ _ (i_e2 C.1 C.2 D.1 D.2 m) h.2 h.1
 have g1:C.1+D.1+sx C.1 D.1 m=m*m:=i_e1 C.1 D.1 m
 rw[g1,g2,g3]
theorem lv_rec {A B C D:F × F} {l m:F} (h:LnP A B l) (k:LnP C D m) (oA:OnF b A) (oC:OnF b C) :
  lv A l C*lv A l D*lv A l (sx C.1 D.1 m,-sy C.1 C.2 D.1 m)=-(lv C m A*lv C m B*lv C m (sx A.1 B.1 l,-sy A.1 A.2 B.1 l)):=by
 rw[lv_prod k oC,lv_prod h oA]
 exact i_rc m l (A.2-l*A.1) (C.2-m*C.1) b
variable (hb:b≠0)
include hb
theorem fn_same {xP yP xQ yQ xR yR l m u v l' m':F} (oP:On b xP yP) (oR:On b xR yR) (hl:Ln xP yP xQ yQ l) (hm:Ln (sx xP xQ l) (sy xP yP xQ l) xR yR m)
  (T2:xP+xQ+(u+l'*m')=(l'+m')*l) (f2P:fn u v l' m' xP yP=0) (f2R:fn u v l' m' xR yR=0) (h1:xR≠xP) (h2:xR≠xQ) (x y:F) :
  fn (sx xP xQ l) (sy xP yP xQ l) l m x y=fn u v l' m' x y:=by
 have f1P:fn (sx xP xQ l) (sy xP yP xQ l) l m xP yP=0:=fn1 hl.third
 have f1R:fn (sx xP xQ l) (sy xP yP xQ l) l m xR yR=0:=fn2 hm
 have T1:xP+xQ+(sx xP xQ l+l*m)=(l+m)*l:=i_T1 xP xQ l m
 have hne:yR≠yP+l*(xR-xP):=by
  intro hy
  rcases hl.which oP oR hy with e|e|e
  ·exact h1 e
  ·exact h2 e
  ·refine hm.not_neg hb (hl.sum_on oP) ⟨e.symm,?_⟩
   unfold sy
   rw[neg_neg,<- e]
   exact hy
 obtain⟨e1,e2,e3⟩:=same f1P f1R f2P f2R T1 T2 hne
 unfold fn
 rw[e1,e2,e3]
end
section
variable {F:Type} [Fd F] {b:F}
noncomputable def Vt (A R:F × F):F:=if A=O2 then 1 else R.1-A.1
noncomputable def Lt (A B R:F × F):F:=if A=O2 then Vt B R else if B=O2 then Vt A R else if A.1=B.1/\B.2=-A.2 then R.1-A.1 else lv A (slope A.1 A.2 B.1 B.2) R
theorem Vt_O (R:F × F):Vt (O2:F × F) R=1:=by unfold Vt;rw[if_pos rfl]
theorem Vt_on {A:F × F} (o:OnF b A) (hb:b≠0) (R:F × F):Vt A R=R.1-A.1:=by unfold Vt;rw[if_neg (on_ne hb o)]
theorem Vt_neg (A R:F × F):Vt (pneg A) R=Vt A R:=by
 unfold Vt
 by_cases h:A=O2
 ·subst h;rw[pneg_O]
 ·rw[if_neg h,if_neg (fun e=>h (by have:=congrArg pneg e;rwa [pneg_pneg,pneg_O] at this))];rfl
theorem Lt_O (B R:F × F):Lt O2 B R=Vt B R:=by unfold Lt;rw[if_pos rfl]
theorem Lt_O' (A R:F × F):Lt A O2 R=Vt A R:=by
 unfold Lt
 split
 ·rename_i h;rw[h]
 ·rw[if_pos rfl]
variable (hb:b≠0)
include hb
theorem Lt_ln {A B:F × F} {l:F} (oA:OnF b A) (oB:OnF b B) (h:LnP A B l) (R:F × F):Lt A B R=lv A l R:=by
 have hn:=h.not_neg hb oA
 unfold Lt
 rw[if_neg (on_ne hb oA),if_neg (on_ne hb oB),if_neg hn]
 rw[Ln.unique hb (slope_ln oA oB hn) h oA]
omit hb in
theorem Lt_neg (A R:F × F):Lt A (pneg A) R=Vt A R:=by
 by_cases h:A=O2
 ·subst h;rw[pneg_O,Lt_O]
 ·unfold Lt Vt
  rw[if_neg h,if_neg (fun e=>h (by have:=congrArg pneg e;rwa [pneg_pneg,pneg_O] at this)),if_pos ⟨rfl,rfl⟩,if_neg h]
omit hb in
theorem lv_symm {A B:F × F} {l:F} (h:LnP A B l) (R:F × F):lv A l R=lv B l R:=by
 have e:A.2+l*(R.1-A.1)=B.2+l*(R.1-B.1):=lc1 1 (i_sw A.1 A.2 B.1 B.2 l R.1) h.1
 unfold lv;rw[e]
theorem Lt_comm {A B:F × F} (oA:OnP b A) (oB:OnP b B) (R:F × F):Lt A B R=Lt B A R:=by
 rcases oA with rfl|oA
 ·rw[Lt_O,Lt_O']
 rcases oB with rfl|oB
 ·rw[Lt_O,Lt_O']
 rcases ln_or oA oB with rfl|⟨l,h⟩
 ·rw[Lt_neg]
  have:=Lt_neg (pneg A) R
  rw[pneg_pneg] at this
  rw[this,Vt_neg]
 ·rw[Lt_ln hb oA oB h,Lt_ln hb oB oA h.symm,lv_symm h]
theorem Lt_norm {A B R:F × F} (oA:OnP b A) (oB:OnP b B) (oR:OnF b R):Lt A B R*Lt (pneg A) (padd A B) R=Vt A R*Vt B R*Vt (padd A B) R:=by
 rcases oA with rfl|oA
 ·rw[pneg_O,O_add,Lt_O,Vt_O,one_mul]
 rcases oB with rfl|oB
 ·rw[add_O,Lt_O',Vt_O,mul_one]
  have:=Lt_neg (pneg A) R
  rw[pneg_pneg] at this
  rw[this,Vt_neg]
 rcases ln_or oA oB with rfl|⟨l,h⟩
 ·rw[add_neg_self,Lt_neg,Lt_O',Vt_O,Vt_neg,mul_one]
 ·have ht:=h.third
  have hn:LnP (pneg A) (sx A.1 B.1 l,sy A.1 A.2 B.1 l) (-l):=⟨lc1 _ (i_n1 A.1 A.2 _ _ l) ht.1,lc1 _ (i_n2 A.1 A.2 _ _ l) ht.2⟩
  have oS:OnF b (sx A.1 B.1 l,sy A.1 A.2 B.1 l):=h.sum_on oA
  rw[padd_ln hb oA oB h,Lt_ln hb oA oB h,Lt_ln hb (pneg_on oA) oS hn,Vt_on oA hb,Vt_on oB hb,Vt_on oS hb]
  have e1:lv (pneg A) (-l) R=R.2 - -(A.2+l*(R.1-A.1)):=by
   show R.2-(-A.2 + -l*(R.1-A.1))=_
   rw[i_nl2]
  rw[e1]
  show (R.2-(A.2+l*(R.1-A.1)))*_=_
  rw[i_nl]
  have:=i_on A.1 A.2 B.1 B.2 l R.1 b
  exact lc4 _ _ _ _ (i_nrm R.1 R.2 A.1 A.2 B.1 B.2 l b) oR oA h.2 h.1
theorem Lt_turn {A B R:F × F} (oA:OnP b A) (oB:OnP b B):Lt A B R=Lt B (pneg (padd A B)) R:=by
 rcases oA with rfl|oA
 ·rw[O_add,Lt_O,Lt_neg]
 rcases oB with rfl|oB
 ·rw[add_O,Lt_O,Lt_O',Vt_neg]
 rcases ln_or oA oB with rfl|⟨l,h⟩
 ·rw[add_neg_self,pneg_O,Lt_O',Lt_neg,Vt_neg]
 ·have oS:OnF b (sx A.1 B.1 l,sy A.1 A.2 B.1 l):=h.sum_on oA
  rw[padd_ln hb oA oB h,Lt_ln hb oA oB h,lv_symm h]
  exact (Lt_ln hb oB (pneg_on oS) h.third' R).symm
theorem cyc_two {P R T:F × F} (oP:OnF b P) (oR:OnF b R) (oT:OnF b T) (h1:R.1≠P.1) {l m l' m':F} (hl:LnP P P l) (hm:LnP (sx P.1 P.1 l,sy P.1 P.2 P.1 l) R m) (hl':LnP P R l') (hm':LnP P (sx P.1 R.1 l',sy P.1 P.2 R.1 l') m') :
  Lt P P T*Lt (padd P P) R T*Vt (padd P R) T=Lt P R T*Lt P (padd P R) T*Vt (padd P P) T:=by
 have oU:OnF b (sx P.1 P.1 l,sy P.1 P.2 P.1 l):=hl.sum_on oP
 have oV:OnF b (sx P.1 R.1 l',sy P.1 P.2 R.1 l'):=hl'.sum_on oP
 rw[padd_ln hb oP oP hl,padd_ln hb oP oR hl',Lt_ln hb oP oP hl,Lt_ln hb oU oR hm,Lt_ln hb oP oR hl',Lt_ln hb oP oV hm',lv_symm hm',lv_two hl rfl oP oT,lv_two hl' rfl oP oT,Vt_on oV hb,Vt_on oU hb]
 have hV:sx P.1 R.1 l'≠P.1:=by
  intro e
  have hn:=hm'.not_neg hb oP
  have e2:sy P.1 P.2 R.1 l'=P.2:=by
   have:(sy P.1 P.2 R.1 l'-P.2)*(sy P.1 P.2 R.1 l'+P.2)=0:=by
    have oV:sy P.1 P.2 R.1 l'*sy P.1 P.2 R.1 l'=_:=oV
    have oP:P.2*P.2=P.1*P.1*P.1+b:=oP
    rw[i_dsq,oV,oP]
    show sx P.1 R.1 l'*sx P.1 R.1 l'*sx P.1 R.1 l'+b-_=0
    rw[e,sub_self]
   rcases mul_eq_zero this with h|h
   ·exact eq_of_sub h
   ·exact absurd ⟨e.symm,(neg_eq (by rw[add_comm];exact h)).symm⟩ hn
  have hc:=cancel hb (.inr oP) (.inr oR)
  rw[padd_ln hb oP oR hl',e,e2] at hc
  have:padd (pneg P) P=R:=hc
  rw[neg_add_self] at this
  exact on_ne hb oR this.symm
 have T2:P.1+P.1+(sx P.1 R.1 l'+l'*m')=(l'+m')*l:=by
  have e:=lc4 _ _ _ _ (i_t3 P.1 P.2 (sx P.1 R.1 l') (sy P.1 P.2 R.1 l') l' m' l) hl'.third.1 hm'.1 hl'.third.2 hl.2
  exact eq_of_sub ((mul_eq_zero e).resolve_left (sub_ne hV))
 have e:=fn_same (u:=sx P.1 R.1 l') (v:=sy P.1 P.2 R.1 l') (l':=l') (m':=m') hb oP oR hl hm T2 (fn1 hl'.third) (fn1 hl'.third') h1 h1 T.1 T.2
 show _*fn (sx P.1 P.1 l) (sy P.1 P.2 P.1 l) l m T.1 T.2*_=_*fn (sx P.1 R.1 l') (sy P.1 P.2 R.1 l') l' m' T.1 T.2*_
 rw[e]
 exact i_sw3 _ _ _
theorem cyc_three {P Q R T:F × F} (oP:OnF b P) (oQ:OnF b Q) (oR:OnF b R) (oT:OnF b T) (h0:Q.1≠P.1) (h1:R.1≠P.1) (h2:R.1≠Q.1) {l m l' m':F} (hl:LnP P Q l) (hm:LnP (sx P.1 Q.1 l,sy P.1 P.2 Q.1 l) R m) (hl':LnP Q R l') (hm':LnP P (sx Q.1 R.1 l',sy Q.1 Q.2 R.1 l') m') :
  Lt P Q T*Lt (padd P Q) R T*Vt (padd Q R) T=Lt Q R T*Lt P (padd Q R) T*Vt (padd P Q) T:=by
 have oU:OnF b (sx P.1 Q.1 l,sy P.1 P.2 Q.1 l):=hl.sum_on oP
 have oV:OnF b (sx Q.1 R.1 l',sy Q.1 Q.2 R.1 l'):=hl'.sum_on oQ
 rw[padd_ln hb oP oQ hl,padd_ln hb oQ oR hl',Lt_ln hb oP oQ hl,Lt_ln hb oU oR hm,Lt_ln hb oQ oR hl',Lt_ln hb oP oV hm',lv_symm hm',lv_two hl rfl oP oT,lv_two hl' rfl oQ oT,Vt_on oV hb,Vt_on oU hb]
 have f2P:fn (sx Q.1 R.1 l') (sy Q.1 Q.2 R.1 l') l' m' P.1 P.2=0:=fn2 hm'.symm
 have f2Q:fn (sx Q.1 R.1 l') (sy Q.1 Q.2 R.1 l') l' m' Q.1 Q.2=0:=fn1 hl'.third
 have T2:P.1+Q.1+(sx Q.1 R.1 l'+l'*m')=(l'+m')*l:=by
  have e:=lc3 _ _ _ (i_t2 P.1 Q.1 (sx Q.1 R.1 l'+l'*m') (l'+m') l P.2 Q.2 _) f2Q f2P hl.1
  exact eq_of_sub ((mul_eq_zero e).resolve_left (sub_ne h0))
 have e:=fn_same (u:=sx Q.1 R.1 l') (v:=sy Q.1 Q.2 R.1 l') (l':=l') (m':=m') hb oP oR hl hm T2 f2P (fn1 hl'.third') h1 h2 T.1 T.2
 show _*fn (sx P.1 Q.1 l) (sy P.1 P.2 Q.1 l) l m T.1 T.2*_=_*fn (sx Q.1 R.1 l') (sy Q.1 Q.2 R.1 l') l' m' T.1 T.2*_
 rw[e]
 exact i_sw3 _ _ _
theorem cyc {P Q R T:F × F} (oP:OnP b P) (oQ:OnP b Q) (oR:OnP b R) (oT:OnF b T):Lt P Q T*Lt (padd P Q) R T*Vt (padd Q R) T=Lt Q R T*Lt P (padd Q R) T*Vt (padd P Q) T:=by
 have oPQ:=padd_on hb oP oQ
 have oQR:=padd_on hb oQ oR
 by_cases c1:Q=pneg P
 ·subst c1
  rw[Lt_neg,add_neg_self,Lt_O,Vt_O,mul_one]
  have n:=Lt_norm hb (pneg_onP oP) oR oT
  rw[pneg_pneg,Vt_neg] at n
  exact n.symm
 by_cases c2:R=pneg Q
 ·subst c2
  rw[Lt_neg,add_neg_self,Lt_O',Vt_O,mul_one]
  have n:=Lt_norm hb oQ oP oT
  rw[Lt_comm hb oPQ (pneg_onP oQ),Lt_comm hb oP oQ,padd_comm hb oP oQ]
  exact n
 by_cases c3:R=P
 ·subst c3
  rw[Lt_comm hb oPQ oR,padd_comm hb oR oQ,Lt_comm hb oR oQ]
 by_cases c4:R=pneg P
 ·subst c4
  have n1:=Lt_norm hb oP oQ oT
  have n2:=Lt_norm hb (pneg_onP oP) oQ oT
  rw[pneg_pneg,Vt_neg] at n2
  rw[Lt_comm hb oPQ (pneg_onP oP),n1,padd_comm hb oQ (pneg_onP oP),Lt_comm hb oQ (pneg_onP oP),n2]
  exact i_sw4 _ _ _ _
 by_cases c5:R=pneg (padd P Q)
 ·have k:=turn hb oP oQ c5
  rw[k,Vt_neg,Lt_neg,c5,Lt_neg,<- Lt_turn hb oP oQ]
  exact i_sw5 _ _ _
 by_cases c6:padd Q R=pneg P
 ·exfalso
  refine c5 ?_
  have h1:P=pneg (padd Q R):=by rw[c6,pneg_pneg]
  have h2:padd R P=pneg Q:=turn hb oQ oR h1
  have h4:Q=pneg (padd R P):=by rw[h2,pneg_pneg]
  have h5:padd P Q=pneg R:=turn hb oR oP h4
  rw[h5,pneg_pneg]
 rcases oP with rfl|oP
 ·rw[O_add,Lt_O,Lt_O]
  exact i_sw6 _ _ _
 rcases oQ with rfl|oQ
 ·rw[O_add,add_O,Lt_O',Lt_O]
  exact i_sw7 _ _ _
 rcases oR with rfl|oR
 ·rw[add_O,Lt_O',Lt_O']
  exact i_sw8 _ _ _
 obtain⟨l,hl⟩:=(ln_or oP oQ).resolve_left c1
 obtain⟨l',hl'⟩:=(ln_or oQ oR).resolve_left c2
 have eU:=padd_ln hb oP oQ hl
 have eV:=padd_ln hb oQ oR hl'
 have oU:OnF b (padd P Q):=by rw[eU];exact hl.sum_on oP
 have oV:OnF b (padd Q R):=by rw[eV];exact hl'.sum_on oQ
 obtain⟨m,hm⟩:=(ln_or oU oR).resolve_left c5
 obtain⟨m',hm'⟩:=(ln_or oP oV).resolve_left c6
 rw[eU] at hm
 rw[eV] at hm'
 have n1:R.1≠P.1:=x_ne oP oR c3 c4
 by_cases c7:Q=P
 ·subst c7
  exact cyc_two hb oP oR oT n1 hl hm hl' hm'
 by_cases c8:R=Q
 ·subst c8
  have k:=hl.symm
  rw[Lt_comm hb oPQ (.inr oR),padd_comm hb (.inr oP) (.inr oR),Lt_comm hb (.inr oP) (.inr oR),Lt_comm hb (.inr oP) oQR]
  have n2:P.1≠R.1:=fun e=>n1 e.symm
  refine (cyc_two hb oR oP oT n2 (m:=m') (m':=m) hl' hm'.symm k ?_).symm
  have hm:=hm.symm
  rw[sx_symm P.1,sy_symm hl] at hm
  exact hm
 exact cyc_three hb oP oQ oR oT (x_ne oP oQ c7 c1) n1 (x_ne oQ oR c8 c2) hl hm hl' hm'
end
end Cr
namespace Cr
open Rg Fd
section
variable {F:Type} [Fd F] {b:F}
instance mulAssoc : Std.Associative (α := F) (fun x y => x * y) := ⟨mul_assoc⟩
instance mulComm : Std.Commutative (α := F) (fun x y => x * y) := ⟨mul_comm⟩
theorem dbl_ne {A:F × F} (h:padd A A≠O2):A≠O2:=by rintro rfl;exact h (O_add _)
structure Kill (F:Type) [Fd F] where
 χ:F->F
 mul:∀ x y,χ (x*y)=χ x*χ y
 one:χ 1=1
 neg:χ (-1)=1
theorem Kill.neg' (K:Kill F) (x:F):K.χ (-x)=K.χ x:=by
 have e : -x=-1*x:=by rw[neg_mul,one_mul]
 rw[e,K.mul,K.neg,one_mul]
noncomputable def mlS (Q R:F × F) (s:F × (F × F)):Bool->F × (F × F)
 | false=>(s.1*s.1*Lt s.2 s.2 R,padd s.2 s.2)
 | true=>(s.1*s.1*Lt s.2 s.2 R*Lt (padd s.2 s.2) Q R,padd (padd s.2 s.2) Q)
noncomputable def ml (Q R:F × F) (l:List Bool):F × (F × F):=l.foldl (mlS Q R) (1,Q)
def mpwS (x c:F):Bool->F
 | false=>c*c
 | true=>c*c*x
def mpw (x:F) (l:List Bool):F:=l.foldl (mpwS x) x
variable (K:Kill F)
structure Grp (b:F) (K:Kill F) (R:F × F) (S:F × F->Prop):Prop where
 on:∀ A,S A->OnP b A
 add:∀ A B,S A->S B->S (padd A B)
 vt:∀ A,S A->K.χ (Vt A R)=1
variable {R:F × F} {S:F × F->Prop} (hb:b≠0) (oR:OnF b R) (g:Grp b K R S)
include hb
theorem padd_med {A B C D:F × F} (a:OnP b A) (c:OnP b B) (d:OnP b C) (e:OnP b D):padd (padd A B) (padd C D)=padd (padd A C) (padd B D):=by
 rw[padd_assoc hb a c (padd_on hb d e),padd_assoc hb a d (padd_on hb c e),<- padd_assoc hb c d e,<- padd_assoc hb d c e,padd_comm hb c d]
include oR g
theorem la_cyc {P Q T:F × F} (sP:S P) (sQ:S Q) (sT:S T):K.χ (Lt P Q R)*K.χ (Lt (padd P Q) T R)=K.χ (Lt Q T R)*K.χ (Lt P (padd Q T) R):=by
 have h:=congrArg K.χ (cyc hb (g.on _ sP) (g.on _ sQ) (g.on _ sT) oR)
 rw[K.mul,K.mul,K.mul,K.mul,g.vt _ (g.add _ _ sQ sT),g.vt _ (g.add _ _ sP sQ),mul_one,mul_one] at h
 exact h
omit oR in
theorem la_comm {P Q:F × F} (sP:S P) (sQ:S Q):K.χ (Lt P Q R)=K.χ (Lt Q P R):=by
 show K.χ _=K.χ _
 rw[Lt_comm hb (g.on _ sP) (g.on _ sQ)]
theorem la_four1 {X Y A B:F × F} (sX:S X) (sY:S Y) (sA:S A) (sB:S B):K.χ (Lt X Y R)*K.χ (Lt A B R)*K.χ (Lt (padd X Y) (padd A B) R)=K.χ (Lt Y A R)*K.χ (Lt X (padd Y A) R)*K.χ (Lt (padd X (padd Y A)) B R):=by
 have h1:=la_cyc K hb oR g sX sY (g.add _ _ sA sB)
 have h2:=la_cyc K hb oR g sY sA sB
 have h3:=la_cyc K hb oR g sX (g.add _ _ sY sA) sB
 rw[padd_assoc hb (g.on _ sY) (g.on _ sA) (g.on _ sB)] at h3
 have e1:K.χ (Lt X Y R)*K.χ (Lt A B R)*K.χ (Lt (padd X Y) (padd A B) R)=K.χ (Lt X Y R)*K.χ (Lt (padd X Y) (padd A B) R)*K.χ (Lt A B R):=by ac_rfl
 rw[e1,h1]
 have e2:K.χ (Lt Y (padd A B) R)*K.χ (Lt X (padd Y (padd A B)) R)*K.χ (Lt A B R)=K.χ (Lt A B R)*K.χ (Lt Y (padd A B) R)*K.χ (Lt X (padd Y (padd A B)) R):=by ac_rfl
 rw[e2,<- h2]
 have e3:K.χ (Lt Y A R)*K.χ (Lt (padd Y A) B R)*K.χ (Lt X (padd Y (padd A B)) R)=K.χ (Lt Y A R)*(K.χ (Lt (padd Y A) B R)*K.χ (Lt X (padd Y (padd A B)) R)):=by ac_rfl
 rw[e3,<- h3]
 ac_rfl
theorem la_four {X Y A B:F × F} (sX:S X) (sY:S Y) (sA:S A) (sB:S B):K.χ (Lt X Y R)*K.χ (Lt A B R)*K.χ (Lt (padd X Y) (padd A B) R)=K.χ (Lt X A R)*K.χ (Lt Y B R)*K.χ (Lt (padd X A) (padd Y B) R):=by
 rw[la_four1 K hb oR g sX sY sA sB,la_four1 K hb oR g sX sA sY sB,la_comm K hb g sY sA,padd_comm hb (g.on _ sY) (g.on _ sA)]
def InvQ (K:Kill F) (R:F × F) (S:F × F->Prop) (sS sA sB:F × (F × F)) (c:F):Prop :=
 S sA.2/\S sB.2/\sS.2=padd sA.2 sB.2/\K.χ sS.1*c=K.χ sA.1*K.χ sB.1*K.χ (Lt sA.2 sB.2 R)
theorem invQ_dbl {sS sA sB:F × (F × F)} {c:F} (A B:F × F) (x:F) (h:InvQ K R S sS sA sB c):InvQ K R S (mlS (padd A B) R sS false) (mlS A R sA false) (mlS B R sB false) (mpwS x c false):=by
 obtain⟨h1,h2,h3,h4⟩:=h
 refine⟨g.add _ _ h1 h1,g.add _ _ h2 h2,?_,?_⟩
 ·show padd sS.2 sS.2=padd (padd sA.2 sA.2) (padd sB.2 sB.2)
  rw[h3];exact padd_med hb (g.on _ h1) (g.on _ h2) (g.on _ h1) (g.on _ h2)
 ·show K.χ (sS.1*sS.1*Lt sS.2 sS.2 R)*(c*c)=K.χ (sA.1*sA.1*Lt sA.2 sA.2 R)*K.χ (sB.1*sB.1*Lt sB.2 sB.2 R)*K.χ (Lt (padd sA.2 sA.2) (padd sB.2 sB.2) R)
  have f:=la_four K hb oR g h1 h2 h1 h2
  rw[K.mul,K.mul,K.mul,K.mul,K.mul,K.mul,h3]
  have e:K.χ sS.1*K.χ sS.1*K.χ (Lt (padd sA.2 sB.2) (padd sA.2 sB.2) R)*(c*c)=(K.χ sS.1*c)*(K.χ sS.1*c)*K.χ (Lt (padd sA.2 sB.2) (padd sA.2 sB.2) R):=by ac_rfl
  rw[e,h4]
  have e2:K.χ sA.1*K.χ sB.1*K.χ (Lt sA.2 sB.2 R)*(K.χ sA.1*K.χ sB.1*K.χ (Lt sA.2 sB.2 R))*K.χ (Lt (padd sA.2 sB.2) (padd sA.2 sB.2) R)=K.χ sA.1*K.χ sB.1*(K.χ sA.1*K.χ sB.1)*(K.χ (Lt sA.2 sB.2 R)*K.χ (Lt sA.2 sB.2 R)*K.χ (Lt (padd sA.2 sB.2) (padd sA.2 sB.2) R)):=by ac_rfl
  rw[e2,f]
  ac_rfl
theorem invQ_add {A B:F × F} {sS sA sB:F × (F × F)} {c:F} (sa:S A) (sb:S B) (h:InvQ K R S sS sA sB c) :
  InvQ K R S (sS.1*Lt sS.2 (padd A B) R,padd sS.2 (padd A B)) (sA.1*Lt sA.2 A R,padd sA.2 A) (sB.1*Lt sB.2 B R,padd sB.2 B) (c*K.χ (Lt A B R)):=by
 obtain⟨h1,h2,h3,h4⟩:=h
 refine⟨g.add _ _ h1 sa,g.add _ _ h2 sb,?_,?_⟩
 ·show padd sS.2 (padd A B)=padd (padd sA.2 A) (padd sB.2 B)
  rw[h3];exact padd_med hb (g.on _ h1) (g.on _ h2) (g.on _ sa) (g.on _ sb)
 ·show K.χ (sS.1*Lt sS.2 (padd A B) R)*(c*K.χ (Lt A B R))=K.χ (sA.1*Lt sA.2 A R)*K.χ (sB.1*Lt sB.2 B R)*K.χ (Lt (padd sA.2 A) (padd sB.2 B) R)
  have f:=la_four K hb oR g h1 h2 sa sb
  rw[K.mul,K.mul,K.mul,h3]
  have e:K.χ sS.1*K.χ (Lt (padd sA.2 sB.2) (padd A B) R)*(c*K.χ (Lt A B R))=(K.χ sS.1*c)*(K.χ (Lt A B R)*K.χ (Lt (padd sA.2 sB.2) (padd A B) R)):=by ac_rfl
  rw[e,h4]
  have e2:K.χ sA.1*K.χ sB.1*K.χ (Lt sA.2 sB.2 R)*(K.χ (Lt A B R)*K.χ (Lt (padd sA.2 sB.2) (padd A B) R))=K.χ sA.1*K.χ sB.1*(K.χ (Lt sA.2 sB.2 R)*K.χ (Lt A B R)*K.χ (Lt (padd sA.2 sB.2) (padd A B) R)):=by ac_rfl
  rw[e2,f]
  ac_rfl
theorem invQ_step {A B:F × F} {sS sA sB:F × (F × F)} {c:F} (sa:S A) (sb:S B) (x:Bool) (h:InvQ K R S sS sA sB c):InvQ K R S (mlS (padd A B) R sS x) (mlS A R sA x) (mlS B R sB x) (mpwS (K.χ (Lt A B R)) c x):=by
 cases x with
 | false=>exact invQ_dbl K hb oR g A B _ h
 | true=>exact invQ_add K hb oR g sa sb (invQ_dbl K hb oR g A B 1 h)
theorem ml_sumQ {A B:F × F} (sa:S A) (sb:S B) (l:List Bool):InvQ K R S (ml (padd A B) R l) (ml A R l) (ml B R l) (mpw (K.χ (Lt A B R)) l):=by
 have key:∀ (l:List Bool) (sS sA sB:F × (F × F)) (c:F),InvQ K R S sS sA sB c->InvQ K R S (l.foldl (mlS (padd A B) R) sS) (l.foldl (mlS A R) sA) (l.foldl (mlS B R) sB) (l.foldl (mpwS (K.χ (Lt A B R))) c):=by
  intro l
  induction l with
  | nil=>intro sS sA sB c h;exact h
  | cons x l ih=>intro sS sA sB c h;exact ih _ _ _ _ (invQ_step K hb oR g sa sb x h)
 refine key l _ _ _ _ ⟨sa,sb,rfl,?_⟩
 show K.χ 1*_=K.χ 1*K.χ 1*_
 rw[K.one,one_mul,one_mul,one_mul]
theorem la_neg {A B:F × F} (sa:S A) (sb:S B):K.χ (Lt A B R)*K.χ (Lt (pneg A) (pneg B) R)=1:=by
 have oa:=g.on _ sa
 have ob:=g.on _ sb
 have n:=congrArg K.χ (Lt_norm hb ob oa oR)
 have t:=Lt_turn (R:=R) hb (pneg_onP oa) (pneg_onP ob)
 rw[<- pneg_add hb oa ob,pneg_pneg] at t
 rw[K.mul,K.mul,K.mul,g.vt _ sa,g.vt _ sb,g.vt _ (g.add _ _ sb sa),mul_one,mul_one,padd_comm hb ob oa,Lt_comm hb ob oa] at n
 show K.χ _*K.χ _=1
 rw[t];exact n
end
section
variable {F:Type} [Fd F] {b:F} (K:Kill F)
def okc (Q:F × F):List Bool->F × F->Prop
 | [],_=>True
 | false::l,T=>padd T T≠O2/\okc Q l (padd T T)
 | true::l,T=>padd T T≠O2/\padd (padd T T) Q≠O2/\okc Q l (padd (padd T T) Q)
variable (hb:b≠0)
include hb
omit hb in
theorem lv_mirror {A B R:F × F} {l:F} (h:LnP A B l) (oA:OnF b A) (oR:OnF b R):lv A l R*lv A l (pneg R)=-((R.1-A.1)*(R.1-B.1)*(R.1-sx A.1 B.1 l)):=by
 have e:lv A l (pneg R)=-(R.2 - -(A.2+l*(R.1-A.1))):=by
  show -R.2-(A.2+l*(R.1-A.1))=_
  exact i_mm _ _
 rw[e,mul_neg]
 congr 1
 show (R.2-(A.2+l*(R.1-A.1)))*_=_
 rw[i_nl]
 exact lc4 _ _ _ _ (i_nrm R.1 R.2 A.1 A.2 B.1 B.2 l b) oR oA h.2 h.1
structure Two (b:F) (K:Kill F) (S T:F × F->Prop):Prop where
 onS:∀ A,S A->OnP b A
 addS:∀ A B,S A->S B->S (padd A B)
 onT:∀ A,T A->OnP b A
 addT:∀ A B,T A->T B->T (padd A B)
 vt:∀ A R,S A->T R->A≠O2->R≠O2->K.χ (R.1-A.1)=1
variable {S T:F × F->Prop} (g:Two b K S T)
include g
omit hb in
theorem Two.vt' {A R:F × F} (hA:S A) (hR:T R) (nA:A≠O2) (nR:R≠O2):K.χ (A.1-R.1)=1:=by
 have e:A.1-R.1=-(R.1-A.1):=i_ns _ _
 rw[e,K.neg',g.vt _ _ hA hR nA nR]
theorem la_mirror {A B R:F × F} (sA:S A) (sB:S B) (tR:T R) (nA:A≠O2) (nB:B≠O2) (nAB:padd A B≠O2) (nR:R≠O2):K.χ (Lt A B R)*K.χ (Lt A B (pneg R))=1:=by
 have oA:=(g.onS _ sA).resolve_left nA
 have oB:=(g.onS _ sB).resolve_left nB
 have oR:=(g.onT _ tR).resolve_left nR
 rcases ln_or oA oB with rfl|⟨l,h⟩
 ·exact absurd (add_neg_self A) nAB
 ·have eS:=padd_ln hb oA oB h
  rw[Lt_ln hb oA oB h,Lt_ln hb oA oB h,<- K.mul,lv_mirror h oA oR,K.neg',K.mul,K.mul,g.vt _ _ sA tR nA nR,g.vt _ _ sB tR nB nR]
  have:=g.vt _ _ (g.addS _ _ sA sB) tR nAB nR
  rw[eS] at this
  rw[this,mul_one,mul_one]
theorem la_rec {A B P Q:F × F} (sA:S A) (sB:S B) (tP:T P) (tQ:T Q) (nA:A≠O2) (nB:B≠O2) (nAB:padd A B≠O2) (nP:P≠O2) (nQ:Q≠O2) (nPQ:padd P Q≠O2) :
  K.χ (Lt A B P)*K.χ (Lt A B Q)*K.χ (Lt P Q (padd A B))=K.χ (Lt P Q A)*K.χ (Lt P Q B)*K.χ (Lt A B (padd P Q)):=by
 have oA:=(g.onS _ sA).resolve_left nA
 have oB:=(g.onS _ sB).resolve_left nB
 have oP:=(g.onT _ tP).resolve_left nP
 have oQ:=(g.onT _ tQ).resolve_left nQ
 have g':Two b K T S:=⟨g.onT,g.addT,g.onS,g.addS,fun X Y hX hY nX nY=>g.vt' K hY hX nY nX⟩
 have m1:=la_mirror K hb g sA sB (g.addT _ _ tP tQ) nA nB nAB nPQ
 have m2:=la_mirror K hb g' tP tQ (g.addS _ _ sA sB) nP nQ nPQ nAB
 rcases ln_or oA oB with rfl|⟨l,h⟩
 ·exact absurd (add_neg_self A) nAB
 rcases ln_or oP oQ with rfl|⟨m,k⟩
 ·exact absurd (add_neg_self P) nPQ
 have r:=congrArg K.χ (lv_rec h k oA oP)
 have e1:(sx P.1 Q.1 m,-sy P.1 P.2 Q.1 m)=pneg (padd P Q):=by rw[padd_ln hb oP oQ k];rfl
 have e2:(sx A.1 B.1 l,-sy A.1 A.2 B.1 l)=pneg (padd A B):=by rw[padd_ln hb oA oB h];rfl
 rw[e1,e2,K.neg',K.mul,K.mul,K.mul,K.mul] at r
 have f:∀ R,Lt A B R=lv A l R:=Lt_ln hb oA oB h
 have f':∀ R,Lt P Q R=lv P m R:=Lt_ln hb oP oQ k
 rw[<- f,<- f,<- f,<- f',<- f',<- f'] at r
 generalize K.χ (Lt A B P)=a1 at *
 generalize K.χ (Lt A B Q)=a2 at *
 generalize K.χ (Lt A B (padd P Q))=a3 at *
 generalize K.χ (Lt A B (pneg (padd P Q)))=a4 at *
 generalize K.χ (Lt P Q A)=c1 at *
 generalize K.χ (Lt P Q B)=c2 at *
 generalize K.χ (Lt P Q (padd A B))=c3 at *
 generalize K.χ (Lt P Q (pneg (padd A B)))=c4 at *
 have h1:a1*a2*c3=a1*a2*a4*(a3*c3):=by
  have:a1*a2*a4*(a3*c3)=a1*a2*c3*(a3*a4):=by ac_rfl
  rw[this,m1,mul_one]
 have h2:c1*c2*c4*(a3*c3)=c1*c2*a3:=by
  have:c1*c2*c4*(a3*c3)=c1*c2*a3*(c3*c4):=by ac_rfl
  rw[this,m2,mul_one]
 rw[h1,r,h2]
def InvP (K:Kill F) (S:F × F->Prop) (P Q:F × F) (s1 s2 s3:F × (F × F)) (c:F):Prop :=
 S s1.2/\s2.2=s1.2/\s3.2=s1.2/\K.χ s1.1*K.χ s2.1*K.χ (Lt P Q s1.2)=K.χ s3.1*c
theorem invP_add {A P Q:F × F} {s1 s2 s3:F × (F × F)} {c:F} (tP:T P) (tQ:T Q) (nP:P≠O2) (nQ:Q≠O2) (nPQ:padd P Q≠O2) (sA:S A) (nA:A≠O2) (n1:s1.2≠O2) (nS:padd s1.2 A≠O2) (h:InvP K S P Q s1 s2 s3 c) :
  InvP K S P Q (s1.1*Lt s1.2 A P,padd s1.2 A) (s2.1*Lt s2.2 A Q,padd s2.2 A) (s3.1*Lt s3.2 A (padd P Q),padd s3.2 A) (c*K.χ (Lt P Q A)):=by
 obtain⟨h1,h2,h3,h4⟩:=h
 have r:=la_rec K hb g h1 sA tP tQ n1 nA nS nP nQ nPQ
 refine⟨g.addS _ _ h1 sA,by show padd _ _=padd _ _;rw[h2],by show padd _ _=padd _ _;rw[h3],?_⟩
 show K.χ (s1.1*Lt s1.2 A P)*K.χ (s2.1*Lt s2.2 A Q)*K.χ (Lt P Q (padd s1.2 A))=K.χ (s3.1*Lt s3.2 A (padd P Q))*(c*K.χ (Lt P Q A))
 rw[h2,h3,K.mul,K.mul,K.mul]
 have e:K.χ s1.1*K.χ (Lt s1.2 A P)*(K.χ s2.1*K.χ (Lt s1.2 A Q))*K.χ (Lt P Q (padd s1.2 A))=K.χ s1.1*K.χ s2.1*(K.χ (Lt s1.2 A P)*K.χ (Lt s1.2 A Q)*K.χ (Lt P Q (padd s1.2 A))):=by ac_rfl
 rw[e,r]
 have e2:K.χ s1.1*K.χ s2.1*(K.χ (Lt P Q s1.2)*K.χ (Lt P Q A)*K.χ (Lt s1.2 A (padd P Q)))=K.χ s1.1*K.χ s2.1*K.χ (Lt P Q s1.2)*(K.χ (Lt P Q A)*K.χ (Lt s1.2 A (padd P Q))):=by ac_rfl
 rw[e2,h4]
 ac_rfl
theorem invP_dbl {P Q:F × F} {s1 s2 s3:F × (F × F)} {c:F} (tP:T P) (tQ:T Q) (nP:P≠O2) (nQ:Q≠O2) (nPQ:padd P Q≠O2) (n1:s1.2≠O2) (nS:padd s1.2 s1.2≠O2) (h:InvP K S P Q s1 s2 s3 c) :
  InvP K S P Q (s1.1*s1.1*Lt s1.2 s1.2 P,padd s1.2 s1.2) (s2.1*s2.1*Lt s2.2 s2.2 Q,padd s2.2 s2.2) (s3.1*s3.1*Lt s3.2 s3.2 (padd P Q),padd s3.2 s3.2) (c*c):=by
 obtain⟨h1,h2,h3,h4⟩:=h
 have r:=la_rec K hb g h1 h1 tP tQ n1 n1 nS nP nQ nPQ
 refine⟨g.addS _ _ h1 h1,by show padd _ _=padd _ _;rw[h2],by show padd _ _=padd _ _;rw[h3],?_⟩
 show K.χ (s1.1*s1.1*Lt s1.2 s1.2 P)*K.χ (s2.1*s2.1*Lt s2.2 s2.2 Q)*K.χ (Lt P Q (padd s1.2 s1.2))=K.χ (s3.1*s3.1*Lt s3.2 s3.2 (padd P Q))*(c*c)
 rw[h2,h3,K.mul,K.mul,K.mul,K.mul,K.mul,K.mul]
 have e:K.χ s1.1*K.χ s1.1*K.χ (Lt s1.2 s1.2 P)*(K.χ s2.1*K.χ s2.1*K.χ (Lt s1.2 s1.2 Q))*K.χ (Lt P Q (padd s1.2 s1.2))=K.χ s1.1*K.χ s2.1*(K.χ s1.1*K.χ s2.1)*(K.χ (Lt s1.2 s1.2 P)*K.χ (Lt s1.2 s1.2 Q)*K.χ (Lt P Q (padd s1.2 s1.2))):=by ac_rfl
 rw[e,r]
 have e2:K.χ s1.1*K.χ s2.1*(K.χ s1.1*K.χ s2.1)*(K.χ (Lt P Q s1.2)*K.χ (Lt P Q s1.2)*K.χ (Lt s1.2 s1.2 (padd P Q)))=(K.χ s1.1*K.χ s2.1*K.χ (Lt P Q s1.2))*(K.χ s1.1*K.χ s2.1*K.χ (Lt P Q s1.2))*K.χ (Lt s1.2 s1.2 (padd P Q)):=by ac_rfl
 rw[e2,h4]
 ac_rfl
theorem ml_sumP {A P Q:F × F} (sA:S A) (nA:A≠O2) (tP:T P) (tQ:T Q) (nP:P≠O2) (nQ:Q≠O2) (nPQ:padd P Q≠O2) (l:List Bool) (ok:okc A l A) :
  InvP K S P Q (ml A P l) (ml A Q l) (ml A (padd P Q) l) (mpw (K.χ (Lt P Q A)) l):=by
 have key:∀ (l:List Bool) (s1 s2 s3:F × (F × F)) (c:F),okc A l s1.2->InvP K S P Q s1 s2 s3 c->InvP K S P Q (l.foldl (mlS A P) s1) (l.foldl (mlS A Q) s2) (l.foldl (mlS A (padd P Q)) s3) (l.foldl (mpwS (K.χ (Lt P Q A))) c):=by
  intro l
  induction l with
  | nil=>intro s1 s2 s3 c _ h;exact h
  | cons x l ih =>
   intro s1 s2 s3 c ok h
   cases x with
   | false =>
    obtain⟨o1,o2⟩:=ok
    exact ih _ _ _ _ o2 (invP_dbl K hb g tP tQ nP nQ nPQ (dbl_ne o1) o1 h)
   | true =>
    obtain⟨o1,o2,o3⟩:=ok
    exact ih _ _ _ _ o3 (invP_add K hb g tP tQ nP nQ nPQ sA nA o1 o2 (invP_dbl K hb g tP tQ nP nQ nPQ (dbl_ne o1) o1 h))
 refine key l _ _ _ _ ok ⟨sA,rfl,rfl,?_⟩
 show K.χ 1*K.χ 1*_=K.χ 1*_
 rw[K.one,one_mul]
theorem ml_negP {A P:F × F} (sA:S A) (nA:A≠O2) (tP:T P) (nP:P≠O2) (l:List Bool) (ok:okc A l A):K.χ (ml A P l).1*K.χ (ml A (pneg P) l).1=1:=by
 have key:∀ (l:List Bool) (s1 s2:F × (F × F)),okc A l s1.2->S s1.2->s2.2=s1.2->K.χ s1.1*K.χ s2.1=1->K.χ (l.foldl (mlS A P) s1).1*K.χ (l.foldl (mlS A (pneg P)) s2).1=1:=by
  intro l
  induction l with
  | nil=>intro s1 s2 _ _ _ h;exact h
  | cons x l ih =>
   intro s1 s2 ok hs h2 h
   have d:padd s1.2 s1.2≠O2->K.χ (s1.1*s1.1*Lt s1.2 s1.2 P)*K.χ (s2.1*s2.1*Lt s2.2 s2.2 (pneg P))=1:=by
    intro o1
    have m:=la_mirror K hb g hs hs tP (dbl_ne o1) (dbl_ne o1) o1 nP
    rw[h2,K.mul,K.mul,K.mul,K.mul]
    have e:K.χ s1.1*K.χ s1.1*K.χ (Lt s1.2 s1.2 P)*(K.χ s2.1*K.χ s2.1*K.χ (Lt s1.2 s1.2 (pneg P)))=(K.χ s1.1*K.χ s2.1)*(K.χ s1.1*K.χ s2.1)*(K.χ (Lt s1.2 s1.2 P)*K.χ (Lt s1.2 s1.2 (pneg P))):=by ac_rfl
    rw[e,h,m,one_mul,one_mul]
   cases x with
   | false =>
    obtain⟨o1,o2⟩:=ok
    exact ih _ _ o2 (g.addS _ _ hs hs) (by show padd _ _=padd _ _;rw[h2]) (d o1)
   | true =>
    obtain⟨o1,o2,o3⟩:=ok
    refine ih _ _ o3 (g.addS _ _ (g.addS _ _ hs hs) sA) (by show padd (padd _ _) _=padd (padd _ _) _;rw[h2]) ?_
    have m:=la_mirror K hb g (g.addS _ _ hs hs) sA tP o1 nA o2 nP
    have dd:=d o1
    show K.χ (s1.1*s1.1*Lt s1.2 s1.2 P*Lt (padd s1.2 s1.2) A P)*K.χ (s2.1*s2.1*Lt s2.2 s2.2 (pneg P)*Lt (padd s2.2 s2.2) A (pneg P))=1
    rw[K.mul (s1.1*s1.1*Lt s1.2 s1.2 P),K.mul (s2.1*s2.1*Lt s2.2 s2.2 (pneg P)),h2]
    rw[h2] at dd
    generalize K.χ (s1.1*s1.1*Lt s1.2 s1.2 P)=u at *
    generalize K.χ (s2.1*s2.1*Lt s1.2 s1.2 (pneg P))=v at *
    generalize K.χ (Lt (padd s1.2 s1.2) A P)=w at *
    generalize K.χ (Lt (padd s1.2 s1.2) A (pneg P))=z at *
    have e:u*w*(v*z)=(u*v)*(w*z):=by ac_rfl
    rw[e,dd,m,one_mul]
 refine key l _ _ ok sA rfl ?_
 show K.χ 1*K.χ 1=1
 rw[K.one,one_mul]
end
end Cr
namespace Cr
open Rg Fd
theorem u_on {F:Type} [Rg F] (x y b u:F):y*(u*u*u)*(y*(u*u*u))-(x*(u*u)*(x*(u*u))*(x*(u*u))+b*(u*u*u*(u*u*u)))=(u*u*u*(u*u*u))*(y*y-(x*x*x+b)) :=
 rid [x,y,b,u] ((fun (x y b u:PE)=>(y*(u*u*u)*(y*(u*u*u))-(x*(u*u)*(x*(u*u))*(x*(u*u))+b*(u*u*u*(u*u*u))))) (.v 0) (.v 1) (.v 2) (.v 3)) ((fun (x y b u:PE)=>((u*u*u*(u*u*u))*(y*y-(x*x*x+b)))) (.v 0) (.v 1) (.v 2) (.v 3)) (by kernel_rfl)
theorem u_l1 {F:Type} [Rg F] (x1 y1 x2 y2 l u:F):l*u*(x2*(u*u)-x1*(u*u))-(y2*(u*u*u)-y1*(u*u*u))=(u*u*u)*(l*(x2-x1)-(y2-y1)) :=
 rid [x1,y1,x2,y2,l,u] ((fun (x1 y1 x2 y2 l u:PE)=>(l*u*(x2*(u*u)-x1*(u*u))-(y2*(u*u*u)-y1*(u*u*u)))) (.v 0) (.v 1) (.v 2) (.v 3) (.v 4) (.v 5)) ((fun (x1 y1 x2 y2 l u:PE)=>((u*u*u)*(l*(x2-x1)-(y2-y1)))) (.v 0) (.v 1) (.v 2) (.v 3) (.v 4) (.v 5)) (by kernel_rfl)
theorem u_l2 {F:Type} [Rg F] (x1 y1 x2 y2 l u:F):l*u*(y1*(u*u*u)+y2*(u*u*u))-(x1*(u*u)*(x1*(u*u))+x1*(u*u)*(x2*(u*u))+x2*(u*u)*(x2*(u*u)))=(u*u*u*u)*(l*(y1+y2)-(x1*x1+x1*x2+x2*x2)) :=
 rid [x1,y1,x2,y2,l,u] ((fun (x1 y1 x2 y2 l u:PE)=>(l*u*(y1*(u*u*u)+y2*(u*u*u))-(x1*(u*u)*(x1*(u*u))+x1*(u*u)*(x2*(u*u))+x2*(u*u)*(x2*(u*u))))) (.v 0) (.v 1) (.v 2) (.v 3) (.v 4) (.v 5)) ((fun (x1 y1 x2 y2 l u:PE)=>((u*u*u*u)*(l*(y1+y2)-(x1*x1+x1*x2+x2*x2)))) (.v 0) (.v 1) (.v 2) (.v 3) (.v 4) (.v 5)) (by kernel_rfl)
theorem u_sx {F:Type} [Rg F] (x1 x2 l u:F):l*u*(l*u)-x1*(u*u)-x2*(u*u)=(l*l-x1-x2)*(u*u) :=
 rid [x1,x2,l,u] ((fun (x1 x2 l u:PE)=>(l*u*(l*u)-x1*(u*u)-x2*(u*u))) (.v 0) (.v 1) (.v 2) (.v 3)) ((fun (x1 x2 l u:PE)=>((l*l-x1-x2)*(u*u))) (.v 0) (.v 1) (.v 2) (.v 3)) (by kernel_rfl)
theorem u_sy {F:Type} [Rg F] (x1 y1 s l u:F) : -(y1*(u*u*u)+l*u*(s*(u*u)-x1*(u*u)))=-(y1+l*(s-x1))*(u*u*u) :=
 rid [x1,y1,s,l,u] ((fun (x1 y1 s l u:PE)=>(-(y1*(u*u*u)+l*u*(s*(u*u)-x1*(u*u))))) (.v 0) (.v 1) (.v 2) (.v 3) (.v 4)) ((fun (x1 y1 s l u:PE)=>(-(y1+l*(s-x1))*(u*u*u))) (.v 0) (.v 1) (.v 2) (.v 3) (.v 4)) (by kernel_rfl)
theorem u_ng {F:Type} [Rg F] (y u:F) : -y*(u*u*u)=-(y*(u*u*u)) :=
 rid [y,u] ((fun (y u:PE)=>(-y*(u*u*u))) (.v 0) (.v 1)) ((fun (y u:PE)=>(-(y*(u*u*u)))) (.v 0) (.v 1)) (by kernel_rfl)
theorem u_11 {F:Type} [Rg F] (x:F):x*(1*1)=x :=
 rid [x] ((fun (x:PE)=>(x*(1*1))) (.v 0)) ((fun (x:PE)=>(x)) (.v 0)) (by kernel_rfl)
theorem u_12 {F:Type} [Rg F] (x:F):x*(1*1*1)=x :=
 rid [x] ((fun (x:PE)=>(x*(1*1*1))) (.v 0)) ((fun (x:PE)=>(x)) (.v 0)) (by kernel_rfl)
theorem u_13 {F:Type} [Rg F] (x:F):x*1=x :=
 rid [x] ((fun (x:PE)=>(x*1)) (.v 0)) ((fun (x:PE)=>(x)) (.v 0)) (by kernel_rfl)
theorem u_b1 {F:Type} [Rg F] (b:F):b*(1*1*1*(1*1*1))=b :=
 rid [b] ((fun (b:PE)=>(b*(1*1*1*(1*1*1)))) (.v 0)) ((fun (b:PE)=>(b)) (.v 0)) (by kernel_rfl)
section
variable {F G:Type} [Fd F] [Fd G]
structure Hm (f:F->G):Prop where
 add:∀ x y,f (x+y)=f x+f y
 mul:∀ x y,f (x*y)=f x*f y
 neg:∀ x,f (-x)=-f x
 one:f 1=1
 inj:∀ x,f x=0->x=0
variable {f:F->G} (H:Hm f)
include H
theorem Hm.zero:f 0=0:=by
 have h:=H.add 0 0
 rw[add_zero] at h
 have h2:f 0+f 0=f 0+0:=by rw[add_zero];exact h.symm
 exact add_left h2
theorem Hm.sub (x y:F):f (x-y)=f x-f y:=by rw[Rg.sub_def,Rg.sub_def,H.add,H.neg]
theorem Hm.eq {x y:F} (h:f x=f y):x=y:=eq_of_sub (H.inj _ (by rw[H.sub,h,sub_self]))
omit H in
def tws (f:F->G) (u:G) (A:F × F):G × G:=(f A.1*(u*u),f A.2*(u*u*u))
variable {u:G}
theorem tws_O:tws f u O2=O2:=by
 show (f 0*(u*u),f 0*(u*u*u))=_
 rw[H.zero,zero_mul,zero_mul]
theorem tws_neg (A:F × F):tws f u (pneg A)=pneg (tws f u A):=by
 show (f A.1*(u*u),f (-A.2)*(u*u*u))=(f A.1*(u*u),-(f A.2*(u*u*u)))
 rw[H.neg,u_ng]
theorem tws_ne (hu:u≠0) {A:F × F} (h:A≠O2):tws f u A≠O2:=by
 intro e
 have e1:f A.1*(u*u)=0:=congrArg Prod.fst e
 have e2:f A.2*(u*u*u)=0:=congrArg Prod.snd e
 have n1:A.1=0:=H.inj _ ((mul_eq_zero e1).resolve_right (mul_ne hu hu))
 have n2:A.2=0:=H.inj _ ((mul_eq_zero e2).resolve_right (mul_ne (mul_ne hu hu) hu))
 exact h (Prod.ext n1 n2)
variable {b:F} {b':G} (eb:b'=f b*(u*u*u*(u*u*u)))
include eb
theorem tws_on {A:F × F} (h:OnF b A):OnF b' (tws f u A):=by
 have h1:A.2*A.2=A.1*A.1*A.1+b:=h
 have h2:=congrArg f h1
 rw[H.mul,H.add,H.mul,H.mul] at h2
 show f A.2*(u*u*u)*(f A.2*(u*u*u))=f A.1*(u*u)*(f A.1*(u*u))*(f A.1*(u*u))+b'
 rw[eb]
 exact lc1 _ (u_on _ _ _ _) h2
theorem tws_onP {A:F × F} (h:OnP b A):OnP b' (tws f u A):=by
 rcases h with rfl|h
 ·exact .inl (tws_O H)
 ·exact .inr (tws_on H eb h)
omit eb in
theorem tws_ln {A B:F × F} {l:F} (h:LnP A B l):LnP (tws f u A) (tws f u B) (f l*u):=by
 have h1:=congrArg f h.1
 have h2:=congrArg f h.2
 rw[H.mul,H.sub,H.sub] at h1
 rw[H.mul,H.add,H.add,H.add,H.mul,H.mul,H.mul] at h2
 exact⟨lc1 _ (u_l1 _ _ _ _ _ _) h1,lc1 _ (u_l2 _ _ _ _ _ _) h2⟩
variable (hb:b≠0) (hb':b'≠0)
include hb hb'
theorem tws_add {A B:F × F} (oA:OnP b A) (oB:OnP b B):tws f u (padd A B)=padd (tws f u A) (tws f u B):=by
 rcases oA with rfl|oA
 ·rw[tws_O H,O_add,O_add]
 rcases oB with rfl|oB
 ·rw[tws_O H,add_O,add_O]
 rcases ln_or oA oB with rfl|⟨l,h⟩
 ·rw[tws_neg H,add_neg_self,add_neg_self,tws_O H]
 ·rw[padd_ln hb oA oB h,padd_ln hb' (tws_on H eb oA) (tws_on H eb oB) (tws_ln H h)]
  have e1:f (sx A.1 B.1 l)*(u*u)=sx (f A.1*(u*u)) (f B.1*(u*u)) (f l*u):=by
   show f (l*l-A.1-B.1)*(u*u)=f l*u*(f l*u)-f A.1*(u*u)-f B.1*(u*u)
   rw[H.sub,H.sub,H.mul];exact (u_sx _ _ _ _).symm
  refine Prod.ext e1 ?_
  show f (-(A.2+l*(sx A.1 B.1 l-A.1)))*(u*u*u)=-(f A.2*(u*u*u)+f l*u*(sx (f A.1*(u*u)) (f B.1*(u*u)) (f l*u)-f A.1*(u*u)))
  rw[<- e1,H.neg,H.add,H.mul,H.sub];exact (u_sy _ _ _ _ _).symm
theorem tws_nmul {A:F × F} (oA:OnP b A) (n:Nat):tws f u (nmul A n)=nmul (tws f u A) n:=by
 induction n with
 | zero=>exact tws_O H
 | succ n ih =>
  show tws f u (padd (nmul A n) A)=padd (nmul (tws f u A) n) (tws f u A)
  rw[tws_add H eb hb hb' (nmul_on hb oA n) oA,ih]
end
section
variable {F G:Type} [Fd F] [Fd G] {f:F->G} (H:Hm f) {b:F} {b':G} (eb:b'=f b) (hb:b≠0) (hb':b'≠0)
def hmp (f:F->G) (A:F × F):G × G:=(f A.1,f A.2)
omit [Fd F] in
theorem tws_1 (A:F × F):tws f 1 A=hmp f A:=by
 show (f A.1*(1*1),f A.2*(1*1*1))=_
 rw[u_11,u_12];rfl
theorem hmp_neg (H:Hm f) (A:F × F):hmp f (pneg A)=pneg (hmp f A):=by rw[<- tws_1,<- tws_1,tws_neg H]
include H in
theorem hmp_O:hmp f O2=O2:=by rw[<- tws_1,tws_O H]
include H eb in
theorem hmp_on {A:F × F} (h:OnF b A):OnF b' (hmp f A):=by
 rw[<- tws_1];exact tws_on (u:=1) H (by rw[u_b1,eb]) h
include H eb in
theorem hmp_onP {A:F × F} (h:OnP b A):OnP b' (hmp f A):=by
 rw[<- tws_1];exact tws_onP (u:=1) H (by rw[u_b1,eb]) h
include H in
theorem hmp_ln {A B:F × F} {l:F} (h:LnP A B l):LnP (hmp f A) (hmp f B) (f l):=by
 have:=tws_ln (u:=1) H h
 rwa [tws_1,tws_1,u_13] at this
include H in
theorem hmp_lv (A:F × F) (l:F) (R:F × F):lv (hmp f A) (f l) (hmp f R)=f (lv A l R):=by
 show f R.2-(f A.2+f l*(f R.1-f A.1))=f (R.2-(A.2+l*(R.1-A.1)))
 rw[H.sub,H.add,H.mul,H.sub]
include H eb hb hb'
theorem hmp_Vt {A:F × F} (oA:OnP b A) (R:F × F):Vt (hmp f A) (hmp f R)=f (Vt A R):=by
 rcases oA with rfl|oA
 ·rw[hmp_O H,Vt_O,Vt_O,H.one]
 ·rw[Vt_on (hmp_on H eb oA) hb',Vt_on oA hb,H.sub];rfl
theorem hmp_add {A B:F × F} (oA:OnP b A) (oB:OnP b B):hmp f (padd A B)=padd (hmp f A) (hmp f B):=by
 rw[<- tws_1,<- tws_1,<- tws_1];exact tws_add (u:=1) H (by rw[u_b1,eb]) hb hb' oA oB
theorem hmp_nmul {A:F × F} (oA:OnP b A) (n:Nat):hmp f (nmul A n)=nmul (hmp f A) n:=by
 rw[<- tws_1,<- tws_1];exact tws_nmul (u:=1) H (by rw[u_b1,eb]) hb hb' oA n
theorem hmp_Lt {A B:F × F} (oA:OnP b A) (oB:OnP b B) (R:F × F):Lt (hmp f A) (hmp f B) (hmp f R)=f (Lt A B R):=by
 rcases oA with rfl|oA
 ·rw[hmp_O H,Lt_O,Lt_O];exact hmp_Vt H eb hb hb' oB R
 rcases oB with rfl|oB
 ·rw[hmp_O H,Lt_O',Lt_O'];exact hmp_Vt H eb hb hb' (.inr oA) R
 rcases ln_or oA oB with rfl|⟨l,h⟩
 ·rw[hmp_neg H,Lt_neg,Lt_neg];exact hmp_Vt H eb hb hb' (.inr oA) R
 ·rw[Lt_ln hb' (hmp_on H eb oA) (hmp_on H eb oB) (hmp_ln H h),Lt_ln hb oA oB h,hmp_lv H]
end
end Cr
namespace Cr
open Rg Fd
theorem q_a {F:Type} [Rg F] (a b n:F):(a+n)*(a+n)-b*b-a*(a+n+(a+n))=n*n-(a*a+b*b) :=
 rid [a,b,n] ((fun (a b n:PE)=>((a+n)*(a+n)-b*b-a*(a+n+(a+n)))) (.v 0) (.v 1) (.v 2)) ((fun (a b n:PE)=>(n*n-(a*a+b*b))) (.v 0) (.v 1) (.v 2)) (by kernel_rfl)
theorem q_s {F:Type} [Rg F] (a b n:F):(a-n)*(a-n)-b*b-a*(a-n+(a-n))=n*n-(a*a+b*b) :=
 rid [a,b,n] ((fun (a b n:PE)=>((a-n)*(a-n)-b*b-a*(a-n+(a-n)))) (.v 0) (.v 1) (.v 2)) ((fun (a b n:PE)=>(n*n-(a*a+b*b))) (.v 0) (.v 1) (.v 2)) (by kernel_rfl)
theorem q_1 {F:Type} [Rg F] (s b i:F):s*i*(s*i)-b*i*(b*i)=(s*s-b*b)*(i*i) :=
 rid [s,b,i] ((fun (s b i:PE)=>(s*i*(s*i)-b*i*(b*i))) (.v 0) (.v 1) (.v 2)) ((fun (s b i:PE)=>((s*s-b*b)*(i*i))) (.v 0) (.v 1) (.v 2)) (by kernel_rfl)
theorem q_2 {F:Type} [Rg F] (a t i:F):a*(t*t)*(i*i)=a*(t*i*(t*i)) :=
 rid [a,t,i] ((fun (a t i:PE)=>(a*(t*t)*(i*i))) (.v 0) (.v 1) (.v 2)) ((fun (a t i:PE)=>(a*(t*i*(t*i)))) (.v 0) (.v 1) (.v 2)) (by kernel_rfl)
theorem q_3 {F:Type} [Rg F] (s b i:F):s*i*(b*i)+b*i*(s*i)=b*(s+s)*(i*i) :=
 rid [s,b,i] ((fun (s b i:PE)=>(s*i*(b*i)+b*i*(s*i))) (.v 0) (.v 1) (.v 2)) ((fun (s b i:PE)=>(b*(s+s)*(i*i))) (.v 0) (.v 1) (.v 2)) (by kernel_rfl)
theorem q_4 {F:Type} [Rg F] (a n:F):(a+n)*(a-n)=a*a-n*n :=
 rid [a,n] ((fun (a n:PE)=>((a+n)*(a-n))) (.v 0) (.v 1)) ((fun (a n:PE)=>(a*a-n*n)) (.v 0) (.v 1)) (by kernel_rfl)
theorem q_5 {F:Type} [Rg F] (c d:F):(c*c-d*d)*(c*c-d*d)+(c*d+d*c)*(c*d+d*c)=(c*c+d*d)*(c*c+d*d) :=
 rid [c,d] ((fun (c d:PE)=>((c*c-d*d)*(c*c-d*d)+(c*d+d*c)*(c*d+d*c))) (.v 0) (.v 1)) ((fun (c d:PE)=>((c*c+d*d)*(c*c+d*d))) (.v 0) (.v 1)) (by kernel_rfl)
theorem q_6 {F:Type} [Rg F] (c d:F):c*c-d*d+(c*c+d*d)+(c*c-d*d+(c*c+d*d))=(c+c)*(c+c) :=
 rid [c,d] ((fun (c d:PE)=>(c*c-d*d+(c*c+d*d)+(c*c-d*d+(c*c+d*d)))) (.v 0) (.v 1)) ((fun (c d:PE)=>((c+c)*(c+c))) (.v 0) (.v 1)) (by kernel_rfl)
theorem q_7 {F:Type} [Rg F] (c d:F):c*c-d*d - -(c*c+d*d)+(c*c-d*d - -(c*c+d*d))=(c+c)*(c+c) :=
 rid [c,d] ((fun (c d:PE)=>(c*c-d*d - -(c*c+d*d)+(c*c-d*d - -(c*c+d*d)))) (.v 0) (.v 1)) ((fun (c d:PE)=>((c+c)*(c+c))) (.v 0) (.v 1)) (by kernel_rfl)
theorem q_8 {F:Type} [Rg F] (d:F):0*0-d*d=-(d*d) :=
 rid [d] ((fun (d:PE)=>(0*0-d*d)) (.v 0)) ((fun (d:PE)=>(-(d*d))) (.v 0)) (by kernel_rfl)
theorem fin_ok {F:Type} [Fd F] {a b n s t i:F} (hb:b≠0) (hn:n*n=a*a+b*b) (hs:s=a+n\/s=a-n) (ht:t*t=s+s) (hi:t≠0->t*i=1):s*i*(s*i)-b*i*(b*i)=a/\s*i*(b*i)+b*i*(s*i)=b:=by
 have e1:s*s-b*b=a*(s+s):=by
  refine eq_of_sub ?_
  rcases hs with rfl|rfl
  ·rw[q_a,hn,sub_self]
  ·rw[q_s,hn,sub_self]
 have hs0:s≠0:=by
  intro e
  rw[e,zero_mul] at e1
  have:b*b=0:=by
   have h0:(0:F)-b*b=0:=by rw[e1,add_zero,mul_zero]
   exact (eq_of_sub h0).symm
  rcases mul_eq_zero this with h|h<;>exact hb h
 have ht0:t≠0:=by
  intro e
  rw[e,zero_mul] at ht
  exact hs0 (double_eq_zero ht.symm)
 have hti:=hi ht0
 constructor
 ·rw[q_1,e1,<- ht,q_2,hti,mul_one,mul_one]
 ·rw[q_3,<- ht,q_2,hti,mul_one,mul_one]
theorem sq_eq {F:Type} [Fd F] {a b:F} (h:a*a=b*b):a=b\/a=-b:=by
 have:(a+b)*(a-b)=0:=by rw[q_4,h,sub_self]
 rcases mul_eq_zero this with h|h
 ·right
  rw[<- neg_neg a,neg_eq h]
 ·exact .inl (eq_of_sub h)
end Cr
namespace Cr
noncomputable section
open Rg Fd Go.Eng
def tb:F2:=(zm 4,zm 4)
theorem tb_ne:tb≠0:=fun h=>absurd (congrArg Prod.fst h) (by decide)
def kN:Nat:=179184598021607201395328336867808778623227034365729160298681049842686063338121018147455353735441364525843719707164066765927216767229676667218777623574602578604133367281659313250333219842201540931831568844813240003724377679117
def hN:Nat:=209869847837335686905080341498658477663839067235703451875306851526599783796572738804459333109033834234622528588876978987822447936461846631641690358257586228683615991308971558879306463436166481
def p1x:V2:=(2,0)
def p1y:V2:=(188995492400578496451910581292546059920654572609832469388872107051048741028892423057992033888655218419282460458611,434381874456081807472298918693162486998243066160460423017297172308631992219110538691921044767658182807847155297615)
def p2x:V2:=(3502097864753066570550148371418669739303915645354957993882158272604968504426138630742300340054213004101649122574995,3191109489096775307193507002606793236600709294888301722308519387708220704158284978609877783087598478210803037831895)
def p2y:V2:=(1120128434309428118703815378359973697067986923993178994101501066809893730950108659182691351312157851099523537033621,3284094733358660625011281814609151989521685951164705617572026484241640633985466418925372124277545495873312627274873)
def irv:V2:=(877076961050607968509681729531255177986764537961432449499635504522207616027455086505066378536590128544573588734230,877076961050607968509681729531255177986764537961432449499635504522207616027455086505066378536590128544573588734230)
abbrev J3:=V2 × V2 × V2
def jp (x y:V2):J3:=(x,y,((1:Nat),(0:Nat)))
def j3 (t:J3):F2 × F2 × F2:=evP2.φ3 t
def onc (x y:V2):Bool:=Nat.beq (vsub (vmul y y) (vadd (vmul (vmul x x) x) (4,4))).1 0&&Nat.beq (vsub (vmul y y) (vadd (vmul (vmul x x) x) (4,4))).2 0
theorem onc_ok {x y:V2} (h:onc x y=true):OnF tb (q2 x,q2 y):=by
 unfold onc at h
 rw[Bool.and_eq_true] at h
 have h1:q2 (vsub (vmul y y) (vadd (vmul (vmul x x) x) (4,4)))=0:=by
  refine (evP2.isz_φ _).1 ?_
  show (Nat.beq (_%pN) 0&&Nat.beq (_%pN) 0)=true
  rw[Nat.eq_of_beq_eq_true h.1,Nat.eq_of_beq_eq_true h.2];rfl
 rw[q2_sub,q2_add,q2_mul,q2_mul,q2_mul] at h1
 exact eq_of_sub h1
theorem jp_rep {x y:V2} (h:OnF tb (q2 x,q2 y)):Rep tb (j3 (jp x y)) (q2 x,q2 y) :=
 .inr ⟨one_ne,by show q2 x=q2 x*(1*1);rw[mul_one,mul_one],by show q2 y=q2 y*(1*(1*1));rw[mul_one,mul_one,mul_one],h⟩
theorem rep_z {t:J3} {P:F2 × F2} (h:Rep tb (j3 t) P):evP2.isz t.2.2=true↔P=O2:=by
 have hi:=evP2.isz_φ t.2.2
 rcases h with ⟨h1,h2⟩|⟨h1,_,_,h2⟩
 ·exact⟨fun _=>h2,fun _=>hi.2 h1⟩
 ·exact⟨fun e=>absurd (hi.1 e) h1,fun e=>absurd e (on_ne tb_ne h2)⟩
def T1:F2 × F2:=(q2 p1x,q2 p1y)
def T2:F2 × F2:=(q2 p2x,q2 p2y)
def o1:J3:=jp p1x p1y
def o2:J3:=jp p2x p2y
theorem T1_on:OnF tb T1:=onc_ok (by kernel_rfl)
theorem T2_on:OnF tb T2:=onc_ok (by kernel_rfl)
theorem T1_rep:Rep tb (j3 o1) T1:=jp_rep T1_on
theorem T2_rep:Rep tb (j3 o2) T2:=jp_rep T2_on
def mj (o:J3) (n:Nat):J3:=evP2.mul2 o 760 n
theorem mj_rep {o:J3} {P:F2 × F2} (h:Rep tb (j3 o) P) {n:Nat} (hn:n<2^760):Rep tb (j3 (mj o n)) (nmul P n):=Ev.mul2_rep tb_ne h 760 n hn
theorem k_z1:evP2.isz (mj o1 (kN*299)).2.2=true:=by kernel_rfl
theorem k_z2:evP2.isz (mj o2 299).2.2=true:=by kernel_rfl
theorem T1_k:nmul T1 (kN*299)=O2:=(rep_z (mj_rep T1_rep (of_decide_eq_true (by kernel_rfl)))).1 k_z1
theorem T2_k:nmul T2 299=O2:=(rep_z (mj_rep T2_rep (of_decide_eq_true (by kernel_rfl)))).1 k_z2
theorem nz_of {o:J3} {P:F2 × F2} (h:Rep tb (j3 o) P) {n:Nat} (hn:n<2^760) (hz:evP2.isz (mj o n).2.2=false):nmul P n≠O2:=fun e=>by
 have:=(rep_z (mj_rep h hn)).2 e
 rw[hz] at this;cases this
theorem z_0:evP2.isz (mj o1 19747952380560469302323322050672622487410572530539262414045570918895367835642530197600129291152586801779311534258037583122830008625755003132478624935055720974064090238561052215941626514123944245712362360707393572102318070791).2.2=false:=by kernel_rfl
theorem z_1:evP2.isz (mj o1 4482238334180586732803745731069591299953558376587720148021888555422331878030468035312402808240355391385198041700163637832530562486545078515721116828311400569115358221134119857931032605439493076099526402124919163483107916511).2.2=false:=by kernel_rfl
theorem z_2:evP2.isz (mj o1 204435453290776677963449216517309658175308347325906608295165143160629959812485202088339905776329775720238838597629082276088502697387609078137492452174069313816727185654221348812143491724768136401549359461054755660202423507).2.2=false:=by kernel_rfl
theorem z_3:evP2.isz (mj o1 133242285665808607076488378322626308017882680317454143660064485930450545651671235455237836767).2.2=false:=by kernel_rfl
theorem z_4:evP2.isz (mj o1 1021746936224977739802674759843215733158749228274876731329980043418955197936360816142165308893846079758636364010172630974200012787218635773765140678191).2.2=false:=by kernel_rfl
theorem T1_dvd (a:Nat) (ha:nmul T1 a=O2):kN∣a:=by
 have oT:OnP tb T1:=.inr T1_on
 have d0:2713∣a:=ord_dvd tb_ne oT prm_2713 (n:=19747952380560469302323322050672622487410572530539262414045570918895367835642530197600129291152586801779311534258037583122830008625755003132478624935055720974064090238561052215941626514123944245712362360707393572102318070791) (by rw[show 19747952380560469302323322050672622487410572530539262414045570918895367835642530197600129291152586801779311534258037583122830008625755003132478624935055720974064090238561052215941626514123944245712362360707393572102318070791*2713=kN*299 from of_decide_eq_true (by kernel_rfl)];exact T1_k) (nz_of T1_rep (of_decide_eq_true (by kernel_rfl)) z_0) ha
 have d1:11953∣a:=ord_dvd tb_ne oT prm_11953 (n:=4482238334180586732803745731069591299953558376587720148021888555422331878030468035312402808240355391385198041700163637832530562486545078515721116828311400569115358221134119857931032605439493076099526402124919163483107916511) (by rw[show 4482238334180586732803745731069591299953558376587720148021888555422331878030468035312402808240355391385198041700163637832530562486545078515721116828311400569115358221134119857931032605439493076099526402124919163483107916511*11953=kN*299 from of_decide_eq_true (by kernel_rfl)];exact T1_k) (nz_of T1_rep (of_decide_eq_true (by kernel_rfl)) z_1) ha
 have d2:262069∣a:=ord_dvd tb_ne oT prm_262069 (n:=204435453290776677963449216517309658175308347325906608295165143160629959812485202088339905776329775720238838597629082276088502697387609078137492452174069313816727185654221348812143491724768136401549359461054755660202423507) (by rw[show 204435453290776677963449216517309658175308347325906608295165143160629959812485202088339905776329775720238838597629082276088502697387609078137492452174069313816727185654221348812143491724768136401549359461054755660202423507*262069=kN*299 from of_decide_eq_true (by kernel_rfl)];exact T1_k) (nz_of T1_rep (of_decide_eq_true (by kernel_rfl)) z_2) ha
 have d3:402096035359507321594726366720466575392706800671181159425656785868777272553337714697862511267018014931937703598282857976535744623203249∣a:=ord_dvd tb_ne oT prm_m (n:=133242285665808607076488378322626308017882680317454143660064485930450545651671235455237836767) (by rw[show 133242285665808607076488378322626308017882680317454143660064485930450545651671235455237836767*402096035359507321594726366720466575392706800671181159425656785868777272553337714697862511267018014931937703598282857976535744623203249=kN*299 from of_decide_eq_true (by kernel_rfl)];exact T1_k) (nz_of T1_rep (of_decide_eq_true (by kernel_rfl)) z_3) ha
 have d4:52435875175126190479447740508185965837690552500527637822603658699938581184513∣a:=ord_dvd tb_ne oT prm_r (n:=1021746936224977739802674759843215733158749228274876731329980043418955197936360816142165308893846079758636364010172630974200012787218635773765140678191) (by rw[show 1021746936224977739802674759843215733158749228274876731329980043418955197936360816142165308893846079758636364010172630974200012787218635773765140678191*52435875175126190479447740508185965837690552500527637822603658699938581184513=kN*299 from of_decide_eq_true (by kernel_rfl)];exact T1_k) (nz_of T1_rep (of_decide_eq_true (by kernel_rfl)) z_4) ha
 have c1:2713*11953∣a:=Nat.Coprime.mul_dvd_of_dvd_of_dvd (show Nat.gcd 2713 11953=1 from of_decide_eq_true (by kernel_rfl)) d0 d1
 rw[show 2713*11953=32428489 from of_decide_eq_true (by kernel_rfl)] at c1
 have c2:32428489*262069∣a:=Nat.Coprime.mul_dvd_of_dvd_of_dvd (show Nat.gcd 32428489 262069=1 from of_decide_eq_true (by kernel_rfl)) c1 d2
 rw[show 32428489*262069=8498501683741 from of_decide_eq_true (by kernel_rfl)] at c2
 have c3:8498501683741*402096035359507321594726366720466575392706800671181159425656785868777272553337714697862511267018014931937703598282857976535744623203249∣a:=Nat.Coprime.mul_dvd_of_dvd_of_dvd (show Nat.gcd 8498501683741 402096035359507321594726366720466575392706800671181159425656785868777272553337714697862511267018014931937703598282857976535744623203249=1 from of_decide_eq_true (by kernel_rfl)) c2 d3
 rw[show 8498501683741*402096035359507321594726366720466575392706800671181159425656785868777272553337714697862511267018014931937703598282857976535744623203249=3417213833528353644824999196800052619260030863795574352274180747220585946275454234589181635096475183139252053545727862789966597950563999243361674509 from of_decide_eq_true (by kernel_rfl)] at c3
 have c4:3417213833528353644824999196800052619260030863795574352274180747220585946275454234589181635096475183139252053545727862789966597950563999243361674509*52435875175126190479447740508185965837690552500527637822603658699938581184513∣a:=Nat.Coprime.mul_dvd_of_dvd_of_dvd (show Nat.gcd 3417213833528353644824999196800052619260030863795574352274180747220585946275454234589181635096475183139252053545727862789966597950563999243361674509 52435875175126190479447740508185965837690552500527637822603658699938581184513=1 from of_decide_eq_true (by kernel_rfl)) c3 d4
 rw[show 3417213833528353644824999196800052619260030863795574352274180747220585946275454234589181635096475183139252053545727862789966597950563999243361674509*52435875175126190479447740508185965837690552500527637822603658699938581184513=179184598021607201395328336867808778623227034365729160298681049842686063338121018147455353735441364525843719707164066765927216767229676667218777623574602578604133367281659313250333219842201540931831568844813240003724377679117 from of_decide_eq_true (by kernel_rfl)] at c4
 exact c4
def smz (a l l':Nat):Bool:=fo6 (mj o1 a) fun A=>(List.range l).all fun j => !evP2.isz (evP2.jadd A (mj o2 (l'*j))).2.2
theorem smz_ok {a l l':Nat} (ha:a<2^760) (hl:l<300) (hl':l'<300) (h:smz a l l'=true) (j:Nat) (hj:j<l):padd (nmul T1 a) (nmul (nmul T2 l') j)≠O2:=by
 unfold smz at h
 rw[fo6_eq] at h
 have h1:=List.all_eq_true.1 h j (List.mem_range.2 hj)
 have hb:l'*j<2^760:=by
  have h2:l'*j<=300*300:=Nat.mul_le_mul (by omega) (by omega)
  exact Nat.lt_of_le_of_lt h2 (of_decide_eq_true (by kernel_rfl))
 have r1:=mj_rep T1_rep ha
 have r2:=mj_rep T2_rep hb
 have r3:=rep_add tb_ne r1 r2
 have e:Cr.jadd (j3 (mj o1 a)) (j3 (mj o2 (l'*j)))=j3 (evP2.jadd (mj o1 a) (mj o2 (l'*j))):=(evP2.jadd_φ _ _).symm
 rw[e] at r3
 rw[nmul_mul tb_ne (.inr T2_on)]
 intro h0
 have h3:=(rep_z r3).2 h0
 rw[h3] at h1;cases h1
theorem sm_13:smz (kN*23) 13 23=true:=by kernel_rfl
theorem sm_23:smz (kN*13) 23 13=true:=by kernel_rfl
theorem v_23:evP2.isz (mj o2 23).2.2=false:=by kernel_rfl
theorem v_13:evP2.isz (mj o2 13).2.2=false:=by kernel_rfl
theorem T_ind (a c:Nat) (h:padd (nmul T1 a) (nmul T2 c)=O2):kN*299∣a/\299∣c :=
 ind_all tb_ne (.inr T1_on) (.inr T2_on) (k:=kN) (l:=13) (l':=23) prm_13 prm_23 (of_decide_eq_true (by kernel_rfl)) (of_decide_eq_true (by kernel_rfl)) T1_k T2_k T1_dvd
  (nz_of T2_rep (of_decide_eq_true (by kernel_rfl)) v_23) (fun j hj=>smz_ok (of_decide_eq_true (by kernel_rfl)) (by decide) (by decide) sm_13 j hj)
  (nz_of T2_rep (of_decide_eq_true (by kernel_rfl)) v_13) (fun j hj=>smz_ok (of_decide_eq_true (by kernel_rfl)) (by decide) (by decide) sm_23 j hj) a c h
theorem tb_nm:nm2 (-tb)=1+1+(1+1)+(1+1+(1+1))+(1+1+(1+1)+(1+1+(1+1)))+(1+1+(1+1)+(1+1+(1+1))+(1+1+(1+1)+(1+1+(1+1)))):=by
 rw[F2.neg_def]
 refine Zm.ext (of_decide_eq_true (by kernel_rfl))
theorem no_cube (x:F2):x*x*x+tb≠0:=fun h=>by
 have h1:x*x*x=-tb:=(neg_eq ((add_comm tb (x*x*x)).trans h)).symm
 have e:=congrArg nm2 h1
 rw[nm2_mul,nm2_mul] at e
 obtain⟨s,hs⟩:∃ s,s=nm2 x:=⟨_,rfl⟩
 rw[<- hs] at e
 have hv:(nm2 (-tb)).v=32:=by rw[tb_nm];exact of_decide_eq_true (by kernel_rfl)
 have s0:s≠0:=fun z=>by
  rw[z,zero_mul,zero_mul] at e
  rw[<- e] at hv
  exact absurd hv (by decide)
 have hf:=fp_fermat s0
 have hq:fpP-1=3*1334136518407222464472596608578634718852294273313002628444019378708010550163612621480895876376338554679298090853262:=of_decide_eq_true (by kernel_rfl)
 obtain⟨q,hqq⟩:∃ q,q=1334136518407222464472596608578634718852294273313002628444019378708010550163612621480895876376338554679298090853262:=⟨_,rfl⟩
 rw[hq,<- hqq,zpow_mul'] at hf
 have h3:zpow s 3=nm2 (-tb):=by
  rw[<- e];show 1*s*s*s=_;rw[one_mul]
 rw[h3] at hf
 have hw:=congrArg Zm.v hf
 rw[zpow_v,hv] at hw
 have h4:((32:Int)^q%Mp)=1:=hw
 have h5:(32:Nat)^q%fpP=1:=by
  have h6:(((32:Nat)^q%fpP:Nat):Int)=1:=by rw[Int.natCast_emod,Int.natCast_pow];exact h4
  omega
 rw[<- npm_eq fpP 32 (of_decide_eq_true (by kernel_rfl)) 384 q (by rw[hqq];exact of_decide_eq_true (by kernel_rfl)),hqq] at h5
 exact absurd h5 (of_decide_eq_true (by kernel_rfl))
def od (y:F2):Bool:=if y.1=0 then decide (y.2.v%2=1) else decide (y.1.v%2=1)
theorem od_v {a:Fp} (h:a≠0):decide ((-a).v%2=1)=!decide (a.v%2=1):=by
 have h0:a.v≠0:=fun e=>h (Zm.ext e)
 have hn:=a.nn
 have hl:=a.lt
 have e:(-a).v=Mp-a.v:=by
  rw[neg_v]
  have h1:(-a.v+Mp*1)%Mp=(-a.v)%Mp:=Int.add_mul_emod_self_left _ _ _
  rw[<- h1,Int.mul_one,Int.emod_eq_of_lt (by omega) (by omega)];omega
 rw[e]
 have hp:Mp%2=1:=of_decide_eq_true (by kernel_rfl)
 by_cases h2:a.v%2=1
 ·rw[decide_eq_true h2,decide_eq_false (by omega)];rfl
 ·rw[decide_eq_false h2,decide_eq_true (by omega)];rfl
theorem od_neg {y:F2} (h:y≠0):od (-y)=!od y:=by
 unfold od
 rw[F2.neg_def]
 by_cases h1:y.1=0
 ·have h2:y.2≠0:=fun e=>h (F2.ext h1 e)
  rw[if_pos h1,if_pos (show -y.1=0 by rw[h1];exact neg_zero),od_v h2]
 ·rw[if_neg h1,if_neg (show ¬ -y.1=0 from fun e=>h1 (by rw[<- neg_neg y.1,e];exact neg_zero)),od_v h1]
def cod (P:F2 × F2):Nat:=if P=O2 then 0 else 1+2*(P.1.1.v.toNat*pN+P.1.2.v.toNat)+(if od P.2=true then 1 else 0)
theorem v_lt (a:Fp):a.v.toNat<pN:=by
 have h1:=a.nn
 have h2:=a.lt
 have h3:Mp=(pN:Int):=rfl
 omega
theorem cod_lt (P:F2 × F2):cod P<2*(pN*pN)+1:=by
 have key:∀ a c n:Nat,a<n->c<n->2*(a*n+c)+2<2*(n*n)+1:=by
  intro a c n h1 h2
  have h4:(a+1)*n<=n*n:=Nat.mul_le_mul_right n h1
  rw[Nat.add_mul,Nat.one_mul] at h4
  omega
 have h:=key _ _ pN (v_lt P.1.1) (v_lt P.1.2)
 obtain⟨X,hX⟩:∃ X,X=2*(P.1.1.v.toNat*pN+P.1.2.v.toNat):=⟨_,rfl⟩
 obtain⟨Y,hY⟩:∃ Y,Y=2*(pN*pN):=⟨_,rfl⟩
 unfold cod
 rw[<- hX,<- hY] at h
 rw[<- hX,<- hY]
 split
 ·omega
 ·split<;>omega
theorem cod_key:∀ (X Y:Nat) (s t:Bool),1+2*X+(if s=true then 1 else 0)=1+2*Y+(if t=true then 1 else 0)->X=Y/\s=t
 | X,Y,false,false,h=>by
  have h:1+2*X+0=1+2*Y+0:=h
  exact⟨by omega,rfl⟩
 | X,Y,false,true,h=>by
  have h:1+2*X+0=1+2*Y+1:=h
  omega
 | X,Y,true,false,h=>by
  have h:1+2*X+1=1+2*Y+0:=h
  omega
 | X,Y,true,true,h=>by
  have h:1+2*X+1=1+2*Y+1:=h
  exact⟨by omega,rfl⟩
theorem cod_inj {P Q:F2 × F2} (oP:OnP tb P) (oQ:OnP tb Q) (h:cod P=cod Q):P=Q:=by
 by_cases hP:P=O2
 ·by_cases hQ:Q=O2
  ·rw[hP,hQ]
  ·exfalso
   unfold cod at h
   rw[if_pos hP,if_neg hQ] at h
   omega
 by_cases hQ:Q=O2
 ·exfalso
  unfold cod at h
  rw[if_neg hP,if_pos hQ] at h
  omega
 have hp:OnF tb P:=oP.resolve_left hP
 have hq:OnF tb Q:=oQ.resolve_left hQ
 unfold cod at h
 rw[if_neg hP,if_neg hQ] at h
 have hx:P.1.1.v.toNat*pN+P.1.2.v.toNat=Q.1.1.v.toNat*pN+Q.1.2.v.toNat/\(od P.2=od Q.2):=by
  exact cod_key _ _ _ _ h
 obtain⟨hx,ho⟩:=hx
 have v1:=v_lt P.1.1
 have v2:=v_lt P.1.2
 have v3:=v_lt Q.1.1
 have v4:=v_lt Q.1.2
 have d1:P.1.1.v.toNat=Q.1.1.v.toNat:=by
  have e1:(P.1.1.v.toNat*pN+P.1.2.v.toNat)/pN=(Q.1.1.v.toNat*pN+Q.1.2.v.toNat)/pN:=congrArg (· / pN) hx
  rw[Nat.mul_comm,Nat.mul_add_div (by decide),Nat.div_eq_of_lt v2,Nat.mul_comm Q.1.1.v.toNat,Nat.mul_add_div (by decide),Nat.div_eq_of_lt v4] at e1
  exact e1
 have d2:P.1.2.v.toNat=Q.1.2.v.toNat:=by rw[d1] at hx;omega
 have x1:P.1=Q.1:=by
  refine F2.ext (Zm.ext ?_) (Zm.ext ?_)
  ·have:=P.1.1.nn;have:=Q.1.1.nn;omega
  ·have:=P.1.2.nn;have:=Q.1.2.nn;omega
 have hy:P.2*P.2=Q.2*Q.2:=by
  have a1:P.2*P.2=P.1*P.1*P.1+tb:=hp
  have a2:Q.2*Q.2=Q.1*Q.1*Q.1+tb:=hq
  rw[a1,a2,x1]
 rcases sq_eq hy with e|e
 ·exact Prod.ext x1 e
 ·by_cases h0:Q.2=0
  ·exact Prod.ext x1 (by rw[e,h0];exact neg_zero)
  ·rw[e,od_neg h0] at ho
   cases hh:od Q.2<;>rw[hh] at ho<;>cases ho
theorem all_tw {Q:F2 × F2} (oQ:OnP tb Q):InH T1 T2 Q :=
 gen_all tb_ne (.inr T1_on) (.inr T2_on) T1_k T2_k (of_decide_eq_true (by kernel_rfl)) T_ind (no2_of tb_ne no_cube) cod (2*(pN*pN)+1) (fun P _=>cod_lt P) (fun _ _ hP hQ h=>cod_inj hP hQ h) (of_decide_eq_true (by kernel_rfl)) oQ
end
end Cr
namespace Cr
open Rg Fd Go.Eng
theorem line12_ww (a b c:F2):line12 a b c=e2 a+ww*(ww*(e2 b+ww*e2 c)):=by
 have h:=horner a 0 b c 0 0
 have h0:e2 0=(0:F12):=rfl
 rw[h0,mul_zero,add_zero,mul_zero,add_zero,zero_add] at h
 exact h
end Cr
namespace Cr
open Rg Fd Go.Eng
theorem up_6 {F:Type} [Rg F] (w i:F):w*i*(w*i)*(w*i)*(w*i*(w*i)*(w*i))=w*(w*(w*(w*(w*w))))*(i*i*i*(i*i*i)) :=
 rid [w,i] ((fun (w i:PE)=>(w*i*(w*i)*(w*i)*(w*i*(w*i)*(w*i)))) (.v 0) (.v 1)) ((fun (w i:PE)=>(w*(w*(w*(w*(w*w))))*(i*i*i*(i*i*i)))) (.v 0) (.v 1)) (by kernel_rfl)
theorem up_2 {F:Type} [Rg F] (w i k:F):w*i*(w*i)*k=w*(w*k)*(i*i) :=
 rid [w,i,k] ((fun (w i k:PE)=>(w*i*(w*i)*k)) (.v 0) (.v 1) (.v 2)) ((fun (w i k:PE)=>(w*(w*k)*(i*i))) (.v 0) (.v 1) (.v 2)) (by kernel_rfl)
theorem up_b {F:Type} [Rg F] (b x v:F):b*x*v=b*(x*v) :=
 rid [b,x,v] ((fun (b x v:PE)=>(b*x*v)) (.v 0) (.v 1) (.v 2)) ((fun (b x v:PE)=>(b*(x*v))) (.v 0) (.v 1) (.v 2)) (by kernel_rfl)
theorem e2_add' (c d:F2):e2 (c+d)=e2 c+e2 d:=by rw[e2_add];rfl
theorem e2_mul' (c d:F2):e2 (c*d)=e2 c*e2 d:=by
 rw[e2_mul]
 show _=((c*d,c*(0:F2),c*(0:F2)),c*(0:F2),c*(0:F2),c*(0:F2))
 rw[mul_zero];rfl
theorem hm_e2:Hm e2:=⟨e2_add',e2_mul',fun x=>(e2_neg x).symm,rfl,fun _ h=>congrArg (fun t:F12=>t.1.1) h⟩
def e0 (x:Fp):F2:=(x,(0:Fp))
theorem hm_e0:Hm e0:=by
 refine⟨fun x y=>?_,fun x y=>?_,fun x=>?_,rfl,fun _ h=>congrArg (fun t:F2=>t.1) h⟩
 ·rw[F2.add_def];refine F2.ext rfl ?_
  show (0:Fp)=0+0
  rw[add_zero]
 ·rw[F2.mul_def];refine F2.ext ?_ ?_
  ·show x*y=x*y-0*0
   rw[mul_zero,sub_z]
  ·show (0:Fp)=x*0+0*y
   rw[mul_zero,zero_mul,add_zero]
 ·rw[F2.neg_def];exact F2.ext rfl neg_z.symm
theorem Hm.comp {F G E:Type} [Fd F] [Fd G] [Fd E] {f:F->G} {g:G->E} (H:Hm f) (K:Hm g):Hm (fun x=>g (f x)) :=
 ⟨fun x y=>by rw[H.add,K.add],fun x y=>by rw[H.mul,K.mul],fun x=>by rw[H.neg,K.neg],by rw[H.one,K.one],fun x h=>H.inj _ (K.inj _ h)⟩
def e1 (x:Fp):F12:=e2 (e0 x)
theorem hm_e1:Hm e1:=hm_e0.comp hm_e2
theorem pwn_ne {F:Type} [Fd F] {x:F} (hx:x≠0):∀ n,pwn x n≠0
 | 0=>one_ne
 | n+1=>mul_ne (pwn_ne hx n) hx
theorem pwn_zr {F:Type} [Rg F] {n:Nat} (h:0<n):pwn (0:F) n=0:=by
 obtain⟨m,rfl⟩:∃ m,n=m+1:=⟨n-1,by omega⟩
 exact mul_zero _
noncomputable def fro (p:Nat) (x:F12):F12:=pwn x p
theorem hm_fro {p:Nat} (hp:p=fpP):Hm (fro p):=by
 have ha:∀ x y:F12,fro p (x+y)=fro p x+fro p y:=fun x y=>pwn_sum (prm_q hp) (nc_p12 hp) x y
 refine⟨ha,fun x y=>pwn_prod x y p,fun x=>?_,pwn_one p,fun x h=>?_⟩
 ·have h0:fro p (-x)+fro p x=0:=by
   rw[<- ha,Rg.neg_add]
   have hz:0<p:=by rw[hp];exact of_decide_eq_true (by kernel_rfl)
   exact pwn_zr hz
  rw[add_comm] at h0
  exact (neg_eq h0).symm
 ·by_cases hx:x=0
  ·exact hx
  ·exact absurd h (pwn_ne hx p)
theorem fro_e1 {p:Nat} (hp:p=fpP) (x:Fp):fro p (e1 x)=e1 x:=by
 show pwn (e2 (e0 x)) p=e2 (e0 x)
 rw[e2_pw,pw_f2 hp]
 show e2 (x,-(0:Fp))=e2 (x,0)
 rw[neg_z]
theorem hmp_fro {p:Nat} (hp:p=fpP) (P:Fp × Fp):hmp (fro p) (hmp e1 P)=hmp e1 P:=Prod.ext (fro_e1 hp P.1) (fro_e1 hp P.2)
noncomputable def wi:F12:=inv ww
theorem ww_ne:ww≠0:=fun h=>absurd (congrArg (fun t:F12=>t.2.1) h) one_ne
theorem ww_wi:ww*wi=1:=mul_inv ww ww_ne
theorem wi_ne:wi≠0:=fun h=>by
 have e:=ww_wi
 rw[h,mul_zero] at e
 exact one_ne e.symm
theorem wi_six:e2 xi*(wi*wi*wi*(wi*wi*wi))=1:=by
 rw[<- ww_six,<- up_6,ww_wi];simp only[mul_one]
noncomputable def k2:F12:=(((0:F2),(0:F2),inv xi),(0:F2),(0:F2),(0:F2))
theorem wi_two:wi*wi=k2:=by
 have h1:ww*(ww*k2)=1:=by
  rw[ww_mul,ww_mul]
  show ((xi*inv xi,(0:F2),(0:F2)),xi*(0:F2),(0:F2),(0:F2))=_
  rw[mul_zero,mul_inv xi xi_ne];rfl
 have h2:ww*wi*(ww*wi)*k2=ww*(ww*k2)*(wi*wi):=up_2 _ _ _
 rw[ww_wi,h1,mul_one,one_mul,one_mul] at h2
 exact h2.symm
theorem ver_two (a c:F2):(e2 a-e2 c*(wi*wi)).2=0/\(e2 a-e2 c*(wi*wi)).1.2.2=-(c*inv xi):=by
 rw[wi_two,e2_mul,F12.sub_def]
 refine⟨?_,?_⟩
 ·show (0:F6)-(c*(0:F2),c*(0:F2),c*(0:F2))=0
  rw[mul_zero];exact sub_self (0:F6)
 ·show ((e6 a)-(c*(0:F2),c*(0:F2),c*inv xi):F6).2.2=_
  rw[F6.sub_def]
  show (0:F2)-c*inv xi=_
  rw[Rg.sub_def,zero_add]
theorem ver_ne {c:F2} (a:F2) (hc:c≠0):e2 a-e2 c*(wi*wi)≠0:=fun h=>by
 have h1:=(ver_two a c).2
 rw[h] at h1
 have h2:(0:F2)=-(c*inv xi):=h1
 have h3:c*inv xi=0:=by rw[<- neg_neg (c*inv xi),<- h2,neg_z]
 have h4:inv xi≠0:=fun e=>by
  have:=mul_inv xi xi_ne
  rw[e,mul_zero] at this
  exact one_ne this.symm
 exact (mul_eq_zero h3).elim hc h4
theorem fac_one (c:F2):(e2 c*(ww*(ww*ww))).1=0/\(e2 c*(ww*(ww*ww))).2.2.1=c:=by
 rw[ww_mul ww,ww_mul,e2_mul]
 refine⟨?_,?_⟩
 ·show (c*(xi*(0:F2)),c*(0:F2),c*(0:F2))=(0:F6)
  rw[mul_zero,mul_zero];rfl
 ·show c*(1:F2)=c
  exact mul_one c
structure LastP (N p u r:Nat):Prop where
 pp:p=fpP
 six:∀ x:F12,x≠0->x.2=0->pwn x N=1
 odd:∀ x:F12,x≠0->x.1=0->pwn x N=1
 ord:∀ x:F12,x≠0->pwn (pwn x N) r=1
 np:∃ s,u+p=r*s
 pos:0<N
section
variable {N p u r:Nat} (L:LastP N p u r)
include L
theorem LastP.up {x:F12} (hx:x≠0):pwn (pwn x N) u*pwn (pwn x N) p=1:=by
 obtain⟨s,hs⟩:=L.np
 rw[<- pwn_add,hs,pwn_mul,L.ord x hx,pwn_one]
theorem LastP.neg:pwn (-1:F12) N=1:=by
 refine L.six _ ?_ ?_
 ·intro h
  have h1:(1:F12)=0:=by rw[<- neg_neg (1:F12),h,neg_z]
  exact one_ne h1
 ·rw[F12.neg_def];exact neg_z (F:=F6)
noncomputable def kil:Kill F12:=⟨fun x=>pwn x N,fun x y=>pwn_prod x y N,pwn_one N,L.neg⟩
theorem kil_ne {x y:F12} (h:(kil L).χ x*y=1):x≠0:=by
 rintro rfl
 have h1:pwn (0:F12) N*y=1:=h
 rw[pwn_zr L.pos,zero_mul] at h1
 exact one_ne h1.symm
theorem kil_up {x:F12} (hx:x≠0):pwn ((kil L).χ x) u*pwn ((kil L).χ x) p=1:=L.up hx
theorem kil_fro (x:F12):(kil L).χ (fro p x)=pwn ((kil L).χ x) p:=by
 show pwn (pwn x p) N=pwn (pwn x N) p
 rw[<- pwn_mul,<- pwn_mul,Nat.mul_comm]
theorem kil_fac {c:F2} (hc:c≠0):(kil L).χ (e2 c*(ww*(ww*ww)))=1:=by
 refine L.odd _ ?_ (fac_one c).1
 intro h
 have h1:=(fac_one c).2
 rw[h] at h1
 exact hc h1.symm
variable {b1:Fp} {b2:F2} (hb1:b1≠0) (hb2:b2≠0) (hns:∀ y:F2,y*y=b2->False) (he:b2=e0 b1*xi)
omit L in
theorem bb_2 (he:b2=e0 b1*xi):e1 b1=e2 b2*(wi*wi*wi*(wi*wi*wi)):=by
 rw[he,e2_mul',up_b,wi_six,mul_one];rfl
omit L in
theorem bb_ne (hb1:b1≠0):e1 b1≠0:=fun h=>hb1 (hm_e1.inj _ h)
def TT (b1:Fp) (R:F12 × F12):Prop:=∃ P,OnP b1 P/\R=hmp e1 P
def SS (b2:F2) (A:F12 × F12):Prop:=∃ Q,OnP b2 Q/\A=tws e2 wi Q
include hb1 hb2 hns he
theorem two12:Two (e1 b1) (kil L) (SS b2) (TT b1) where
 onS:=by
  rintro _ ⟨Q,o,rfl⟩
  exact tws_onP hm_e2 (bb_2 he) o
 addS:=by
  rintro _ _ ⟨Q,o,rfl⟩ ⟨Q',o',rfl⟩
  exact⟨padd Q Q',padd_on hb2 o o',(tws_add hm_e2 (bb_2 he) hb2 (bb_ne hb1) o o').symm⟩
 onT:=by
  rintro _ ⟨P,o,rfl⟩
  exact hmp_onP hm_e1 rfl o
 addT:=by
  rintro _ _ ⟨P,o,rfl⟩ ⟨P',o',rfl⟩
  exact⟨padd P P',padd_on hb1 o o',(hmp_add hm_e1 rfl hb1 (bb_ne hb1) o o').symm⟩
 vt:=by
  rintro _ _ ⟨Q,o,rfl⟩ ⟨P,o',rfl⟩ nA nR
  have oQ:OnF b2 Q:=o.resolve_left (fun e=>nA (by rw[e];exact tws_O hm_e2))
  have hq:Q.1≠0:=fun e=>by
   have h:Q.2*Q.2=Q.1*Q.1*Q.1+b2:=oQ
   rw[e,mul_zero,zero_add] at h
   exact hns _ h
  show (kil L).χ (e2 (e0 P.1)-e2 Q.1*(wi*wi))=1
  exact L.six _ (ver_ne _ hq) (ver_two _ _).1
theorem grp12 {P:Fp × Fp} (oP:OnP b1 P) (nP:P≠O2):Grp (e1 b1) (kil L) (hmp e1 P) (SS b2) where
 on:=(two12 L hb1 hb2 hns he).onS
 add:=(two12 L hb1 hb2 hns he).addS
 vt:=by
  intro A sA
  have g:=two12 L hb1 hb2 hns he
  by_cases h:A=O2
  ·rw[h,Vt_O,(kil L).one]
  ·have oA:=(g.onS A sA).resolve_left h
   rw[Vt_on oA (bb_ne hb1)]
   refine g.vt A (hmp e1 P) sA ⟨P,oP,rfl⟩ h ?_
   rw[<- tws_1]
   exact tws_ne hm_e1 one_ne nP
end
end Cr
namespace Cr
noncomputable section
open Rg Fd Go.Eng
theorem tc_x {F:Type} [Rg F] (x r z:F):x*(z*z)*(r*r)=x*(r*r)*(z*z) :=
 rid [x,r,z] ((fun (x r z:PE)=>(x*(z*z)*(r*r))) (.v 0) (.v 1) (.v 2)) ((fun (x r z:PE)=>(x*(r*r)*(z*z))) (.v 0) (.v 1) (.v 2)) (by kernel_rfl)
theorem tc_y {F:Type} [Rg F] (y r z:F):y*(z*(z*z))*(r*r*r)=y*(r*r*r)*(z*(z*z)) :=
 rid [y,r,z] ((fun (y r z:PE)=>(y*(z*(z*z))*(r*r*r))) (.v 0) (.v 1) (.v 2)) ((fun (y r z:PE)=>(y*(r*r*r)*(z*(z*z)))) (.v 0) (.v 1) (.v 2)) (by kernel_rfl)
theorem tc_n {F:Type} [Rg F] (y z:F) : -(y*z)=-y*z :=
 rid [y,z] ((fun (y z:PE)=>(-(y*z))) (.v 0) (.v 1)) ((fun (y z:PE)=>(-y*z)) (.v 0) (.v 1)) (by kernel_rfl)
theorem hm_cj:Hm cjg:=by
 refine⟨fun x y=>?_,fun x y=>?_,fun x=>?_,F2.ext rfl neg_z,fun x h=>?_⟩
 ·show (_,_)=(_:F2)
  rw[F2.add_def,F2.add_def]
  exact F2.ext rfl (neg_add_rev _ _)
 ·show (_,_)=(_:F2)
  rw[F2.mul_def,F2.mul_def]
  refine F2.ext ?_ ?_
  ·show x.1*y.1-x.2*y.2=x.1*y.1 - -x.2 * -y.2
   rw[neg_mul,mul_neg,neg_neg]
  ·show -(x.1*y.2+x.2*y.1)=x.1 * -y.2 + -x.2*y.1
   rw[neg_add_rev,mul_neg,neg_mul]
 ·show (_,_)=(_:F2)
  rw[F2.neg_def,F2.neg_def];rfl
 ·have h1:x.1=0:=congrArg Prod.fst h
  have h2 : -x.2=0:=congrArg Prod.snd h
  exact F2.ext h1 (by rw[<- neg_neg x.2,h2];exact neg_z)
def ir:F2:=q2 irv
def tau (P:F2 × F2):F2 × F2:=tws cjg ir P
theorem tbc:evP2.isz (vsub (vmul (vcj (4,4)) (vmul (vmul (vmul irv irv) irv) (vmul (vmul irv irv) irv))) (4,4))=true:=by kernel_rfl
theorem tb_tau:tb=cjg tb*(ir*ir*ir*(ir*ir*ir)):=by
 have h1:q2 (vsub (vmul (vcj (4,4)) (vmul (vmul (vmul irv irv) irv) (vmul (vmul irv irv) irv))) (4,4))=0:=(evP2.isz_φ _).1 tbc
 simp only[q2_sub,q2_mul,q2_cj] at h1
 exact (eq_of_sub h1).symm
structure Ad (f:F2 × F2->F2 × F2):Prop where
 on:∀ P,OnP tb P->OnP tb (f P)
 add:∀ P Q,OnP tb P->OnP tb Q->f (padd P Q)=padd (f P) (f Q)
theorem ad_id:Ad fun P=>P:=⟨fun _ h=>h,fun _ _ _ _=>rfl⟩
theorem ad_mul (n:Nat):Ad fun P=>nmul P n:=⟨fun _ h=>nmul_on tb_ne h n,fun _ _ h k=>nmul_padd tb_ne h k n⟩
theorem ad_neg:Ad pneg:=⟨fun _ h=>pneg_onP h,fun _ _ h k=>pneg_add tb_ne h k⟩
theorem ad_tau:Ad tau:=⟨fun _ h=>tws_onP hm_cj tb_tau h,fun _ _ h k=>tws_add hm_cj tb_tau tb_ne tb_ne h k⟩
theorem Ad.comp {f g:F2 × F2->F2 × F2} (hf:Ad f) (hg:Ad g):Ad fun P=>f (g P):=⟨fun P h=>hf.on _ (hg.on P h),fun P Q h k=>by rw[hg.add P Q h k,hf.add _ _ (hg.on P h) (hg.on Q k)]⟩
theorem Ad.sum {f g:F2 × F2->F2 × F2} (hf:Ad f) (hg:Ad g):Ad fun P=>padd (f P) (g P):=⟨fun P h=>padd_on tb_ne (hf.on P h) (hg.on P h),fun P Q h k=>by
 show padd (f (padd P Q)) (g (padd P Q))=_
 rw[hf.add P Q h k,hg.add P Q h k]
 exact add4 tb_ne (hf.on P h) (hf.on Q k) (hg.on P h) (hg.on Q k)⟩
theorem Ad.zero {f:F2 × F2->F2 × F2} (hf:Ad f):f O2=O2:=by
 have oO:OnP tb (O2:F2 × F2):=.inl rfl
 have h:=hf.add O2 O2 oO oO
 rw[O_add] at h
 have c:=cancel tb_ne (hf.on _ oO) (hf.on _ oO)
 rw[<- h,neg_add_self] at c
 exact c.symm
theorem Ad.nmul {f:F2 × F2->F2 × F2} (hf:Ad f) {P:F2 × F2} (oP:OnP tb P):∀ n,f (nmul P n)=nmul (f P) n
 | 0=>hf.zero
 | n+1=>by
  show f (padd (Cr.nmul P n) P)=padd (Cr.nmul (f P) n) (f P)
  rw[hf.add _ _ (nmul_on tb_ne oP n) oP,hf.nmul oP n]
theorem Ad.eq {f g:F2 × F2->F2 × F2} (hf:Ad f) (hg:Ad g) (h1:f T1=g T1) (h2:f T2=g T2) {P:F2 × F2} (oP:OnP tb P):f P=g P:=by
 have oa:OnP tb T1:=.inr T1_on
 have ob:OnP tb T2:=.inr T2_on
 obtain⟨a,c,rfl⟩:=all_tw oP
 rw[hf.add _ _ (nmul_on tb_ne oa a) (nmul_on tb_ne ob c),hg.add _ _ (nmul_on tb_ne oa a) (nmul_on tb_ne ob c),hf.nmul oa,hf.nmul ob,hg.nmul oa,hg.nmul ob,h1,h2]
def uN:Nat:=15132376222941642752
def clr (P:F2 × F2):F2 × F2:=psum [nmul (nmul P uN) uN,nmul P uN,pneg P,pneg (tau (padd (nmul P uN) P)),tau (tau (padd P P))]
def clr' (P:F2 × F2):F2 × F2:=padd (nmul (nmul P uN) uN) (padd (nmul P uN) (padd (pneg P) (padd (pneg (tau (padd (nmul P uN) P))) (tau (tau (padd P P))))))
theorem clr_eq (P:F2 × F2):clr P=clr' P:=by
 simp only[clr,clr',psum,add_O]
theorem ad_clr:Ad clr':=((ad_mul uN).comp (ad_mul uN)).sum ((ad_mul uN).sum (ad_neg.sum ((ad_neg.comp (ad_tau.comp ((ad_mul uN).sum ad_id))).sum (ad_tau.comp (ad_tau.comp (ad_id.sum ad_id))))))
def tauJ (a:J3):J3:=fo2 (vmul irv irv) fun r2=>fo2 (vmul r2 irv) fun r3=>fo2 (vmul (vcj a.1) r2) fun x=>fo2 (vmul (vcj a.2.1) r3) fun y=>fo2 (vcj a.2.2) fun z=>(x,y,z)
theorem tauJ_rep {a:J3} {P:F2 × F2} (h:Rep tb (j3 a) P):Rep tb (j3 (tauJ a)) (tau P):=by
 have e:j3 (tauJ a)=(cjg (q2 a.1)*(ir*ir),cjg (q2 a.2.1)*(ir*ir*ir),cjg (q2 a.2.2)):=by
  have e1:j3 (tauJ a)=(q2 (tauJ a).1,q2 (tauJ a).2.1,q2 (tauJ a).2.2):=rfl
  rw[e1]
  simp only[tauJ,fo2_eq,q2_mul,q2_cj];rfl
 rw[e]
 rcases h with ⟨h1,rfl⟩|⟨h1,h2,h3,h4⟩
 ·refine .inl ⟨?_,tws_O hm_cj⟩
  show cjg (q2 a.2.2)=0
  have h1:q2 a.2.2=0:=h1
  rw[h1,hm_cj.zero]
 ·have h1:q2 a.2.2≠0:=h1
  have h2:q2 a.1=P.1*(q2 a.2.2*q2 a.2.2):=h2
  have h3:q2 a.2.1=P.2*(q2 a.2.2*(q2 a.2.2*q2 a.2.2)):=h3
  refine .inr ⟨fun z=>h1 (hm_cj.inj _ z),?_,?_,tws_on hm_cj tb_tau h4⟩
  ·show cjg (q2 a.1)*(ir*ir)=cjg P.1*(ir*ir)*(cjg (q2 a.2.2)*cjg (q2 a.2.2))
   rw[h2,hm_cj.mul,hm_cj.mul];exact tc_x _ _ _
  ·show cjg (q2 a.2.1)*(ir*ir*ir)=cjg P.2*(ir*ir*ir)*(cjg (q2 a.2.2)*(cjg (q2 a.2.2)*cjg (q2 a.2.2)))
   rw[h3,hm_cj.mul,hm_cj.mul,hm_cj.mul];exact tc_y _ _ _
def negJ (a:J3):J3:=fo2 (vneg a.2.1) fun y=>(a.1,y,a.2.2)
theorem negJ_rep {a:J3} {P:F2 × F2} (h:Rep tb (j3 a) P):Rep tb (j3 (negJ a)) (pneg P):=by
 have e:j3 (negJ a)=(q2 a.1,-q2 a.2.1,q2 a.2.2):=by
  have e1:j3 (negJ a)=(q2 (negJ a).1,q2 (negJ a).2.1,q2 (negJ a).2.2):=rfl
  rw[e1]
  simp only[negJ,fo2_eq,q2_neg]
 rw[e]
 rcases h with ⟨h1,rfl⟩|⟨h1,h2,h3,h4⟩
 ·exact .inl ⟨h1,pneg_O⟩
 ·have h3:q2 a.2.1=P.2*(q2 a.2.2*(q2 a.2.2*q2 a.2.2)):=h3
  refine .inr ⟨h1,h2,?_,pneg_on h4⟩
  show -q2 a.2.1=-P.2*(q2 a.2.2*(q2 a.2.2*q2 a.2.2))
  rw[h3];exact tc_n _ _
def addJ (a c:J3):J3:=evP2.jadd a c
theorem addJ_rep {a c:J3} {P Q:F2 × F2} (h:Rep tb (j3 a) P) (k:Rep tb (j3 c) Q):Rep tb (j3 (addJ a c)) (padd P Q):=by
 have e:j3 (addJ a c)=Cr.jadd (j3 a) (j3 c):=evP2.jadd_φ a c
 rw[e];exact rep_add tb_ne h k
theorem uN_lt:uN<2^760:=of_decide_eq_true (by kernel_rfl)
theorem hN_lt:hN<2^760:=of_decide_eq_true (by kernel_rfl)
def clJ (o:J3):J3:=fo6 (mj o uN) fun A=>fo6 (mj A uN) fun B=>fo6 (negJ (tauJ (addJ A o))) fun D=>fo6 (tauJ (tauJ (addJ o o))) fun E=>fo6 (negJ o) fun C =>
 fo6 (addJ D E) fun X=>fo6 (addJ C X) fun Y=>fo6 (addJ A Y) fun Z=>fo6 (addJ B Z) fun W=>fo6 (mj o hN) fun H=>addJ W (negJ H)
theorem clJ_rep {o:J3} {P:F2 × F2} (h:Rep tb (j3 o) P):Rep tb (j3 (clJ o)) (padd (clr' P) (pneg (nmul P hN))):=by
 have hA:=mj_rep h uN_lt
 have e:clJ o=addJ (addJ (mj (mj o uN) uN) (addJ (mj o uN) (addJ (negJ o) (addJ (negJ (tauJ (addJ (mj o uN) o))) (tauJ (tauJ (addJ o o))))))) (negJ (mj o hN)):=by
  unfold clJ;simp only[fo6_eq]
 rw[e]
 exact addJ_rep (addJ_rep (mj_rep hA uN_lt) (addJ_rep hA (addJ_rep (negJ_rep h) (addJ_rep (negJ_rep (tauJ_rep (addJ_rep hA h))) (tauJ_rep (tauJ_rep (addJ_rep h h))))))) (negJ_rep (mj_rep h hN_lt))
theorem cl_1:evP2.isz (clJ o1).2.2=true:=by kernel_rfl
theorem cl_2:evP2.isz (clJ o2).2.2=true:=by kernel_rfl
theorem eq_of_dif {P Q:F2 × F2} (oP:OnP tb P) (oQ:OnP tb Q) (h:padd P (pneg Q)=O2):P=Q:=by
 have c:=cancel' tb_ne oP (pneg_onP oQ)
 rw[h,O_add,pneg_pneg] at c
 exact c.symm
theorem clr_h {P:F2 × F2} (oP:OnP tb P):clr P=nmul P hN:=by
 rw[clr_eq]
 have oa:OnP tb T1:=.inr T1_on
 have ob:OnP tb T2:=.inr T2_on
 refine ad_clr.eq (ad_mul hN) ?_ ?_ oP
 ·exact eq_of_dif (ad_clr.on _ oa) (nmul_on tb_ne oa hN) ((rep_z (clJ_rep T1_rep)).1 cl_1)
 ·exact eq_of_dif (ad_clr.on _ ob) (nmul_on tb_ne ob hN) ((rep_z (clJ_rep T2_rep)).1 cl_2)
def rQ:Nat:=52435875175126190479447740508185965837690552500527637822603658699938581184513
theorem nmul_dvd {P:F2 × F2} (oP:OnP tb P) {m n:Nat} (h:nmul P m=O2) (hd:n%m=0):nmul P n=O2:=by
 obtain⟨s,rfl⟩:=Nat.dvd_of_mod_eq_zero hd
 rw[<- nmul_mul tb_ne oP,h,nmul_O]
theorem h_r {P:F2 × F2} (oP:OnP tb P):nmul (nmul P hN) rQ=O2:=by
 have oa:OnP tb T1:=.inr T1_on
 have ob:OnP tb T2:=.inr T2_on
 have z:Ad fun _=>(O2:F2 × F2):=⟨fun _ _=>.inl rfl,fun _ _ _ _=>(O_add _).symm⟩
 refine ((ad_mul rQ).comp (ad_mul hN)).eq z ?_ ?_ oP
 ·show nmul (nmul T1 hN) rQ=O2
  rw[nmul_mul tb_ne oa];exact nmul_dvd oa T1_k (of_decide_eq_true (by kernel_rfl))
 ·show nmul (nmul T2 hN) rQ=O2
  rw[nmul_mul tb_ne ob];exact nmul_dvd ob T2_k (of_decide_eq_true (by kernel_rfl))
end
end Cr
namespace Go.Proofs.YtbeeaekepmnfhaaGreatDoor.g2
open Go Go.Eng Go.RowKit Cr fp2 Rg Fd
def kR:Nat:=kN/rQ
theorem kN_r:kN=rQ*kR:=of_decide_eq_true (by kernel_rfl)
theorem rQ_pos:0<rQ:=of_decide_eq_true (by kernel_rfl)
theorem rQ_c:Nat.Coprime 299 rQ:=by
 show Nat.gcd 299 rQ=1
 exact of_decide_eq_true (by kernel_rfl)
noncomputable def R1:F2 × F2:=nmul T1 (kR*299)
theorem to_R {Q:F2 × F2} (oQ:OnP tb Q) (h:nmul Q rQ=O2):∃ s,Q=nmul R1 s:=by
 obtain⟨a,c,rfl⟩:=all_tw oQ
 have oa:OnP tb T1:=.inr T1_on
 have ob:OnP tb T2:=.inr T2_on
 rw[nmul_padd tb_ne (nmul_on tb_ne oa a) (nmul_on tb_ne ob c),nmul_mul tb_ne oa,nmul_mul tb_ne ob] at h
 obtain⟨⟨m,h1⟩,h2⟩:=T_ind (a*rQ) (c*rQ) h
 have h3:a=kR*299*m:=by
  refine Nat.eq_of_mul_eq_mul_right rQ_pos ?_
  rw[h1,kN_r];ac_rfl
 obtain⟨n,h4⟩:=Nat.Coprime.dvd_of_dvd_mul_right rQ_c h2
 have h5:nmul T2 c=O2:=by
  rw[h4,<- nmul_mul tb_ne ob,T2_k,nmul_O]
 exact⟨m,by rw[h5,add_O,h3,R1,nmul_mul tb_ne oa]⟩
theorem rQ_rN:rN=rQ:=rfl
theorem sub_R:Sub R1:=by
 have oa:OnP tb T1:=.inr T1_on
 refine⟨nmul_on tb_ne oa _,?_⟩
 rw[rQ_rN,R1,nmul_mul tb_ne oa]
 have e:kR*299*rQ=kN*299:=by rw[kN_r];ac_rfl
 rw[e];exact T1_k
theorem sub_as {Q:F2 × F2} (hQ:Sub Q):∃ s:Fr,Q=gmul R1 s:=by
 obtain⟨s,hs⟩:=to_R hQ.1 hQ.2
 exact⟨zm (s:Int),by rw[mul_of sub_R (x:=(zm (s:Int):Fr)) (m:=s) rfl];exact hs⟩
theorem cyc_r {Q:F2 × F2} (hQ:Sub Q):∃ c:Fr,Q=gmul gG c:=by
 obtain⟨t,ht⟩:=sub_as sub_G
 obtain⟨s,hs⟩:=sub_as hQ
 have h0:t≠0:=fun e=>by
  rw[e,mul_zero sub_R] at ht
  exact gG_ne ht
 refine⟨Fd.inv t*s,?_⟩
 have h1:gmul gG (Fd.inv t)=R1:=by
  rw[ht,<- mul_mul sub_R,Fd.mul_inv _ h0,mul_one sub_R]
 rw[mul_mul sub_G,h1,hs]
end Go.Proofs.YtbeeaekepmnfhaaGreatDoor.g2
namespace Go.Proofs.YtbeeaekepmnfhaaGreatDoor.part
open Go Go.Eng Go.RowKit Cr poly
theorem mxS_sub {h:F2 × F2} (hs:g2.Sub h) (ws:List Fr) (xs:List Int) (p:List Fr):∀ j,j<=xs.length->mxS ws (xs.map fun x=>g2.gmul h (pat p x)) j=g2.gmul h (mxR ws (xs.map (pat p)) j)
 | 0,_=>by show (0,0)=g2.gmul h 0;rw[g2.mul_zero hs]
 | j+1,hj=>by
  have hj:j<xs.length:=hj
  rw[mxS,mxR,mxS_sub hs ws xs p j (by omega),getD_map _ hj,getD_map _ hj,<- g2.mul_mul hs,g2.gadd_eq (g2.sub_gmul hs _).1 (g2.sub_gmul hs _).1,g2.mul_add hs]
theorem sig_join {h:F2 × F2} (hs:g2.Sub h) {xs:List Int} (h0:plE [] xs=0) {p:List Fr} (hp:p.length<=xs.length):mixS xs (xs.map fun x=>g2.gmul h (pat p x))=(g2.gmul h (pat p 0),0):=by
 have hm:=mix_ok h0 hp
 rw[mixR,if_pos (by simp),if_pos h0] at hm
 rw[mixS,if_pos (by simp),if_pos h0,mxS_sub hs _ _ _ _ (Nat.le_refl _),(Prod.mk.inj hm).1]
theorem plE_of:∀ (xs seen:List Int),(∀ x∈xs,memI x=true)->xs.Nodup->(∀ x∈xs,x∉seen)->plE seen xs=0
 | [],_,_,_,_=>rfl
 | x::xs,seen,h1,h2,h3=>by
  obtain⟨h4,h5⟩:=List.nodup_cons.1 h2
  have hx:=h1 x (List.mem_cons_self ..)
  simp[memI] at hx
  rw[plE,if_neg (by omega),if_neg (h3 x (List.mem_cons_self ..))]
  refine plE_of xs (x::seen) (fun y hy=>h1 y (List.mem_cons_of_mem _ hy)) h5 fun y hy hm=>?_
  rcases List.mem_cons.1 hm with rfl|hm
  ·exact h4 hy
  ·exact h3 y (List.mem_cons_of_mem _ hy) hm
theorem Ans.zero {l:List Int} (h:Ans l 0):(∀ x∈l,memI x=true)/\l.Nodup:=by
 rcases h with ⟨_,h⟩|⟨v,_,_,h⟩
 ·refine⟨fun x hx=>?_,List.nodup_iff_count.2 fun v=>?_⟩
  ·cases hm:memI x with
   | true=>rfl
   | false=>exact absurd ⟨hx,.inl hm⟩ (h x)
  ·refine Nat.le_of_lt_succ (Nat.lt_of_not_le fun hc=>?_)
   exact h v ⟨List.count_pos_iff.1 (by omega),.inr hc⟩
 ·exact absurd h.symm (kd_ne v)
noncomputable def prt (h:F2 × F2) (p:List Fr) (x:Int):PT:=(x,g2.gmul h (pat p x))
theorem jn_val {h:F2 × F2} (hs:g2.Sub h) (p:List Fr) (xs:List Int) {e:Int} (he:Ans xs e) :
  jn p.length (srtP (xs.map (prt h p)))=if e=0 then (if p.length=0\/xs.length<p.length then (z2,32,()) else (g2.gmul h (pat p 0),0,())) else (z2,e,()):=by
 have hpm:(srtP (xs.map (prt h p))).Perm (xs.map (prt h p)):=srtA_perm zP keyP _
 have hup:((srtP (xs.map (prt h p))).map keyP).Pairwise (· <= ·):=srtA_up zP keyP _
 have hmem:∀ y∈srtP (xs.map (prt h p)),y=prt h p (keyP y):=by
  intro y hy
  obtain⟨x,_,rfl⟩:=List.mem_map.1 (hpm.mem_iff.1 hy)
  rfl
 generalize srtP (xs.map (prt h p))=ss at *
 have hk:(ss.map keyP).Perm xs:=by
  have:=hpm.map keyP
  rw[List.map_map] at this
  have e:(keyP∘prt h p)=id:=by funext x;rfl
  rwa [e,List.map_id] at this
 have hss:ss=(ss.map keyP).map (prt h p):=by
  rw[List.map_map]
  conv=>lhs;rw[<- List.map_id ss]
  exact List.map_congr_left fun y hy=>hmem y hy
 have hA:Ans xs (scn none (ss.map keyP)):=(scn_ok hup).perm hk
 have hee:=hA.same he
 have hl:ss.length=xs.length:=by have:=hk.length_eq;rwa [List.length_map] at this
 rw[jn,hee,hl]
 by_cases h0:e=0
 ·rw[if_pos h0,if_pos h0]
  by_cases hc:p.length=0\/xs.length<p.length
  ·rw[if_pos hc,if_pos hc]
  ·rw[if_neg hc,if_neg hc]
   subst h0
   obtain⟨z1,z3⟩:=he.zero
   have hks:((ss.take p.length).map keyP)=(ss.map keyP).take p.length:=List.map_take ..
   have hsd:(ss.take p.length).map Prod.snd=((ss.map keyP).take p.length).map fun x=>g2.gmul h (pat p x):=by
    rw[<- List.map_take,List.map_map]
    exact List.map_congr_left fun y hy=>by rw[hmem y (List.mem_of_mem_take hy)];rfl
   have hpl:plE [] ((ss.map keyP).take p.length)=0:=by
    refine plE_of _ _ (fun x hx=>z1 x (hk.mem_iff.1 (List.mem_of_mem_take hx))) ?_ (fun x _ hx=>by cases hx)
    exact List.Nodup.sublist (List.take_sublist ..) (hk.nodup_iff.2 z3)
   rw[hks,hsd,sig_join hs hpl (by rw[List.length_take,List.length_map];omega)]
 ·rw[if_neg h0,if_neg h0]
noncomputable def jno (m:Nat) (ps:List PT):((Fp × Fp) × (Fp × Fp)) × Int × Unit:=opq (jn m (srtP ps))
theorem fo_join:FnOk Tryz.prog 17 [.sl pt1,.sl partK] [.val pt2,.val iK] noG preJoin (fun (c,ps,_)=>jno (List.length c) ps):=fn_join.out fun (c,ps,_)=>by show jno _ _=jn _ _;rw[jno,opq_eq]
noncomputable def soJoin:Nat × Eng.Spec:=(17,fnSpec [.sl pt1,.sl partK] [.val pt2,.val iK] preJoin (fun (c,ps,_)=>jno (List.length c) ps))
theorem jno_val {h:F2 × F2} (hs:g2.Sub h) (p:List Fr) (xs:List Int) {e:Int} (he:Ans xs e) :
  jno p.length (xs.map (prt h p))=if e=0 then (if p.length=0\/xs.length<p.length then (z2,32,()) else (g2.gmul h (pat p 0),0,())) else (z2,e,()):=by rw[jno,opq_eq,jn_val hs p xs he]
end Go.Proofs.YtbeeaekepmnfhaaGreatDoor.part
namespace Go.Proofs.YtbeeaekepmnfhaaGreatDoor.sha
noncomputable section
open Go Go.Eng Go.RowKit Cr
abbrev uK:Kd:=.int .u32
abbrev bK:Kd:=.int .u8
abbrev hashK:Kd:=.pair (.arr 8 uK) (.pair (.arr 64 bK) (.int .i64))
def firstL:List Int:=[1779033703,3144134277,1013904242,2773480762,1359893119,2600822924,528734635,1541459225]
def rootsL:List Int:=[1116352408,1899447441,3049323471,3921009573,961987163,1508970993,2453635748,2870763221,3624381080,310598401,607225278,1426881987,1925078388,2162078206,2614888103,3248222580,3835390401,4022224774,264347078,604807628,770255983,1249150122,1555081692,1996064986,2554220882,2821834349,2952996808,3210313671,3336571891,3584528711,113926993,338241895,666307205,773529912,1294757372,1396182291,1695183700,1986661051,2177026350,2456956037,2730485921,2820302411,3259730800,3345764771,3516065817,3600352804,4094571909,275423344,430227734,506948616,659060556,883997877,958139571,1322822218,1537002063,1747873779,1955562222,2024104815,2227730452,2361852424,2428436474,2756734187,3204031479,3329325298]
def shaG:Glob:=fun g=>if g=0 then some ⟨.arr 8 uK,firstL⟩ else if g=1 then some ⟨.arr 64 uK,rootsL⟩ else none
theorem ent_rot:enters Tryz.prog 211 Tryz.f211:=ek
def rotF (x k:Int):Int:=bitOp .or .u32 (IntKind.u32.wrap (x*2^min (bitOp .and .u64 (IntKind.u64.wrap k) 31).toNat IntKind.u32.bits)) (Int.fdiv x (2^min (IntKind.u64.wrap (32-bitOp .and .u64 (IntKind.u64.wrap k) 31)).toNat IntKind.u32.bits))
def rot (x k:Int):Int:=opq (rotF x k)
theorem wrap_nn (x:Int):0<=IntKind.u64.wrap x:=by
 simp only[IntKind.wrap,IntKind.signed,IntKind.bits]
 simp
 omega
theorem fn_rot:FnOk Tryz.prog 211 [uK,.int .i64] [.val uK] noG (fun _=>True) (fun (x,k,_)=>(rot x k,())):=by
 refine fn_of_vc (sp:=sps []) snl mixed ent_rot (by decide) (by decide) ?_
 rintro w M0 ⟨x,k,⟨⟩⟩
 revert x k
 intro (x:Int) (k:Int) _ _
 refine vcx (X:=((0:Int)<=bitOp BinOp.and IntKind.u64 (IntKind.u64.wrap k) (31:Int)/\(0:Int)<=IntKind.u64.wrap ((32:Int)-bitOp BinOp.and IntKind.u64 (IntKind.u64.wrap k) (31:Int))/\(bitOp BinOp.or IntKind.u32 (IntKind.u32.wrap (x*(2:Int)^min (bitOp BinOp.and IntKind.u64 (IntKind.u64.wrap k) (31:Int)).toNat IntKind.u32.bits)) (x.fdiv ((2:Int)^min (IntKind.u64.wrap ((32:Int)-bitOp BinOp.and IntKind.u64 (IntKind.u64.wrap k) (31:Int))).toNat IntKind.u32.bits)),())=(rot x k,()))) (by kernel_rfl) ?_
 refine⟨?_,?_,by show _=(rot x k,());rw[rot,opq_eq];rfl⟩
 ·have h:(0:Int)<=bitOp .and .u64 (IntKind.u64.wrap k) 31:=by
   show (0:Int)<=IntKind.u64.wrap _
   exact wrap_nn _
  exact h
 ·exact wrap_nn _
def spRot:Nat × Eng.Spec:=(211,fnSpec [uK,.int .i64] [.val uK] (fun _=>True) (fun (x,k,_)=>(rot x k,())))
theorem ent_take:enters Tryz.prog 198 Tryz.f198:=ek
abbrev TK:List Code:=codeOf Tryz.f198
def tkA (st rest p:List Int) (sz:Int) (g:Int × List Int):St:=mkSt Tryz.f198.ntmps 25 [(0,.is (.one (.ptr 0 0))),(3,.is (.one (.ptr 1 0))),(4,.is (.one (.ptr 9 0))),(23,sI .i64 g.1)] [(9,[.ints .u32 64 g.2]),(1,[.ints .u8 64 p]),(0,[.ints .u32 8 st,.ints .u8 64 rest,.v (.int .i64 sz)])]
def tkB (st rest p:List Int) (sz:Int) (i:Nat) (g:Int × List Int):St:=mkSt Tryz.f198.ntmps 25 [(0,.is (.one (.ptr 0 0))),(3,.is (.one (.ptr 1 0))),(4,.is (.one (.ptr 9 0))),(5,sI .i64 i),(23,sI .i64 i),(26,sI .i64 g.1)] [(9,[.ints .u32 64 g.2]),(1,[.ints .u8 64 p]),(0,[.ints .u32 8 st,.ints .u8 64 rest,.v (.int .i64 sz)])]
def wB (p:List Int) (i j:Nat) (w:List Int):List Int:=w.set i (bitOp .or .u32 (IntKind.u32.wrap (w.getD i 0*2^min (8:Nat) IntKind.u32.bits)) (IntKind.u32.wrap (p.getD (4*i+j) 0)))
def wBk (p:List Int) (i:Nat) (w:List Int):Nat->List Int
 | 0=>w
 | j+1=>wB p i j (wBk p i w j)
def wAk (p:List Int):Nat->List Int
 | 0=>List.replicate 64 0
 | i+1=>wBk p i (wAk p i) 4
theorem wBk_len (p:List Int) (i:Nat) (w:List Int):∀ j,(wBk p i w j).length=w.length
 | 0=>rfl
 | j+1=>by show (wB p i j _).length=_;rw[wB,List.length_set,wBk_len p i w j]
theorem wAk_len (p:List Int):∀ i,(wAk p i).length=64
 | 0=>List.length_replicate
 | i+1=>by show (wBk p i (wAk p i) 4).length=_;rw[wBk_len,wAk_len p i]
def tkC (st rest p:List Int) (sz:Int) (g:Int × List Int):St:=mkSt Tryz.f198.ntmps 25 [(0,.is (.one (.ptr 0 0))),(4,.is (.one (.ptr 9 0))),(45,sI .i64 g.1)] [(9,[.ints .u32 64 g.2]),(0,[.ints .u32 8 st,.ints .u8 64 rest,.v (.int .i64 sz)])]
def tkD (st rest p:List Int) (sz:Int) (w:List Int) (g:Int × List Int):St:=mkSt Tryz.f198.ntmps 81 [(0,.is (.one (.ptr 0 0))),(4,.is (.one (.ptr 9 0))),(12,.is (.one (.ptr 57 0))),(92,sI .i64 g.1)] [(57,[.ints .u32 8 g.2]),(9,[.ints .u32 64 w]),(0,[.ints .u32 8 st,.ints .u8 64 rest,.v (.int .i64 sz)])]
def sg0 (a:Int):Int:=bitOp .xor .u32 (bitOp .xor .u32 (rot a (-7)) (rot a (-18))) (a.fdiv (2^min (3:Nat) IntKind.u32.bits))
def sg1 (a:Int):Int:=bitOp .xor .u32 (bitOp .xor .u32 (rot a (-17)) (rot a (-19))) (a.fdiv (2^min (10:Nat) IntKind.u32.bits))
def wC (w:List Int) (i:Nat):List Int:=w.set (i+16) (IntKind.u32.wrap (IntKind.u32.wrap (IntKind.u32.wrap (w.getD i 0+sg0 (w.getD (i+1) 0))+w.getD (i+9) 0)+sg1 (w.getD (i+14) 0)))
def wCk (w:List Int):Nat->List Int
 | 0=>w
 | i+1=>wC (wCk w i) i
theorem wCk_len (w:List Int):∀ i,(wCk w i).length=w.length
 | 0=>rfl
 | i+1=>by show (wC _ i).length=_;rw[wC,List.length_set,wCk_len w i]
def tkE (rest:List Int) (sz:Int) (w v:List Int) (g:Int × List Int):St:=mkSt Tryz.f198.ntmps 81 [(0,.is (.one (.ptr 0 0))),(12,.is (.one (.ptr 57 0))),(172,sI .i64 g.1)] [(57,[.ints .u32 8 v]),(0,[.ints .u32 8 g.2,.ints .u8 64 rest,.v (.int .i64 sz)])]
theorem eight:∀ {v:List Int},v.length=8->∃ a b c d e f g h,v=[a,b,c,d,e,f,g,h]
 | [a,b,c,d,e,f,g,h],_=>⟨a,b,c,d,e,f,g,h,rfl⟩
def rT (w:List Int) (e f g h:Int) (i:Nat):Int:=IntKind.u32.wrap (IntKind.u32.wrap (h+bitOp .xor .u32 (bitOp .xor .u32 (rot e (-6)) (rot e (-11))) (rot e (-25)))+IntKind.u32.wrap (IntKind.u32.wrap (bitOp .xor .u32 (bitOp .and .u32 e f) (bitOp .and .u32 (bitOp .xor .u32 (if IntKind.u32.signed=true then (-1:Int) else IntKind.u32.max) e) g)+rootsL.getD i 0)+w.getD i 0))
def rU (a b c:Int):Int:=IntKind.u32.wrap (bitOp .xor .u32 (bitOp .xor .u32 (rot a (-2)) (rot a (-13))) (rot a (-22))+bitOp .xor .u32 (bitOp .xor .u32 (bitOp .and .u32 a b) (bitOp .and .u32 a c)) (bitOp .and .u32 b c))
def vC (w:List Int):List Int->Nat->List Int
 | [a,b,c,d,e,f,g,h],i=>[IntKind.u32.wrap (rT w e f g h i+rU a b c),a,b,c,IntKind.u32.wrap (d+rT w e f g h i),e,f,g]
 | v,_=>v
def vCk (w v:List Int):Nat->List Int
 | 0=>v
 | i+1=>vC w (vCk w v i) i
theorem vCk_len (w:List Int) {v:List Int} (hv:v.length=8):∀ i,(vCk w v i).length=8
 | 0=>hv
 | i+1=>by
  obtain⟨a,b,c,d,e,f,g,h,e1⟩:=eight (vCk_len w hv i)
  show (vC w (vCk w v i) i).length=8
  rw[e1];rfl
def fCk (v s:List Int):Nat->List Int
 | 0=>s
 | i+1=>(fCk v s i).set i (IntKind.u32.wrap ((fCk v s i).getD i 0+v.getD i 0))
def takeF (st p:List Int):List Int:=fCk (vCk (wCk (wAk p 16) 48) st 64) st 8
def tko (st p:List Int):List Int:=opq (takeF st p)
theorem fn_take:FnOkP Tryz.prog 198 hashK [.arr 64 bK] [] shaG (fun _=>True) (fun ((st,rest,sz),p,_)=>((tko st p,rest,sz),())):=by
 have hsp:SpecsOk Tryz.prog (sps [spRot]):=spk (fok fn_rot) snl
 refine fn_of_trP (sp:=sps [spRot]) ent_take (by decide) (by decide) (by kernel_rfl) ?_
 rintro w M0 b0 ⟨st,rest,sz⟩ ⟨p,⟨⟩⟩
 revert st rest sz p
 intro (st:List Int) (rest:List Int) (sz:Int) (p:List Int) hw hw2 _
 have hst:st.length=8:=hw.1.1
 have hp:p.length=64:=hw2.1.1
 show Tr _ _ _ _ _ _ _
 refine tr_cut hsp mixed 3 (tkA st rest p sz (0,List.replicate 64 0)) True ?_ (fun _=>?_)
 ·refine vcx (X:=((tkA st rest p sz ((0:Int),List.replicate (64:Nat) (0:Int))).triv True)) (by kernel_rfl) ?_
  exact tvi trivial
 refine tr_whileT noSw (fun σ=>(rdS (.int .i64) 23 σ,rdR uK 9 σ)) (tkA st rest p sz) (fun g=>∃ k:Nat,k<=16/\g.1=(k:Int)/\g.2=wAk p k) (fun g=>16-g.1.toNat)
  (fun σ=>(rdS (.int .i64) 23 σ,rdR uK 9 σ)) (tkA st rest p sz) (fun g=>g.2=wAk p 16) (0,List.replicate 64 0) (c:=nthC TK 3) (by kernel_rfl) (by kernel_rfl) (le_of_proj (by kernel_rfl) (by kernel_rfl) ?_) ?_ ?_
 ·exact⟨0,by decide,rfl,rfl⟩
 ·rintro⟨i,wl⟩ hj
  revert i wl
  intro (i:Int) (wl:List Int) ⟨k,hk,ei,ew⟩
  have ei:i=(k:Int):=ei
  have kw:wl=wAk p k:=ew
  subst ei
  refine tr_cut hsp mixed 2 (tkA st rest p sz ((k:Int),wl)) (k<16) ?_ (fun hlt=>?_)
  ·refine vcx (X:=((decide ((↑k:Int)<(16:Int))=true->(tkA st rest p sz ((↑k:Int),wl)).triv (k<(16:Nat)))/\(decide ((↑k:Int)<(16:Int))=false->(tkA st rest p sz ((↑k:Int),wl)).triv (wl=wAk p (16:Nat))))) (by kernel_rfl) ?_
   refine⟨fun h=>tvi (by have:=of_decide_eq_true h;omega),fun h=>tvi ?_⟩
   have:k=16:=by have:=of_decide_eq_false h;omega
   rw[kw,this]
  refine tr_block (c:=nthC (loopOf (nthC (codeOf Tryz.f198) 3)) 2) (by kernel_rfl) (by kernel_rfl) ?_
  refine tr_cut hsp mixed 2 (tkB st rest p sz k (0,wl)) True ?_ (fun _=>?_)
  ·refine vcx (X:=((tkB st rest p sz k ((0:Int),wl)).triv True)) (by kernel_rfl) ?_
   exact tvi trivial
  refine tr_while hsp mixed noSw (fun σ=>(rdS (.int .i64) 26 σ,rdR uK 9 σ)) (tkB st rest p sz k) (fun g=>∃ j:Nat,j<=4/\g.1=(j:Int)/\g.2=wBk p k wl j) (fun g=>4-g.1.toNat)
   (fun σ=>rdR uK 9 σ) (fun w=>tkA st rest p sz ((k:Int),w)) (fun w=>w=wBk p k wl 4) (0,wl) (c:=nthC (bodyOf (nthC (loopOf (nthC (codeOf Tryz.f198) 3)) 2)) 2) (by kernel_rfl) (by kernel_rfl) (le_of_proj (by kernel_rfl) (by kernel_rfl) ?_) ?_ ?_
  ·exact⟨0,by decide,rfl,rfl⟩
  ·rintro⟨j,wj⟩ hj
   revert j wj
   intro (j:Int) (wj:List Int) ⟨t,ht,ej,ewj⟩
   have ej:j=(t:Int):=ej
   have kwj:wj=wBk p k wl t:=ewj
   subst ej
   refine vcx (X:=((decide ((↑t:Int)<(4:Int))=true->((0:Int)<=(↑k:Int)/\(↑k:Int)<(↑(64:Nat):Int))/\(↑k:Int).toNat<(64:Nat)/\(0:Int)<=(8:Int)/\((0:Int)<=IntKind.i64.wrap (IntKind.i64.wrap ((4:Int)*(↑k:Int))+(↑t:Int))/\IntKind.i64.wrap (IntKind.i64.wrap ((4:Int)*(↑k:Int))+(↑t:Int))<(↑(64:Nat):Int))/\(IntKind.i64.wrap (IntKind.i64.wrap ((4:Int)*(↑k:Int))+(↑t:Int))).toNat<(64:Nat)/\((0:Int)<=(↑k:Int)/\(↑k:Int)<(↑(64:Nat):Int))/\(↑k:Int).toNat<(64:Nat)/\(tkB st rest p sz k (IntKind.i64.wrap ((↑t:Int)+(1:Int)),wj.set (↑k:Int).toNat (bitOp BinOp.or IntKind.u32 (IntKind.u32.wrap (wj.getD (↑k:Int).toNat (0:Int)*(2:Int)^min (8:Nat) IntKind.u32.bits)) (IntKind.u32.wrap (p.getD (IntKind.i64.wrap (IntKind.i64.wrap ((4:Int)*(↑k:Int))+(↑t:Int))).toNat (0:Int)))))).triv ((∃ j,j<=(4:Nat)/\IntKind.i64.wrap ((↑t:Int)+(1:Int))=(↑j:Int)/\wj.set (↑k:Int).toNat (bitOp BinOp.or IntKind.u32 (IntKind.u32.wrap (wj.getD (↑k:Int).toNat (0:Int)*(2:Int)^min (8:Nat) IntKind.u32.bits)) (IntKind.u32.wrap (p.getD (IntKind.i64.wrap (IntKind.i64.wrap ((4:Int)*(↑k:Int))+(↑t:Int))).toNat (0:Int))))=wBk p k wl j)/\(4:Nat)-(IntKind.i64.wrap ((↑t:Int)+(1:Int))).toNat<(4:Nat)-(↑t:Int).toNat))/\(decide ((↑t:Int)<(4:Int))=false->(tkA st rest p sz ((↑k:Int),wj)).triv (wj=wBk p k wl (4:Nat))))) (by kernel_rfl) ?_
   refine⟨fun h=>?_,fun h=>tvi ?_⟩
   ·have h4:t<4:=by have:=of_decide_eq_true h;omega
    have e1:IntKind.i64.wrap (IntKind.i64.wrap ((4:Int)*(k:Int))+(t:Int))=((4*k+t:Nat):Int):=by
     rw[wrap_i64' (a:=4*(k:Int)) (by omega) (by omega),wrap_i64' (by omega) (by omega)];omega
    rw[e1,wrap_succ (by omega),Int.toNat_natCast,Int.toNat_natCast]
    exact⟨⟨by omega,by omega⟩,by omega,by decide,⟨by omega,by omega⟩,by omega,⟨by omega,by omega⟩,by omega,tvi ⟨⟨t+1,h4,rfl,by rw[kwj];rfl⟩,by rw[Int.toNat_natCast,Int.toNat_natCast];omega⟩⟩
   ·have:t=4:=by have:=of_decide_eq_false h;omega
    rw[kwj,this]
  intro (w':List Int) (hw':w'=wBk p k wl 4)
  refine tr_nil ?_
  refine tr_vc hsp mixed _ _ ?_
  refine vcx (X:=((tkA st rest p sz (IntKind.i64.wrap ((↑k:Int)+(1:Int)),w')).triv ((∃ k_1,k_1<=(16:Nat)/\IntKind.i64.wrap ((↑k:Int)+(1:Int))=(↑k_1:Int)/\w'=wAk p k_1)/\(16:Nat)-(IntKind.i64.wrap ((↑k:Int)+(1:Int))).toNat<(16:Nat)-(↑k:Int).toNat))) (by kernel_rfl) ?_
  rw[wrap_succ (by omega)]
  exact tvi ⟨⟨k+1,hlt,rfl,by rw[hw',kw];rfl⟩,by rw[Int.toNat_natCast,Int.toNat_natCast];omega⟩
 rintro⟨i1,w1⟩ hw1
 revert i1 w1
 intro (i1:Int) (w1:List Int) (hw1:w1=wAk p 16)
 have hw1l:w1.length=64:=by rw[hw1,wAk_len]
 refine tr_cut hsp mixed 1 (tkC st rest p sz (0,w1)) True ?_ (fun _=>?_)
 ·refine vcx (X:=((tkC st rest p sz ((0:Int),w1)).triv True)) (by kernel_rfl) ?_
  exact tvi trivial
 refine tr_while hsp mixed noSw (fun σ=>(rdS (.int .i64) 45 σ,rdR uK 9 σ)) (tkC st rest p sz) (fun g=>∃ j:Nat,j<=48/\g.1=(j:Int)/\g.2=wCk w1 j) (fun g=>48-g.1.toNat)
  (fun σ=>(rdS (.int .i64) 45 σ,rdR uK 9 σ)) (tkC st rest p sz) (fun g=>g.2=wCk w1 48) (0,w1) (c:=nthC (codeOf Tryz.f198) 5) (by kernel_rfl) (by kernel_rfl) (le_of_proj (by kernel_rfl) (by kernel_rfl) ?_) ?_ ?_
 ·exact⟨0,by decide,rfl,rfl⟩
 ·rintro⟨j,wj⟩ hj
  revert j wj
  intro (j:Int) (wj:List Int) ⟨t,ht,ej,ewj⟩
  have ej:j=(t:Int):=ej
  have kwj:wj=wCk w1 t:=ewj
  subst ej
  refine vcx (X:=((decide ((↑t:Int)<(48:Int))=true->((0:Int)<=IntKind.i64.wrap ((↑t:Int)+(1:Int))/\IntKind.i64.wrap ((↑t:Int)+(1:Int))<(↑(64:Nat):Int))/\(IntKind.i64.wrap ((↑t:Int)+(1:Int))).toNat<(64:Nat)/\((0:Int)<=IntKind.i64.wrap ((↑t:Int)+(14:Int))/\IntKind.i64.wrap ((↑t:Int)+(14:Int))<(↑(64:Nat):Int))/\(IntKind.i64.wrap ((↑t:Int)+(14:Int))).toNat<(64:Nat)/\True/\True/\(0:Int)<=(3:Int)/\True/\True/\(0:Int)<=(10:Int)/\((0:Int)<=(↑t:Int)/\(↑t:Int)<(↑(64:Nat):Int))/\(↑t:Int).toNat<(64:Nat)/\((0:Int)<=IntKind.i64.wrap ((↑t:Int)+(9:Int))/\IntKind.i64.wrap ((↑t:Int)+(9:Int))<(↑(64:Nat):Int))/\(IntKind.i64.wrap ((↑t:Int)+(9:Int))).toNat<(64:Nat)/\((0:Int)<=IntKind.i64.wrap ((↑t:Int)+(16:Int))/\IntKind.i64.wrap ((↑t:Int)+(16:Int))<(↑(64:Nat):Int))/\(IntKind.i64.wrap ((↑t:Int)+(16:Int))).toNat<(64:Nat)/\(tkC st rest p sz (IntKind.i64.wrap ((↑t:Int)+(1:Int)),wj.set (IntKind.i64.wrap ((↑t:Int)+(16:Int))).toNat (IntKind.u32.wrap (IntKind.u32.wrap (IntKind.u32.wrap (wj.getD (↑t:Int).toNat (0:Int)+bitOp BinOp.xor IntKind.u32 (bitOp BinOp.xor IntKind.u32 (rot (wj.getD (IntKind.i64.wrap ((↑t:Int)+(1:Int))).toNat (0:Int)) (-7:Int),()).fst (rot (wj.getD (IntKind.i64.wrap ((↑t:Int)+(1:Int))).toNat (0:Int)) (-18:Int),()).fst) ((wj.getD (IntKind.i64.wrap ((↑t:Int)+(1:Int))).toNat (0:Int)).fdiv ((2:Int)^min (3:Nat) IntKind.u32.bits)))+wj.getD (IntKind.i64.wrap ((↑t:Int)+(9:Int))).toNat (0:Int))+bitOp BinOp.xor IntKind.u32 (bitOp BinOp.xor IntKind.u32 (rot (wj.getD (IntKind.i64.wrap ((↑t:Int)+(14:Int))).toNat (0:Int)) (-17:Int),()).fst (rot (wj.getD (IntKind.i64.wrap ((↑t:Int)+(14:Int))).toNat (0:Int)) (-19:Int),()).fst) ((wj.getD (IntKind.i64.wrap ((↑t:Int)+(14:Int))).toNat (0:Int)).fdiv ((2:Int)^min (10:Nat) IntKind.u32.bits)))))).triv ((∃ j,j<=(48:Nat)/\IntKind.i64.wrap ((↑t:Int)+(1:Int))=(↑j:Int)/\wj.set (IntKind.i64.wrap ((↑t:Int)+(16:Int))).toNat (IntKind.u32.wrap (IntKind.u32.wrap (IntKind.u32.wrap (wj.getD (↑t:Int).toNat (0:Int)+bitOp BinOp.xor IntKind.u32 (bitOp BinOp.xor IntKind.u32 (rot (wj.getD (IntKind.i64.wrap ((↑t:Int)+(1:Int))).toNat (0:Int)) (-7:Int)) (rot (wj.getD (IntKind.i64.wrap ((↑t:Int)+(1:Int))).toNat (0:Int)) (-18:Int))) ((wj.getD (IntKind.i64.wrap ((↑t:Int)+(1:Int))).toNat (0:Int)).fdiv ((2:Int)^min (3:Nat) IntKind.u32.bits)))+wj.getD (IntKind.i64.wrap ((↑t:Int)+(9:Int))).toNat (0:Int))+bitOp BinOp.xor IntKind.u32 (bitOp BinOp.xor IntKind.u32 (rot (wj.getD (IntKind.i64.wrap ((↑t:Int)+(14:Int))).toNat (0:Int)) (-17:Int)) (rot (wj.getD (IntKind.i64.wrap ((↑t:Int)+(14:Int))).toNat (0:Int)) (-19:Int))) ((wj.getD (IntKind.i64.wrap ((↑t:Int)+(14:Int))).toNat (0:Int)).fdiv ((2:Int)^min (10:Nat) IntKind.u32.bits))))=wCk w1 j)/\(48:Nat)-(IntKind.i64.wrap ((↑t:Int)+(1:Int))).toNat<(48:Nat)-(↑t:Int).toNat))/\(decide ((↑t:Int)<(48:Int))=false->(tkC st rest p sz ((↑t:Int),wj)).triv (wj=wCk w1 (48:Nat))))) (by kernel_rfl) ?_
  refine⟨fun h=>?_,fun h=>tvi ?_⟩
  ·have h4:t<48:=by have:=of_decide_eq_true h;omega
   have e1:∀ m:Nat,m<20->IntKind.i64.wrap ((t:Int)+(m:Int))=((t+m:Nat):Int):=fun m hm=>by
    rw[wrap_i64' (by omega) (by omega)];omega
   have e1a:IntKind.i64.wrap ((t:Int)+1)=((t+1:Nat):Int):=e1 1 (by decide)
   have e1b:IntKind.i64.wrap ((t:Int)+9)=((t+9:Nat):Int):=e1 9 (by decide)
   have e1c:IntKind.i64.wrap ((t:Int)+14)=((t+14:Nat):Int):=e1 14 (by decide)
   have e1d:IntKind.i64.wrap ((t:Int)+16)=((t+16:Nat):Int):=e1 16 (by decide)
   rw[e1a,e1b,e1c,e1d]
   simp only[Int.toNat_natCast]
   exact⟨⟨by omega,by omega⟩,by omega,⟨by omega,by omega⟩,by omega,trivial,trivial,by decide,trivial,trivial,by decide,⟨by omega,by omega⟩,by omega,⟨by omega,by omega⟩,by omega,⟨by omega,by omega⟩,by omega,tvi ⟨⟨t+1,h4,rfl,by rw[kwj];rfl⟩,by omega⟩⟩
  ·have:t=48:=by have:=of_decide_eq_false h;omega
   rw[kwj,this]
 rintro⟨i2,w2⟩ hw2
 revert i2 w2
 intro (i2:Int) (w2:List Int) (hw2':w2=wCk w1 48)
 refine tr_cut hsp mixed 2 (tkD st rest p sz w2 (0,st)) True ?_ (fun _=>?_)
 ·refine vcx (X:=((tkD st rest p sz w2 ((0:Int),st)).triv True)) (by kernel_rfl) ?_
  exact tvi trivial
 have hw2l:w2.length=64:=by rw[hw2',wCk_len,hw1l]
 refine tr_while hsp mixed noSw (fun σ=>(rdS (.int .i64) 92 σ,rdR uK 57 σ)) (tkD st rest p sz w2) (fun g=>∃ j:Nat,j<=64/\g.1=(j:Int)/\g.2=vCk w2 st j) (fun g=>64-g.1.toNat)
  (fun σ=>(rdS (.int .i64) 92 σ,rdR uK 57 σ)) (tkD st rest p sz w2) (fun g=>g.2=vCk w2 st 64) (0,st) (c:=nthC (codeOf Tryz.f198) 8) (by kernel_rfl) (by kernel_rfl) (le_of_proj (by kernel_rfl) (by kernel_rfl) ?_) ?_ ?_
 ·exact⟨0,by decide,rfl,rfl⟩
 ·rintro⟨j,v⟩ hj
  revert j v
  intro (j:Int) (v:List Int) ⟨t,ht,ej,ev⟩
  have ej:j=(t:Int):=ej
  have kv:v=vCk w2 st t:=ev
  subst ej
  have hvl:v.length=8:=by rw[kv,vCk_len _ hst]
  obtain⟨a,b,c,d,e,f,g,h,rfl⟩:=eight hvl
  refine vcx (X:=((decide ((↑t:Int)<(64:Int))=true->True/\True/\True/\((0:Int)<=(↑t:Int)/\(↑t:Int)<(↑(64:Nat):Int))/\(↑t:Int).toNat<rootsL.length/\((0:Int)<=(↑t:Int)/\(↑t:Int)<(↑(64:Nat):Int))/\(↑t:Int).toNat<(64:Nat)/\True/\True/\True/\(tkD st rest p sz w2 (IntKind.i64.wrap ((↑t:Int)+(1:Int)),[IntKind.u32.wrap (IntKind.u32.wrap (IntKind.u32.wrap (h+bitOp BinOp.xor IntKind.u32 (bitOp BinOp.xor IntKind.u32 (rot e (-6:Int),()).fst (rot e (-11:Int),()).fst) (rot e (-25:Int),()).fst)+IntKind.u32.wrap (IntKind.u32.wrap (bitOp BinOp.xor IntKind.u32 (bitOp BinOp.and IntKind.u32 e f) (bitOp BinOp.and IntKind.u32 (bitOp BinOp.xor IntKind.u32 (if IntKind.u32.signed=true then (-1:Int) else IntKind.u32.max) e) g)+rootsL.getD (↑t:Int).toNat (0:Int))+w2.getD (↑t:Int).toNat (0:Int)))+IntKind.u32.wrap (bitOp BinOp.xor IntKind.u32 (bitOp BinOp.xor IntKind.u32 (rot a (-2:Int),()).fst (rot a (-13:Int),()).fst) (rot a (-22:Int),()).fst+bitOp BinOp.xor IntKind.u32 (bitOp BinOp.xor IntKind.u32 (bitOp BinOp.and IntKind.u32 a b) (bitOp BinOp.and IntKind.u32 a c)) (bitOp BinOp.and IntKind.u32 b c))),a,b,c,IntKind.u32.wrap (d+IntKind.u32.wrap (IntKind.u32.wrap (h+bitOp BinOp.xor IntKind.u32 (bitOp BinOp.xor IntKind.u32 (rot e (-6:Int),()).fst (rot e (-11:Int),()).fst) (rot e (-25:Int),()).fst)+IntKind.u32.wrap (IntKind.u32.wrap (bitOp BinOp.xor IntKind.u32 (bitOp BinOp.and IntKind.u32 e f) (bitOp BinOp.and IntKind.u32 (bitOp BinOp.xor IntKind.u32 (if IntKind.u32.signed=true then (-1:Int) else IntKind.u32.max) e) g)+rootsL.getD (↑t:Int).toNat (0:Int))+w2.getD (↑t:Int).toNat (0:Int)))),e,f,g])).triv ((∃ j,j<=(64:Nat)/\IntKind.i64.wrap ((↑t:Int)+(1:Int))=(↑j:Int)/\[IntKind.u32.wrap (IntKind.u32.wrap (IntKind.u32.wrap (h+bitOp BinOp.xor IntKind.u32 (bitOp BinOp.xor IntKind.u32 (rot e (-6:Int)) (rot e (-11:Int))) (rot e (-25:Int)))+IntKind.u32.wrap (IntKind.u32.wrap (bitOp BinOp.xor IntKind.u32 (bitOp BinOp.and IntKind.u32 e f) (bitOp BinOp.and IntKind.u32 (bitOp BinOp.xor IntKind.u32 (if IntKind.u32.signed=true then (-1:Int) else IntKind.u32.max) e) g)+rootsL.getD (↑t:Int).toNat (0:Int))+w2.getD (↑t:Int).toNat (0:Int)))+IntKind.u32.wrap (bitOp BinOp.xor IntKind.u32 (bitOp BinOp.xor IntKind.u32 (rot a (-2:Int)) (rot a (-13:Int))) (rot a (-22:Int))+bitOp BinOp.xor IntKind.u32 (bitOp BinOp.xor IntKind.u32 (bitOp BinOp.and IntKind.u32 a b) (bitOp BinOp.and IntKind.u32 a c)) (bitOp BinOp.and IntKind.u32 b c))),a,b,c,IntKind.u32.wrap (d+IntKind.u32.wrap (IntKind.u32.wrap (h+bitOp BinOp.xor IntKind.u32 (bitOp BinOp.xor IntKind.u32 (rot e (-6:Int)) (rot e (-11:Int))) (rot e (-25:Int)))+IntKind.u32.wrap (IntKind.u32.wrap (bitOp BinOp.xor IntKind.u32 (bitOp BinOp.and IntKind.u32 e f) (bitOp BinOp.and IntKind.u32 (bitOp BinOp.xor IntKind.u32 (if IntKind.u32.signed=true then (-1:Int) else IntKind.u32.max) e) g)+rootsL.getD (↑t:Int).toNat (0:Int))+w2.getD (↑t:Int).toNat (0:Int)))),e,f,g]=vCk w2 st j)/\(64:Nat)-(IntKind.i64.wrap ((↑t:Int)+(1:Int))).toNat<(64:Nat)-(↑t:Int).toNat))/\(decide ((↑t:Int)<(64:Int))=false->(tkD st rest p sz w2 ((↑t:Int),[a,b,c,d,e,f,g,h])).triv ([a,b,c,d,e,f,g,h]=vCk w2 st (64:Nat))))) (by kernel_rfl) ?_
  refine⟨fun h'=>?_,fun h'=>tvi ?_⟩
  ·have h4:t<64:=by have:=of_decide_eq_true h';omega
   have hrl:rootsL.length=64:=rfl
   rw[wrap_succ (by omega),Int.toNat_natCast]
   exact⟨trivial,trivial,trivial,⟨by omega,by omega⟩,by omega,⟨by omega,by omega⟩,by omega,trivial,trivial,trivial,tvi ⟨⟨t+1,h4,rfl,by show _=vC w2 (vCk w2 st t) t;rw[<- kv];rfl⟩,by rw[Int.toNat_natCast];omega⟩⟩
  ·have:t=64:=by have:=of_decide_eq_false h';omega
   rw[kv,this]
 rintro⟨i3,v⟩ hv
 revert i3 v
 intro (i3:Int) (v:List Int) (hv:v=vCk w2 st 64)
 refine tr_cut hsp mixed 1 (tkE rest sz w2 v (0,st)) True ?_ (fun _=>?_)
 ·refine vcx (X:=((tkE rest sz w2 v ((0:Int),st)).triv True)) (by kernel_rfl) ?_
  exact tvi trivial
 refine tr_while hsp mixed noSw (fun σ=>(rdS (.int .i64) 172 σ,(rdB hashK 0 σ).1)) (tkE rest sz w2 v) (fun g=>∃ j:Nat,j<=8/\g.1=(j:Int)/\g.2=fCk v st j) (fun g=>8-g.1.toNat)
  (fun σ=>(rdS (.int .i64) 172 σ,(rdB hashK 0 σ).1)) (tkE rest sz w2 v) (fun g=>g.2=fCk v st 8) (0,st) (c:=nthC (codeOf Tryz.f198) 10) (by kernel_rfl) (by kernel_rfl) (le_of_proj (by kernel_rfl) (by kernel_rfl) ?_) ?_ ?_
 ·exact⟨0,by decide,rfl,rfl⟩
 ·rintro⟨j,s⟩ hj
  revert j s
  intro (j:Int) (s:List Int) ⟨t,ht,ej,es⟩
  have ej:j=(t:Int):=ej
  have ks:s=fCk v st t:=es
  subst ej
  refine vcx (X:=((decide ((↑t:Int)<(8:Int))=true->((0:Int)<=(↑t:Int)/\(↑t:Int)<(↑(8:Nat):Int))/\(↑t:Int).toNat<(8:Nat)/\((0:Int)<=(↑t:Int)/\(↑t:Int)<(↑(8:Nat):Int))/\(↑t:Int).toNat<(8:Nat)/\((0:Int)<=(↑t:Int)/\(↑t:Int)<(↑(8:Nat):Int))/\(↑t:Int).toNat<(8:Nat)/\(tkE rest sz w2 v (IntKind.i64.wrap ((↑t:Int)+(1:Int)),(s.set (↑t:Int).toNat (IntKind.u32.wrap (s.getD (↑t:Int).toNat (0:Int)+v.getD (↑t:Int).toNat (0:Int))),rest,sz).fst)).triv ((∃ j,j<=(8:Nat)/\IntKind.i64.wrap ((↑t:Int)+(1:Int))=(↑j:Int)/\s.set (↑t:Int).toNat (IntKind.u32.wrap (s.getD (↑t:Int).toNat (0:Int)+v.getD (↑t:Int).toNat (0:Int)))=fCk v st j)/\(8:Nat)-(IntKind.i64.wrap ((↑t:Int)+(1:Int))).toNat<(8:Nat)-(↑t:Int).toNat))/\(decide ((↑t:Int)<(8:Int))=false->(tkE rest sz w2 v ((↑t:Int),(s,rest,sz).fst)).triv (s=fCk v st (8:Nat))))) (by kernel_rfl) ?_
  refine⟨fun h=>?_,fun h=>tvi ?_⟩
  ·have h4:t<8:=by have:=of_decide_eq_true h;omega
   rw[wrap_succ (by omega),Int.toNat_natCast]
   exact⟨⟨by omega,by omega⟩,h4,⟨by omega,by omega⟩,h4,⟨by omega,by omega⟩,h4,tvi ⟨⟨t+1,h4,rfl,by rw[ks];rfl⟩,by rw[Int.toNat_natCast];omega⟩⟩
  ·have:t=8:=by have:=of_decide_eq_false h;omega
   rw[ks,this]
 rintro⟨i4,s⟩ hs
 revert i4 s
 intro (i4:Int) (s:List Int) (hs:s=fCk v st 8)
 refine tr_vc hsp mixed _ _ ?_
 refine vcx (X:=(((s,rest,sz),())=((tko st p,rest,sz),()))) (by kernel_rfl) ?_
 show ((s,rest,sz),())=((tko st p,rest,sz),())
 rw[hs,hv,hw2',hw1,tko,opq_eq,takeF]
def spTake:Nat × Eng.Spec:=(198,fnSpecPG shaG hashK [.arr 64 bK] [] (fun _=>True) (fun ((st,rest,sz),p,_)=>((tko st p,rest,sz),())))
end
end Go.Proofs.YtbeeaekepmnfhaaGreatDoor.sha
namespace Cr
section
variable (tk:List Int->List Int->List Int) (first:List Int)
def absK (st b:List Int):Nat->List Int
 | 0=>st
 | k+1=>tk (absK st b k) ((b.drop (64*k)).take 64)
theorem absK_pre (st X Y:List Int):∀ j,64*j<=X.length->absK tk st (X++Y) j=absK tk st X j
 | 0,_=>rfl
 | j+1,h=>by
  show tk _ _=tk _ _
  rw[absK_pre st X Y j (by omega),List.drop_append_of_le_length (by omega),List.take_append_of_le_length (by rw[List.length_drop];omega)]
theorem absK_app (st X Y:List Int) (k:Nat) (hk:X.length=64*k):∀ j,absK tk st (X++Y) (k+j)=absK tk (absK tk st X k) Y j
 | 0=>absK_pre tk st X Y k (by omega)
 | j+1=>by
  show tk (absK tk st (X++Y) (k+j)) _=tk _ _
  rw[absK_app st X Y k hk j]
  congr 2
  have hkj:X.length<=64*(k+j):=by omega
  rw[show k.add j=k+j from rfl,List.drop_append,List.drop_eq_nil_of_le hkj,List.nil_append]
  congr 1;omega
def tailOf (L:List Int):List Int:=L.drop (64*(L.length/64))
def Hs (L:List Int):List Int:=absK tk first L (L.length/64)
theorem tailOf_len (L:List Int):(tailOf L).length=L.length%64:=by rw[tailOf,List.length_drop];omega
theorem tailOf_app (X Y:List Int) (k:Nat) (hk:X.length=64*k):tailOf (X++Y)=tailOf Y:=by
 rw[tailOf,tailOf,List.length_append,List.drop_append,List.drop_eq_nil_of_le (by omega),List.nil_append]
 congr 1;omega
theorem Hs_app (X Y:List Int) (k:Nat) (hk:X.length=64*k):Hs tk first (X++Y)=absK tk (absK tk first X k) Y (Y.length/64):=by
 rw[Hs,List.length_append,show (X.length+Y.length)/64=k+Y.length/64 by omega,absK_app tk first X Y k hk]
def wrEnd (st rest b:List Int):List Int × List Int:=(absK tk st b (b.length/64),tailOf b++rest.drop (tailOf b).length)
def wrF (st rest:List Int) (sz:Int) (b:List Int):List Int × List Int × Int :=
 match decide ((sz%64).toNat=0) with
 | true=>((wrEnd tk (bif decide (sz=0) then first else st) rest b).1,(wrEnd tk (bif decide (sz=0) then first else st) rest b).2,sz+b.length)
 | false=>match decide ((sz%64).toNat+b.length<64) with
  | true=>(st,rest.take (sz%64).toNat++(b++rest.drop ((sz%64).toNat+b.length)),sz+b.length)
  | false=>((wrEnd tk (tk st (rest.take (sz%64).toNat++b.take (64-(sz%64).toNat))) (rest.take (sz%64).toNat++b.take (64-(sz%64).toNat)) (b.drop (64-(sz%64).toNat))).1,
    (wrEnd tk (tk st (rest.take (sz%64).toNat++b.take (64-(sz%64).toNat))) (rest.take (sz%64).toNat++b.take (64-(sz%64).toNat)) (b.drop (64-(sz%64).toNat))).2,sz+b.length)
def Took (L:List Int) (st rest:List Int) (sz:Int):Prop:=sz=(L.length:Int)/\rest.length=64/\(L≠[]->st=Hs tk first L)/\rest.take (L.length%64)=tailOf L
theorem took_nil (st rest:List Int) (h:rest.length=64):Took tk first [] st rest 0:=⟨rfl,h,fun h=>absurd rfl h,by simp[tailOf]⟩
theorem took_wr {L st rest:List Int} {sz:Int} (h:Took tk first L st rest sz) (b:List Int):Took tk first (L++b) (wrF tk first st rest sz b).1 (wrF tk first st rest sz b).2.1 (wrF tk first st rest sz b).2.2:=by
 obtain⟨h1,h2,h3,h4⟩:=h
 subst h1
 have hr:(((L.length:Int))%64).toNat=L.length%64:=by omega
 have hsplit:L=L.take (64*(L.length/64))++tailOf L:=(List.take_append_drop _ L).symm
 have hXl:(L.take (64*(L.length/64))).length=64*(L.length/64):=by rw[List.length_take];omega
 unfold wrF
 rw[hr]
 have hsz:(L.length:Int)+(b.length:Int)=((L++b).length:Int):=by rw[List.length_append];omega
 cases hd:decide (L.length%64=0) with
 | true =>
  have h0:L.length%64=0:=of_decide_eq_true hd
  have ht:tailOf L=[]:=List.eq_nil_of_length_eq_zero (by rw[tailOf_len,h0])
  have hL:L.length=64*(L.length/64):=by omega
  have hs:(bif decide ((L.length:Int)=0) then first else st)=absK tk first L (L.length/64):=by
   cases L with
   | nil=>rfl
   | cons x l=>rw[decide_eq_false (by simp only[List.length_cons];omega),cond_false];exact h3 (by simp)
  refine⟨hsz,?_,fun _=>?_,?_⟩
  ·show (tailOf b++rest.drop _).length=64
   rw[List.length_append,List.length_drop,tailOf_len,h2];omega
  ·show absK tk _ b (b.length/64)=_
   rw[hs,Hs_app tk first L b _ hL]
  ·show (tailOf b++rest.drop _).take _=_
   rw[tailOf_app L b _ hL,List.length_append,show (L.length+b.length)%64=(tailOf b).length by rw[tailOf_len];omega,List.take_left' rfl]
 | false =>
  have h0:L.length%64≠0:=of_decide_eq_false hd
  have hne:L≠[]:=by rintro rfl;exact h0 rfl
  have hst:st=absK tk first (L.take (64*(L.length/64))) (L.length/64):=by
   rw[h3 hne,Hs]
   have:=absK_pre tk first (L.take (64*(L.length/64))) (tailOf L) (L.length/64) (by omega)
   rw[<- hsplit] at this
   exact this
  have hLb:L++b=L.take (64*(L.length/64))++(tailOf L++b):=by rw[<- List.append_assoc,<- hsplit]
  cases hd2:decide (L.length%64+b.length<64) with
  | true =>
   have h5:L.length%64+b.length<64:=of_decide_eq_true hd2
   refine⟨hsz,?_,fun _=>?_,?_⟩
   ·show (rest.take _++(b++rest.drop _)).length=64
    rw[List.length_append,List.length_append,List.length_drop,List.length_take,h2];omega
   ·show st=_
    rw[hLb,Hs_app tk first _ _ _ hXl,<- hst,show (tailOf L++b).length/64=0 by rw[List.length_append,tailOf_len];omega]
    rfl
   ·show (rest.take _++(b++rest.drop _)).take _=_
    rw[hLb,tailOf_app _ _ _ hXl]
    have e1:tailOf (tailOf L++b)=tailOf L++b:=by
     rw[tailOf,show (tailOf L++b).length/64=0 by rw[List.length_append,tailOf_len];omega];rfl
    have e2:(L.take (64*(L.length/64))++(tailOf L++b)).length%64=(tailOf L++b).length:=by
     rw[List.length_append,List.length_append,tailOf_len,hXl];omega
    rw[e1,h4,e2,<- List.append_assoc]
    exact List.take_left' rfl
  | false =>
   have h5:¬ L.length%64+b.length<64:=of_decide_eq_false hd2
   have hrl:(rest.take (L.length%64)++b.take (64-L.length%64)).length=64:=by
    rw[List.length_append,List.length_take,List.length_take,h2];omega
   have hb1:L++b=(L.take (64*(L.length/64))++(rest.take (L.length%64)++b.take (64-L.length%64)))++b.drop (64-L.length%64):=by
    rw[h4,List.append_assoc,List.append_assoc,List.take_append_drop];exact hLb
   have hXl2:(L.take (64*(L.length/64))++(rest.take (L.length%64)++b.take (64-L.length%64))).length=64*(L.length/64+1):=by
    rw[List.length_append,hrl,hXl];omega
   have hst2:absK tk first (L.take (64*(L.length/64))++(rest.take (L.length%64)++b.take (64-L.length%64))) (L.length/64+1)=tk st (rest.take (L.length%64)++b.take (64-L.length%64)):=by
    rw[absK_app tk first _ _ _ hXl 1,<- hst]
    show tk st _=_
    rw[Nat.mul_zero,List.drop_zero,List.take_of_length_le (by omega)]
   refine⟨hsz,?_,fun _=>?_,?_⟩
   ·show (tailOf _++List.drop _ (_++_)).length=64
    rw[List.length_append,List.length_drop,tailOf_len,hrl];omega
   ·show absK tk _ _ _=_
    rw[hb1,Hs_app tk first _ _ _ hXl2,hst2]
   ·show (tailOf _++List.drop _ (_++_)).take _=_
    rw[hb1,tailOf_app _ _ _ hXl2]
    rw[show (L.take (64*(L.length/64))++(rest.take (L.length%64)++b.take (64-L.length%64))++b.drop (64-L.length%64)).length%64=(tailOf (b.drop (64-L.length%64))).length by rw[tailOf_len,List.length_append,hXl2];omega,List.take_left' rfl]
end
end Cr
namespace Cr
def fcn {α:Type} (n:Nat) (k:Nat->α):α:=Nat.rec (k 0) (fun m _=>k (m+1)) n
noncomputable def fi {α:Type} (x:Int) (k:Int->α):α:=Int.rec (fun n=>fcn n fun m=>k (Int.ofNat m)) (fun n=>fcn n fun m=>k (Int.negSucc m)) x
noncomputable def fl {α:Type} (l:List Int) (k:List Int->α):α:=List.rec (motive:=fun _=>(List Int->α)->α) (fun k=>k []) (fun x _ ih k=>fi x fun x'=>ih fun l'=>k (x'::l')) l k
def it {α:Type} (f:Nat->α->α) (s:α):Nat->α
 | 0=>s
 | k+1=>f k (it f s k)
end Cr
namespace Go.Proofs.YtbeeaekepmnfhaaGreatDoor.sha
open Go Go.Eng Go.RowKit Cr
def padB (n:Nat):List Int:=128::(List.replicate ((64+55-n%64)%64) 0++(List.range 8).map fun i=>((n:Int)*8)/2^(56-8*i)%256)
def outB (s:List Int):List Int:=(List.range 32).map fun i=>IntKind.u8.wrap ((s.getD (i/4) 0).fdiv (2^(24-8*(i%4))))
noncomputable def digF (L:List Int):List Int:=outB (Hs tko firstL (L++padB L.length))
noncomputable def dig (L:List Int):List Int:=opq (digF L)
theorem outB_len (s:List Int):(outB s).length=32:=by simp[outB]
theorem dig_len (L:List Int):(dig L).length=32:=by rw[dig,opq_eq,digF,outB_len]
end Go.Proofs.YtbeeaekepmnfhaaGreatDoor.sha
