import Derived.Shelf.Strings.OnBuilder
import Derived.Shelf.Strconv.Itoa3
import Derived.Shelf.Strings.Search3
import Derived.Shelf.Strings.Count
import Derived.Test.YteldhmehjkhanaaGreatDoorProg
set_option maxRecDepth 100000
namespace Go.Proofs
open Go.Shelf
def Tryz.lays169_ren:Go.Shelf.Ren:=⟨fun|169=>78|n=>n,fun|70=>134|9=>9|0=>0|72=>136|37=>22|127=>180|3=>3|5=>5|n=>n,fun|n=>n⟩
theorem Tryz.lays169:Go.Proofs.Lays.n169 Tryz.prog Tryz.lays169_ren:={
 mixed:=by kernel_rfl
 f169:=Tryz.func78.trans (congrArg some (by kernel_rfl))
 t0:=Tryz.underlying0
 a0:=Tryz.isAgg0
 z0:=Tryz.sizeOf0
 v0:=Tryz.zeroValue0
 t3:=Tryz.underlying3
 a3:=Tryz.isAgg3
 z3:=Tryz.sizeOf3
 v3:=Tryz.zeroValue3
 t9:=Tryz.underlying9
 a9:=Tryz.isAgg9
 z9:=Tryz.sizeOf9
 v9:=Tryz.zeroValue9
 t37:=Tryz.underlying22
 a37:=Tryz.isAgg22
 z37:=Tryz.sizeOf22
 v37:=Tryz.zeroValue22
 t70:=Tryz.underlying134
 a70:=Tryz.isAgg134
 z70:=Tryz.sizeOf134
 v70:=Tryz.zeroValue134
 t72:=Tryz.underlying136
 a72:=Tryz.isAgg136
 z72:=Tryz.sizeOf136
 v72:=Tryz.zeroValue136
 t127:=Tryz.underlying180
 a127:=Tryz.isAgg180
 z127:=Tryz.sizeOf180
 v127:=Tryz.zeroValue180 }
theorem Tryz.Builder_Extra_169:Builder.Extra Tryz.prog Tryz.lays169_ren:={
 sizeBuilder:=by kernel_rfl
 liesBuilder:=by kernel_rfl
 t5:=Tryz.underlying5
 a5:=Tryz.isAgg5
 z5:=Tryz.sizeOf5
 v5:=Tryz.zeroValue5
 infoByte:=by kernel_rfl
 cellsByte:=by kernel_rfl
 sizeByte:=by kernel_rfl
 neB5:=by decide }
def Tryz.lays156_ren:Go.Shelf.Ren:=⟨fun|156=>50|165=>79|166=>80|169=>78|240=>107|241=>108|276=>149|277=>150|n=>n,fun|31=>33|9=>9|3=>3|4=>4|0=>0|20=>20|72=>136|76=>142|70=>134|37=>22|75=>138|127=>180|164=>207|5=>5|80=>140|n=>n,fun|n=>n⟩
theorem Tryz.lays156:Go.Proofs.Lays.n156 Tryz.prog Tryz.lays156_ren:={
 mixed:=by kernel_rfl
 f156:=Tryz.func50.trans (congrArg some (by kernel_rfl))
 f165:=Tryz.func79.trans (congrArg some (by kernel_rfl))
 f166:=Tryz.func80.trans (congrArg some (by kernel_rfl))
 f169:=Tryz.func78.trans (congrArg some (by kernel_rfl))
 f240:=Tryz.func107.trans (congrArg some (by kernel_rfl))
 f241:=Tryz.func108.trans (congrArg some (by kernel_rfl))
 f276:=Tryz.func149.trans (congrArg some (by kernel_rfl))
 f277:=Tryz.func150.trans (congrArg some (by kernel_rfl))
 t0:=Tryz.underlying0
 a0:=Tryz.isAgg0
 z0:=Tryz.sizeOf0
 v0:=Tryz.zeroValue0
 t3:=Tryz.underlying3
 a3:=Tryz.isAgg3
 z3:=Tryz.sizeOf3
 v3:=Tryz.zeroValue3
 t4:=Tryz.underlying4
 a4:=Tryz.isAgg4
 z4:=Tryz.sizeOf4
 v4:=Tryz.zeroValue4
 t9:=Tryz.underlying9
 a9:=Tryz.isAgg9
 z9:=Tryz.sizeOf9
 v9:=Tryz.zeroValue9
 t20:=Tryz.underlying20
 a20:=Tryz.isAgg20
 z20:=Tryz.sizeOf20
 v20:=Tryz.zeroValue20
 t31:=Tryz.underlying33
 a31:=Tryz.isAgg33
 z31:=Tryz.sizeOf33
 v31:=Tryz.zeroValue33
 t37:=Tryz.underlying22
 a37:=Tryz.isAgg22
 z37:=Tryz.sizeOf22
 v37:=Tryz.zeroValue22
 t70:=Tryz.underlying134
 a70:=Tryz.isAgg134
 z70:=Tryz.sizeOf134
 v70:=Tryz.zeroValue134
 t72:=Tryz.underlying136
 a72:=Tryz.isAgg136
 z72:=Tryz.sizeOf136
 v72:=Tryz.zeroValue136
 t75:=Tryz.underlying138
 a75:=Tryz.isAgg138
 z75:=Tryz.sizeOf138
 v75:=Tryz.zeroValue138
 t76:=Tryz.underlying142
 a76:=Tryz.isAgg142
 z76:=Tryz.sizeOf142
 v76:=Tryz.zeroValue142
 t127:=Tryz.underlying180
 a127:=Tryz.isAgg180
 z127:=Tryz.sizeOf180
 v127:=Tryz.zeroValue180
 t164:=Tryz.underlying207
 a164:=Tryz.isAgg207
 z164:=Tryz.sizeOf207
 v164:=Tryz.zeroValue207 }
theorem Tryz.Builder_Extra_156:Builder.Extra Tryz.prog Tryz.lays156_ren:={
 sizeBuilder:=by kernel_rfl
 liesBuilder:=by kernel_rfl
 t5:=Tryz.underlying5
 a5:=Tryz.isAgg5
 z5:=Tryz.sizeOf5
 v5:=Tryz.zeroValue5
 infoByte:=by kernel_rfl
 cellsByte:=by kernel_rfl
 sizeByte:=by kernel_rfl
 neB5:=by decide }
def Tryz.lays171_ren:Go.Shelf.Ren:=⟨fun|171=>48|243=>76|246=>106|283=>145|284=>146|285=>147|286=>148|129=>170|317=>169|318=>171|319=>172|320=>173|337=>176|338=>177|n=>n,fun|3=>3|9=>9|2=>2|4=>4|171=>202|0=>0|53=>45|37=>22|5=>5|173=>205|212=>222|51=>109|20=>20|213=>223|46=>102|232=>26|233=>111|n=>n,fun|17=>3|18=>6|19=>7|n=>n⟩
theorem Tryz.lays171:Go.Proofs.Lays.n171 Tryz.prog Tryz.lays171_ren:={
 mixed:=by kernel_rfl
 f129:=Tryz.func170.trans (congrArg some (by kernel_rfl))
 f171:=Tryz.func48.trans (congrArg some (by kernel_rfl))
 f243:=Tryz.func76.trans (congrArg some (by kernel_rfl))
 f246:=Tryz.func106.trans (congrArg some (by kernel_rfl))
 f283:=Tryz.func145.trans (congrArg some (by kernel_rfl))
 f284:=Tryz.func146.trans (congrArg some (by kernel_rfl))
 f285:=Tryz.func147.trans (congrArg some (by kernel_rfl))
 f286:=Tryz.func148.trans (congrArg some (by kernel_rfl))
 f317:=Tryz.func169.trans (congrArg some (by kernel_rfl))
 f318:=Tryz.func171.trans (congrArg some (by kernel_rfl))
 f319:=Tryz.func172.trans (congrArg some (by kernel_rfl))
 f320:=Tryz.func173.trans (congrArg some (by kernel_rfl))
 f337:=Tryz.func176.trans (congrArg some (by kernel_rfl))
 f338:=Tryz.func177.trans (congrArg some (by kernel_rfl))
 t0:=Tryz.underlying0
 a0:=Tryz.isAgg0
 z0:=Tryz.sizeOf0
 v0:=Tryz.zeroValue0
 t2:=Tryz.underlying2
 a2:=Tryz.isAgg2
 z2:=Tryz.sizeOf2
 v2:=Tryz.zeroValue2
 t3:=Tryz.underlying3
 a3:=Tryz.isAgg3
 z3:=Tryz.sizeOf3
 v3:=Tryz.zeroValue3
 t4:=Tryz.underlying4
 a4:=Tryz.isAgg4
 z4:=Tryz.sizeOf4
 v4:=Tryz.zeroValue4
 t5:=Tryz.underlying5
 a5:=Tryz.isAgg5
 z5:=Tryz.sizeOf5
 v5:=Tryz.zeroValue5
 t9:=Tryz.underlying9
 a9:=Tryz.isAgg9
 z9:=Tryz.sizeOf9
 v9:=Tryz.zeroValue9
 t20:=Tryz.underlying20
 a20:=Tryz.isAgg20
 z20:=Tryz.sizeOf20
 v20:=Tryz.zeroValue20
 t37:=Tryz.underlying22
 a37:=Tryz.isAgg22
 z37:=Tryz.sizeOf22
 v37:=Tryz.zeroValue22
 t46:=Tryz.underlying102
 a46:=Tryz.isAgg102
 z46:=Tryz.sizeOf102
 v46:=Tryz.zeroValue102
 t51:=Tryz.underlying109
 a51:=Tryz.isAgg109
 z51:=Tryz.sizeOf109
 v51:=Tryz.zeroValue109
 t53:=Tryz.underlying45
 a53:=Tryz.isAgg45
 z53:=Tryz.sizeOf45
 v53:=Tryz.zeroValue45
 t171:=Tryz.underlying202
 a171:=Tryz.isAgg202
 z171:=Tryz.sizeOf202
 v171:=Tryz.zeroValue202
 t173:=Tryz.underlying205
 a173:=Tryz.isAgg205
 z173:=Tryz.sizeOf205
 v173:=Tryz.zeroValue205
 t212:=Tryz.underlying222
 a212:=Tryz.isAgg222
 z212:=Tryz.sizeOf222
 v212:=Tryz.zeroValue222
 t213:=Tryz.underlying223
 a213:=Tryz.isAgg223
 z213:=Tryz.sizeOf223
 t232:=Tryz.underlying26
 a232:=Tryz.isAgg26
 z232:=Tryz.sizeOf26
 v232:=Tryz.zeroValue26
 t233:=Tryz.underlying111
 a233:=Tryz.isAgg111
 z233:=Tryz.sizeOf111
 v233:=Tryz.zeroValue111
 g17:=by kernel_rfl
 g18:=by kernel_rfl
 g19:=by kernel_rfl }
def Tryz.lays143_ren:Go.Shelf.Ren:=⟨fun|143=>85|219=>113|217=>152|225=>153|224=>154|267=>155|266=>174|314=>175|n=>n,fun|9=>9|3=>3|4=>4|5=>5|46=>102|146=>230|51=>109|n=>n,fun|1=>2|n=>n⟩
theorem Tryz.lays143:Go.Proofs.Lays.n143 Tryz.prog Tryz.lays143_ren:={
 mixed:=by kernel_rfl
 f143:=Tryz.func85.trans (congrArg some (by kernel_rfl))
 f217:=Tryz.func152.trans (congrArg some (by kernel_rfl))
 f219:=Tryz.func113.trans (congrArg some (by kernel_rfl))
 f224:=Tryz.func154.trans (congrArg some (by kernel_rfl))
 f225:=Tryz.func153.trans (congrArg some (by kernel_rfl))
 f266:=Tryz.func174.trans (congrArg some (by kernel_rfl))
 f267:=Tryz.func155.trans (congrArg some (by kernel_rfl))
 f314:=Tryz.func175.trans (congrArg some (by kernel_rfl))
 t3:=Tryz.underlying3
 a3:=Tryz.isAgg3
 z3:=Tryz.sizeOf3
 v3:=Tryz.zeroValue3
 t4:=Tryz.underlying4
 a4:=Tryz.isAgg4
 z4:=Tryz.sizeOf4
 v4:=Tryz.zeroValue4
 t5:=Tryz.underlying5
 a5:=Tryz.isAgg5
 z5:=Tryz.sizeOf5
 v5:=Tryz.zeroValue5
 t9:=Tryz.underlying9
 a9:=Tryz.isAgg9
 z9:=Tryz.sizeOf9
 v9:=Tryz.zeroValue9
 t46:=Tryz.underlying102
 a46:=Tryz.isAgg102
 z46:=Tryz.sizeOf102
 v46:=Tryz.zeroValue102
 t51:=Tryz.underlying109
 a51:=Tryz.isAgg109
 z51:=Tryz.sizeOf109
 v51:=Tryz.zeroValue109
 t146:=Tryz.underlying230
 a146:=Tryz.isAgg230
 z146:=Tryz.sizeOf230
 v146:=Tryz.zeroValue230
 g1:=by kernel_rfl }
def Tryz.lays138_ren:Go.Shelf.Ren:=⟨fun|138=>84|195=>110|218=>112|143=>85|219=>113|217=>152|225=>153|224=>154|267=>155|266=>174|314=>175|n=>n,fun|9=>9|3=>3|4=>4|5=>5|0=>0|46=>102|146=>230|51=>109|n=>n,fun|1=>2|n=>n⟩
theorem Tryz.lays138:Go.Proofs.Lays.n138 Tryz.prog Tryz.lays138_ren:={
 mixed:=by kernel_rfl
 f138:=Tryz.func84.trans (congrArg some (by kernel_rfl))
 f143:=Tryz.func85.trans (congrArg some (by kernel_rfl))
 f195:=Tryz.func110.trans (congrArg some (by kernel_rfl))
 f217:=Tryz.func152.trans (congrArg some (by kernel_rfl))
 f218:=Tryz.func112.trans (congrArg some (by kernel_rfl))
 f219:=Tryz.func113.trans (congrArg some (by kernel_rfl))
 f224:=Tryz.func154.trans (congrArg some (by kernel_rfl))
 f225:=Tryz.func153.trans (congrArg some (by kernel_rfl))
 f266:=Tryz.func174.trans (congrArg some (by kernel_rfl))
 f267:=Tryz.func155.trans (congrArg some (by kernel_rfl))
 f314:=Tryz.func175.trans (congrArg some (by kernel_rfl))
 t0:=Tryz.underlying0
 a0:=Tryz.isAgg0
 z0:=Tryz.sizeOf0
 v0:=Tryz.zeroValue0
 t3:=Tryz.underlying3
 a3:=Tryz.isAgg3
 z3:=Tryz.sizeOf3
 v3:=Tryz.zeroValue3
 t4:=Tryz.underlying4
 a4:=Tryz.isAgg4
 z4:=Tryz.sizeOf4
 v4:=Tryz.zeroValue4
 t5:=Tryz.underlying5
 a5:=Tryz.isAgg5
 z5:=Tryz.sizeOf5
 v5:=Tryz.zeroValue5
 t9:=Tryz.underlying9
 a9:=Tryz.isAgg9
 z9:=Tryz.sizeOf9
 v9:=Tryz.zeroValue9
 t46:=Tryz.underlying102
 a46:=Tryz.isAgg102
 z46:=Tryz.sizeOf102
 v46:=Tryz.zeroValue102
 t51:=Tryz.underlying109
 a51:=Tryz.isAgg109
 z51:=Tryz.sizeOf109
 v51:=Tryz.zeroValue109
 t146:=Tryz.underlying230
 a146:=Tryz.isAgg230
 z146:=Tryz.sizeOf230
 v146:=Tryz.zeroValue230
 g1:=by kernel_rfl }
end Go.Proofs
namespace Cr
def U64 (a:Int):Prop:=0<=a/\a<18446744073709551616
def Ws (xs:List Int):Prop:=∀ x∈xs,U64 x
def val:List Int->Int
 | []=>0
 | x::xs=>x+18446744073709551616*val xs
def lim:Nat->Int->List Int
 | 0,_=>[]
 | n+1,N=>N%18446744073709551616::lim n (N/18446744073709551616)
def pw:Nat->Int
 | 0=>1
 | n+1=>18446744073709551616*pw n
theorem pw_pos (n:Nat):0<pw n:=by
 induction n with
 | zero=>decide
 | succ n ih=>simp only[pw];omega
theorem lim_length (n:Nat) (N:Int):(lim n N).length=n:=by
 induction n generalizing N with
 | zero=>rfl
 | succ n ih=>simp[lim,ih]
theorem lim_ws (n:Nat) (N:Int):Ws (lim n N):=by
 induction n generalizing N with
 | zero=>intro x h;cases h
 | succ n ih =>
  intro x h
  simp only[lim,List.mem_cons] at h
  rcases h with rfl|h
  ·exact⟨by omega,by omega⟩
  ·exact ih _ x h
theorem val_nonneg {xs:List Int} (h:Ws xs):0<=val xs:=by
 induction xs with
 | nil=>decide
 | cons x xs ih =>
  have h1:=h x (by simp)
  have h2:=ih (fun y hy=>h y (by simp[hy]))
  simp only[val];have:=h1.1;omega
theorem val_lt {xs:List Int} (h:Ws xs):val xs<pw xs.length:=by
 induction xs with
 | nil=>decide
 | cons x xs ih =>
  have h1:=h x (by simp)
  have h2:=ih (fun y hy=>h y (by simp[hy]))
  simp only[val,pw,List.length_cons];have:=h1.2;omega
theorem val_lim (n:Nat) (N:Int):val (lim n N)=N%pw n:=by
 induction n generalizing N with
 | zero=>simp[lim,val,pw,Int.emod_one]
 | succ n ih =>
  simp only[lim,val,pw,ih]
  have hp:=pw_pos n
  rw[<- Int.emod_add_mul_ediv N 18446744073709551616]
  generalize hq:N/18446744073709551616=q
  generalize hr:N%18446744073709551616=r
  have hr0:0<=r/\r<18446744073709551616:=by omega
  have e1:(r+18446744073709551616*q)%18446744073709551616=r:=by omega
  have e2:(r+18446744073709551616*q)/18446744073709551616=q:=by omega
  rw[e1,e2]
  have e3:q=q%pw n+pw n*(q/pw n):=(Int.emod_add_mul_ediv q (pw n)).symm
  have hb:=Int.emod_nonneg q (by omega:pw n≠0)
  have hb2:=Int.emod_lt_of_pos q hp
  generalize hs:q%pw n=s at *
  generalize q/pw n=t at *
  subst e3
  rw[show r+18446744073709551616*(s+pw n*t)=(r+18446744073709551616*s)+18446744073709551616*pw n*t from by rw[Int.mul_add,Int.mul_assoc];omega]
  rw[Int.add_mul_emod_self_left]
  exact (Int.emod_eq_of_lt (by omega) (by omega)).symm
theorem lim_val {xs:List Int} (h:Ws xs):lim xs.length (val xs)=xs:=by
 induction xs with
 | nil=>rfl
 | cons x xs ih =>
  have h1:=h x (by simp)
  have h2:=ih (fun y hy=>h y (by simp[hy]))
  simp only[val,lim,List.length_cons]
  obtain⟨a,b⟩:=h1
  rw[show (x+18446744073709551616*val xs)%18446744073709551616=x from by omega,show (x+18446744073709551616*val xs)/18446744073709551616=val xs from by omega,h2]
theorem val_inj {xs ys:List Int} (hx:Ws xs) (hy:Ws ys) (hl:xs.length=ys.length) (h:val xs=val ys):xs=ys:=by
 rw[<- lim_val hx,<- lim_val hy,hl,h]
def subL:List Int->List Int->Int->List Int × Int
 | a::us,b::vs,k=>((a-b-k)%18446744073709551616::(subL us vs (if a<b+k then 1 else 0)).1,(subL us vs (if a<b+k then 1 else 0)).2)
 | _,_,k=>([],k)
def addL:List Int->List Int->Int->List Int × Int
 | a::us,b::vs,k=>((a+b+k)%18446744073709551616::(addL us vs ((a+b+k)/18446744073709551616)).1,(addL us vs ((a+b+k)/18446744073709551616)).2)
 | _,_,k=>([],k)
theorem subL_spec:∀ (us vs:List Int) (k:Int),us.length=vs.length->Ws us->Ws vs->(k=0\/k=1) ->
  (subL us vs k).1.length=us.length/\Ws (subL us vs k).1/\((subL us vs k).2=0\/(subL us vs k).2=1)/\val (subL us vs k).1=val us-val vs-k+pw us.length*(subL us vs k).2:=by
 intro us
 induction us with
 | nil =>
  intro vs k h _ _ hk
  cases vs with
  | nil=>refine⟨rfl,fun x h=>(nomatch h),hk,?_⟩;simp[subL,val,pw];omega
  | cons b vs=>simp at h
 | cons a us ih =>
  intro vs k h ha hb hk
  cases vs with
  | nil=>simp at h
  | cons b vs =>
   obtain⟨a0,a1⟩:=ha a (by simp)
   obtain⟨b0,b1⟩:=hb b (by simp)
   obtain⟨g1,g2,g3,g4⟩:=ih vs (if a<b+k then 1 else 0) (by simpa using h) (fun y hy=>ha y (by simp[hy])) (fun y hy=>hb y (by simp[hy])) (by split<;>simp)
   refine⟨by simp[subL,g1],?_,g3,?_⟩
   ·intro x hx
    simp only[subL,List.mem_cons] at hx
    rcases hx with rfl|hx
    ·exact⟨by omega,by omega⟩
    ·exact g2 x hx
   ·simp only[subL,val,List.length_cons,pw,g4]
    generalize (subL us vs (if a<b+k then 1 else 0)).2=c at *
    rw[Int.mul_assoc]
    generalize pw us.length*c=pc at *
    split<;>omega
theorem addL_spec:∀ (us vs:List Int) (k:Int),us.length=vs.length->Ws us->Ws vs->(k=0\/k=1) ->
  (addL us vs k).1.length=us.length/\Ws (addL us vs k).1/\((addL us vs k).2=0\/(addL us vs k).2=1)/\val (addL us vs k).1=val us+val vs+k-pw us.length*(addL us vs k).2:=by
 intro us
 induction us with
 | nil =>
  intro vs k h _ _ hk
  cases vs with
  | nil=>refine⟨rfl,fun x h=>(nomatch h),hk,?_⟩;simp[addL,val,pw]
  | cons b vs=>simp at h
 | cons a us ih =>
  intro vs k h ha hb hk
  cases vs with
  | nil=>simp at h
  | cons b vs =>
   obtain⟨a0,a1⟩:=ha a (by simp)
   obtain⟨b0,b1⟩:=hb b (by simp)
   obtain⟨g1,g2,g3,g4⟩:=ih vs ((a+b+k)/18446744073709551616) (by simpa using h) (fun y hy=>ha y (by simp[hy])) (fun y hy=>hb y (by simp[hy])) (by omega)
   refine⟨by simp[addL,g1],?_,g3,?_⟩
   ·intro x hx
    simp only[addL,List.mem_cons] at hx
    rcases hx with rfl|hx
    ·exact⟨by omega,by omega⟩
    ·exact g2 x hx
   ·simp only[addL,val,List.length_cons,pw,g4]
    generalize (addL us vs ((a+b+k)/18446744073709551616)).2=c at *
    rw[Int.mul_assoc]
    generalize pw us.length*c=pc at *
    omega
theorem subL_eq {us vs:List Int} (hl:us.length=vs.length) (ha:Ws us) (hb:Ws vs):(subL us vs 0).1=lim us.length (val us-val vs)/\(subL us vs 0).2=if val us<val vs then 1 else 0:=by
 obtain⟨h1,h2,h3,h4⟩:=subL_spec us vs 0 hl ha hb (.inl rfl)
 have hp:=pw_pos us.length
 have p1:=val_nonneg h2
 have p2:=val_lt h2
 rw[h1] at p2
 have q1:=val_nonneg ha
 have q2:=val_lt ha
 have r1:=val_nonneg hb
 have r2:=val_lt hb
 rw[<- hl] at r2
 constructor
 ·refine val_inj h2 (lim_ws _ _) (by rw[h1,lim_length]) ?_
  rw[val_lim,h4]
  rcases h3 with h3|h3
  ·rw[h3] at h4 ⊢
   rw[Int.emod_eq_of_lt (by omega) (by omega)];omega
  ·rw[h3] at h4 ⊢
   rw[show val us-val vs-0+pw us.length*1=val us-val vs+pw us.length from by omega]
   rw[<- Int.add_emod_right,Int.emod_eq_of_lt (by omega) (by omega)]
 ·rcases h3 with h3|h3
  ·rw[h3] at h4 ⊢;rw[if_neg (by omega)]
  ·rw[h3] at h4 ⊢;rw[if_pos (by omega)]
theorem addL_eq {us vs:List Int} (hl:us.length=vs.length) (ha:Ws us) (hb:Ws vs):(addL us vs 0).1=lim us.length (val us+val vs):=by
 obtain⟨h1,h2,h3,h4⟩:=addL_spec us vs 0 hl ha hb (.inl rfl)
 have hp:=pw_pos us.length
 have p1:=val_nonneg h2
 have p2:=val_lt h2
 rw[h1] at p2
 refine val_inj h2 (lim_ws _ _) (by rw[h1,lim_length]) ?_
 rw[val_lim,h4]
 rcases h3 with h3|h3
 ·rw[h3] at h4 ⊢
  rw[Int.emod_eq_of_lt (by omega) (by omega)];omega
 ·rw[h3] at h4 ⊢
  rw[show val us+val vs+0-pw us.length*1=val us+val vs-pw us.length from by omega]
  rw[<- Int.sub_emod_right,Int.emod_eq_of_lt (by omega) (by omega)]
end Cr
namespace Cr
class Md (M:Int) where
 n:Nat
 rinv:Int
 gt:1<M
 big:2*M<=pw n
 inv:(pw n*rinv)%M=1
structure Zm (M:Int) where
 v:Int
 nn:0<=v
 lt:v<M
theorem Zm.ext {M:Int} {a b:Zm M} (h:a.v=b.v):a=b:=by
 cases a;cases b;simp at h;subst h;rfl
instance {M : Int} : DecidableEq (Zm M) := fun a b =>
 if h:a.v=b.v then isTrue (Zm.ext h) else isFalse (fun e=>h (by rw[e]))
section
variable {M:Int} [Md M]
theorem Mpos:0<M:=by have:=Md.gt (M:=M);omega
def zm (a:Int):Zm M:=⟨a%M,Int.emod_nonneg _ (by have:=Mpos (M:=M);omega),Int.emod_lt_of_pos _ Mpos⟩
instance : Add (Zm M) := ⟨fun a b => zm (a.v + b.v)⟩
instance : Mul (Zm M) := ⟨fun a b => zm (a.v * b.v)⟩
instance : Neg (Zm M) := ⟨fun a => zm (-a.v)⟩
instance : Sub (Zm M) := ⟨fun a b => zm (a.v - b.v)⟩
instance : Zero (Zm M) := ⟨zm 0⟩
instance : One (Zm M) := ⟨zm 1⟩
theorem zm_v (a:Int):(zm a:Zm M).v=a%M:=rfl
theorem add_v (a b:Zm M):(a+b).v=(a.v+b.v)%M:=rfl
theorem mul_v (a b:Zm M):(a*b).v=(a.v*b.v)%M:=rfl
theorem neg_v (a:Zm M):(-a).v=(-a.v)%M:=rfl
theorem sub_v (a b:Zm M):(a-b).v=(a.v-b.v)%M:=rfl
theorem zero_v:(0:Zm M).v=0:=by show (0:Int)%M=0;simp
theorem one_v:(1:Zm M).v=1:=by show (1:Int)%M=1;exact Int.emod_eq_of_lt (by omega) Md.gt
omit [Md M] in
theorem v_mod (a:Zm M):a.v%M=a.v:=Int.emod_eq_of_lt a.nn a.lt
theorem zm_self (a:Zm M):zm a.v=a:=Zm.ext (v_mod a)
theorem zm_add (a b:Int):(zm a+zm b:Zm M)=zm (a+b):=Zm.ext (by simp[add_v,zm_v])
theorem zm_mul (a b:Int):(zm a*zm b:Zm M)=zm (a*b):=Zm.ext (by simp[mul_v,zm_v,<- Int.mul_emod])
theorem zm_sub (a b:Int):(zm a-zm b:Zm M)=zm (a-b):=Zm.ext (by simp[sub_v,zm_v])
theorem zm_neg (a:Int):(-zm a:Zm M)=zm (-a):=Zm.ext (by
 rw[neg_v,zm_v,zm_v]
 have h:=Int.emod_def a M
 rw[show -(a%M)=-a+M*(a/M) by omega,Int.add_mul_emod_self_left])
theorem zm_eq {a b:Int} (h:a%M=b%M):(zm a:Zm M)=zm b:=Zm.ext h
theorem zm_zero:(zm 0:Zm M)=0:=rfl
def R2:Zm M:=zm (pw (Md.n M))
def R2i:Zm M:=zm (Md.rinv M)
theorem R2_R2i:(R2:Zm M)*R2i=1:=by
 unfold R2 R2i
 rw[zm_mul]
 exact Zm.ext (by rw[zm_v,one_v];exact Md.inv)
def enc (x:Zm M):List Int:=lim (Md.n M) (x*R2).v
def dec (xs:List Int):Zm M:=zm (val xs)*R2i
def Canon (M:Int) [Md M] (xs:List Int):Prop:=xs.length=Md.n M/\Ws xs/\val xs<M
theorem mul_assoc' (a b c:Zm M):a*b*c=a*(b*c):=Zm.ext (by
 simp only[mul_v]
 rw[Int.mul_emod,Int.emod_emod,<- Int.mul_emod,Int.mul_emod a.v,Int.emod_emod,<- Int.mul_emod,Int.mul_assoc])
theorem mul_comm' (a b:Zm M):a*b=b*a:=Zm.ext (by simp only[mul_v,Int.mul_comm])
theorem mul_one' (a:Zm M):a*1=a:=Zm.ext (by rw[mul_v,one_v,Int.mul_one,v_mod])
theorem M_lt_pw:M<pw (Md.n M):=by have:=Md.big (M:=M);have:=Mpos (M:=M);omega
theorem enc_length (x:Zm M):(enc x).length=Md.n M:=lim_length _ _
theorem enc_ws (x:Zm M):Ws (enc x):=lim_ws _ _
theorem val_enc (x:Zm M):val (enc x)=(x*R2).v:=by
 unfold enc
 rw[val_lim,Int.emod_eq_of_lt (x*R2).nn (by have:=(x*R2).lt;have:=M_lt_pw (M:=M);omega)]
theorem enc_canon (x:Zm M):Canon M (enc x):=⟨enc_length x,enc_ws x,by rw[val_enc];exact (x*R2).lt⟩
theorem dec_enc (x:Zm M):dec (enc x)=x:=by
 unfold dec
 rw[val_enc,zm_self,mul_assoc',R2_R2i,mul_one']
theorem dec_R2 (xs:List Int):dec xs*R2=(zm (val xs):Zm M):=by
 unfold dec
 rw[mul_assoc',mul_comm' R2i,R2_R2i,mul_one']
theorem enc_dec {xs:List Int} (h:Canon M xs):enc (dec xs:Zm M)=xs:=by
 obtain⟨h1,h2,h3⟩:=h
 unfold enc
 rw[dec_R2,zm_v,Int.emod_eq_of_lt (val_nonneg h2) h3,<- h1]
 exact lim_val h2
theorem enc_inj {x y:Zm M} (h:enc x=enc y):x=y:=by rw[<- dec_enc x,<- dec_enc y,h]
theorem enc_of {x:Zm M} {N:Int} (h:x*R2=zm N):enc x=lim (Md.n M) (N%M):=by
 unfold enc;rw[h,zm_v]
theorem add_mul' (a b c:Zm M):(a+b)*c=a*c+b*c:=by
 rw[<- zm_self a,<- zm_self b,<- zm_self c];simp only[zm_add,zm_mul,Int.add_mul]
theorem sub_mul' (a b c:Zm M):(a-b)*c=a*c-b*c:=by
 rw[<- zm_self a,<- zm_self b,<- zm_self c];simp only[zm_sub,zm_mul,Int.sub_mul]
theorem enc_add {xs ys:List Int}:enc (dec xs+dec ys:Zm M)=lim (Md.n M) ((val xs+val ys)%M) :=
 enc_of (by rw[add_mul',dec_R2,dec_R2,zm_add])
theorem enc_sub {xs ys:List Int}:enc (dec xs-dec ys:Zm M)=lim (Md.n M) ((val xs-val ys)%M) :=
 enc_of (by rw[sub_mul',dec_R2,dec_R2,zm_sub])
theorem enc_mul {xs ys:List Int}:enc (dec xs*dec ys:Zm M)=lim (Md.n M) (val xs*val ys*Md.rinv M%M) :=
 enc_of (by
  rw[mul_assoc',dec_R2,mul_comm' (dec xs)]
  show zm (val ys)*(zm (val xs)*zm (Md.rinv M))=_
  rw[zm_mul,zm_mul,<- Int.mul_assoc,Int.mul_comm (val ys)])
theorem lim_zero (n:Nat):lim n 0=List.replicate n 0:=by
 induction n with
 | zero=>rfl
 | succ n ih=>simp[lim,ih,List.replicate_succ]
theorem enc_zero:enc (0:Zm M)=List.replicate (Md.n M) 0:=by
 unfold enc
 rw[show (0:Zm M)*R2=0 from Zm.ext (by rw[mul_v,zero_v];simp),zero_v,lim_zero]
theorem enc_zm {N:Int}:enc (zm N:Zm M)=lim (Md.n M) (N*pw (Md.n M)%M) :=
 enc_of (by unfold R2;rw[zm_mul])
end
end Cr
namespace Cr
def Mp:Int:=4002409555221667393417789825735904156556882819939007885332058136124031650490837864442687629129015664037894272559787
def Mr:Int:=52435875175126190479447740508185965837690552500527637822603658699938581184513
instance : Md Mp where
 n:=6
 rinv:=3231460744492646417066832100176244795738767926513225105051837195607029917124509527734802654356338138714468589979680
 gt:=by decide
 big:=by decide
 inv:=by decide
instance : Md Mr where
 n:=4
 rinv:=12549076656233958353659347336803947287922716146853412054870763148006372261952
 gt:=by decide
 big:=by decide
 inv:=by decide
abbrev Fp:=Zm Mp
abbrev Fr:=Zm Mr
abbrev zmp (a:Int):Fp:=zm a
abbrev zmr (a:Int):Fr:=zm a
end Cr
