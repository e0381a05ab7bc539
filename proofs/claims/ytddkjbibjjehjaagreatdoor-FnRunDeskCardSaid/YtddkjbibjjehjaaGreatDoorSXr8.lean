/-
  Texts that the proof rests on, joined: part 8.
-/
import Derived.Shelf.Strconv.Itoa3
import Derived.Lib.ItoaMem
import Derived.Lib.AppendIntMem
import Derived.WalkSmall
import Derived.Maps.Keyed
import Derived.Maps.Own
import Derived.Maps.OwnOps
import Derived.Maps.Range
import Derived.Maps.RangeWalk
import Derived.Maps.Views
import Derived.DeepKeys4
import Derived.Test.YtddkjbibjjehjaaGreatDoorSXr5
import Derived.Test.YtddkjbibjjehjaaGreatDoorSXr7
set_option maxHeartbeats 16000000
set_option maxRecDepth 100000
namespace Go.Proofs.YtddkjbibjjehjaaGreatDoor
open Go.RowKit Go.BigFrame
set_option linter.unusedVariables false
theorem Dx:bX [] = [] :=rfl
theorem L_ {s:List ay}{o:ay}(h:s[0]? =some o):bX (s.take 1)=pF o:=by
 cases s with
 |nil=>simp at h
 |cons x r=>
  simp at h;subst h;simp[bX,Lib.join_one]
theorem JQ {s:List ay}{k:Nat}{o:ay}(hk:0<k)(h:s[k]? =some o):bX (s.take (k+1))=bX (s.take k)++ [44] ++pF o:=by
 cases s with
 |nil=>simp at h
 |cons x r=>
  obtain⟨j,rfl⟩: ∃j,k=j+1:=⟨k-1,by omega⟩
  simp only[List.getElem?_cons_succ] at h;unfold bX;simp only[List.take_succ_cons,List.map_cons,Lib.join_cons];have e: ∀m,(r.take m).map pF=(r.map pF).take m:=fun m=>List.map_take ..
  rw[e,e,Lib.joinTail_take_succ _ _ _ (pF o) (by rw[List.getElem?_map,h];rfl)]
  simp
theorem rQ (s:List ay):(bX s).length<=4*s.length:=by
 cases s with
 |nil=>simp[Dx]
 |cons x r=>
  unfold bX;rw[List.map_cons,Lib.join_length];have h: ∀l:List ay,Lib.lens (l.map pF)<=3*l.length:=by
   intro l;induction l with
   |nil=>simp[Lib.lens]
   |cons y q ih=>
    have:=(Hw (o:=y)).2;simp[Lib.lens] at ih ⊢;omega
  have h1:=h (x::r);simp only[List.map_cons,List.length_cons,List.length_map,List.length_nil] at h1 ⊢;omega
theorem lu (A:Option Addr)(n c:Nat)(s:List ay)(w:World)(hx:aC w A n s)(hok:fF s):
 Calls Tryz.prog 20 #[.slice A n c] w fun e w'=>e=.returned (dw (bX s))/\Below w.heap.size w w':=by
 have hn:=hx.2.1;have hl:=hx.1;have HX:=ah hx;have xw:=ah hok;have HL:=ah hl;clear hx hok hl;go_enter Tryz.func20,Tryz.ntmps20;go_wp2_with fail
 go_loopw [3,4] (fun sv iv wr=> ∃ (k:Nat) (T:ByteArray),k<=n/\iv=.int .i64 k/\sv=.string T/\Hid (T=⟨⟨bX (s.take k)⟩⟩)/\Below w.heap.size w wr) (fun _ i _=>n- (intOf i).toNat)
 case atStart=>exact⟨0,_,Nat.zero_le _,rfl,rfl,ah rfl,Below.refl _ _⟩
 case round=>
  obtain⟨k,T,hk,rfl,rfl,HT,hb⟩:=hrel;by_cases hlt:k<n
  .obtain⟨b,off,o,rfl,hbl,ho,c0,c1,c2⟩:=(HX.out.below hb aj).at_ hlt;have HV:=ah (Po (xw.out o (List.mem_of_getElem? ho)));unfold ay.val dw at HV;have hlt2:(k:Int)< (n:Int):=by omega
   obtain⟨X,hX⟩: ∃X:ByteArray,X=⟨⟨pF o⟩⟩:=⟨_,rfl⟩;rw[<-hX] at HV;have RI:=ah hX;have Yl:X.size<=3:=by rw[hX];exact Hw.2
   have hTs:T.size<=4398046511104:=by
    rw[HT.out];have h1:=rQ (s.take k);have h2:(s.take k).length<=k:=by rw[List.length_take];exact Nat.min_le_left _ _
    show(bX (s.take k)).length<=_
    omega
   by_cases hk0:k=0
   .have HN:Hid (T++X=⟨⟨bX (s.take (k+1))⟩⟩):=by
     show _=_
     rw[HT.out,RI.out,iN];rw[hk0] at ho ⊢;rw[L_ ho];simp[Dx]
    have hz1:decide ((0:Int)< (k:Int))=false:=by simp;omega
    have hz2:decide (0<k)=false:=by simp;omega
    clear hX ho HT hk0;obtain⟨tx,kd,it⟩:=o;simp only at HV c0 c1 c2;go_wp2_with (go_at_call 45;refine(HV.out _).mono ?_;rintro e w2 ⟨rfl,hb2⟩)
    go_roundw
    case rel=>exact⟨k+1,_,by omega,by go_num,rfl,HN,hb.trans (hb2.mono hb.size)⟩
    case measure=>simp[intOf];omega
   .have hk1:(0:Int)< (k:Int):=by omega
    have hz1:decide ((0:Int)< (k:Int))=true:=by simp;omega
    have hz2:decide (0<k)=true:=by simp;omega
    have HN:Hid (T++⟨#[44]⟩++X=⟨⟨bX (s.take (k+1))⟩⟩):=by
     show _=_
     rw[HT.out,RI.out,JQ (by omega) ho]
     show ByteArray.mk ⟨_⟩++ByteArray.mk ⟨[44]⟩++ByteArray.mk ⟨_⟩=_
     rw[iN,iN]
    clear hX ho HT;obtain⟨tx,kd,it⟩:=o;simp only at HV c0 c1 c2;go_wp2_with (go_at_call 45;refine(HV.out _).mono ?_;rintro e w2 ⟨rfl,hb2⟩)
    go_roundw
    case rel=>exact⟨k+1,_,by omega,by go_num,rfl,HN,hb.trans (hb2.mono hb.size)⟩
    case measure=>simp[intOf];omega
  .obtain rfl:k=n:=by omega
   have HE:Hid (T=⟨⟨bX s⟩⟩):=by
    show _=_
    rw[HT.out,List.take_of_length_le (by rw[HL.out];exact Nat.le_refl _)]
   go_wp2_with fail
   go_ret;refine⟨?_,hb⟩;show Ending.returned (.string T)=_
   rw[HE.out]
def SE (s:List ay):List UInt8:=if aF s=true then bX s else []
theorem d9 {s:List ay}(h:aF s=true):fF s:=((bn s).1 h).2.1
theorem JR (A:Option Addr)(n c:Nat)(xs:List (List UInt8))(w:World)(hx:eO w A n xs)(hnc:n<=c)(hlen:(Lib.join xs [44]).length<=140737488355328):
 Calls Tryz.prog 107 #[.slice A n c,.string ⟨#[44]⟩] w fun e w'=>e=.returned (dw (Lib.join xs [44]))/\Below w.heap.size w w':=by
 have hl:=hx.1;have hn:=hx.2.1;have hm:(xs.map fun x=>(⟨⟨x⟩⟩:ByteArray)).map (·.data.toList)=xs:=by
  rw[List.map_map];exact List.map_id _
 rcases Nat.eq_zero_or_pos n with h0|h0
 .subst h0;obtain rfl:xs= [] :=List.eq_nil_of_length_eq_zero hl;exact(Any.strings_Join_none SC aag A c ⟨#[44]⟩ w).mono fun e w' ⟨he,hw⟩=>⟨he,hw▸Below.refl _ _⟩
 .obtain⟨b,off,rfl,hlt,hc⟩:=hx.2.2 h0;have h:=Any.strings_Join SC aag b off c (xs.map fun x=>(⟨⟨x⟩⟩:ByteArray)) ⟨#[44]⟩ w (fun j x hj=>by
   rw[List.getElem?_map,Option.map_eq_some_iff] at hj;obtain⟨y,hy,rfl⟩:=hj;exact hc j y hy) hlt (by rw[List.length_map];omega) (by rw[List.length_map];omega) (by rw[hm];exact hlen)
  rw[hm,List.length_map,hl] at h;exact h
theorem zF (A:Option Addr)(n c:Nat)(s:List ay)(w:World)(hx:aC w A n s)(hnc:n<=c):
 Calls Tryz.prog 80 #[.slice A n c] w fun e w'=>e=.returned (dw (SE s))/\Below w.heap.size w w':=by
 have HX:=ah hx;have hn:=hx.2.1;have hl:=hx.1;have HL:=ah hl;have HV:=ah (dx A n c s w hx hnc);clear hx;unfold SE;cases hv:aF s
 .rw[hv] at HV;clear hv;go_enter Tryz.func80,Tryz.ntmps80;go_wp2_with (go_at_call 102;refine HV.out.mono ?_;rintro e w1 ⟨rfl,hb1⟩)
  go_ret;exact⟨rfl,hb1⟩
 .rw[hv] at HV;have HO:=ah (d9 hv);have hn16:n<=16:=by rw[<-hl];exact((bn s).1 hv).1
  clear hv hl;rw[if_pos rfl];obtain⟨i0,hi,hz0,hz1,hz2⟩:=info_parts Cb;obtain⟨T,hT⟩: ∃T,T=dw (bX s):=⟨_,rfl⟩;rw[<-hT];have HT:=ah hT;clear hT;go_enter Tryz.func80,Tryz.ntmps80;go_wp2_with (first
   |(go_at_call 102;refine HV.out.mono ?_;rintro e w1 ⟨rfl,hb1⟩)
   |(at_make;refine wpList_make_own _ rfl _ _ 22 rfl w.heap.size 9 i0 _ 1 Tryz.underlying22 hi hz0 hz1 .i64 .i64 _ n rfl rfl rfl (by rw[hz2];omega) (by unfold maxLen;omega) (by have:=hb1.size;omega) ?_;intro w2 hown2 hg2))
  have hb2:Below w.heap.size w w2:=hb1.trans (Below.mono (B:=w1.heap.size) ⟨hg2.os,hg2.tape,hg2.output,hg2.size,fun k hk=>hg2.block k hk (by simp)⟩ hb1.size)
  have HST:=ah (And.intro hown2 hb2);clear hown2 hb2 hb1 hg2 hi hz0 hz1 hz2 HV;go_loopw [3,14] (fun ov i wr=> ∃ (k:Nat),k<=n/\i=.int .i64 k/\Below w.heap.size w wr/\wr.ownsRow w.heap.size 9 1 ov k (strCells ((s.map pF).take k))) (fun _ i _=>n- (intOf i).toNat)
  case atStart=>exact⟨0,Nat.zero_le _,rfl,HST.out.2,HST.out.1⟩
  case round=>
   clear HST;obtain⟨k,hk,rfl,hb,hown⟩:=hrel;obtain⟨Ao,co,rfl,hmc⟩:=aD hown;by_cases hlt:k<n
   .obtain⟨b,off,o,rfl,hbl,ho,c0,c1,c2⟩:=(HX.out.below hb aj).at_ hlt;have Dv:=ah (Dr (HO.out o (List.mem_of_getElem? ho)));unfold ay.val at Dv;have Ym:Hid ((s.map pF).take (k+1)=(s.map pF).take k++ [pF o]):=aR (by rw[List.getElem?_map,ho];rfl)
    have hlt2:(k:Int)< (n:Int):=by omega
    clear ho;generalize pF o=x at*;obtain⟨tx,kd,it⟩:=o;simp only at Dv c0 c1 c2;go_wp2_with (first
     |(go_at_call 130;refine(Dv.out _).mono ?_;rintro e w2 ⟨rfl,hb2⟩;have hb2':Below wr.heap.size wr w2:=Below.trans (aG.alloc aj _) (hb2.mono (by simp));have hown2:=own_below hown hb2')
     |(at_builtin;refine oz (.tmp 18) (.tmp 21) (hown2.alloc _) (by simp;have:=hb.size;have:=hb2'.size;omega) (rG rfl rfl) (by omega) rfl rfl rfl rfl ?_;intro v5 w5 hown5 hg5 Dy))
    have hb5:=Below.own (hb.trans (hb2'.mono hb.size)) hown2 aj (World.grownBy.trans (World.grownBy_alloc w2 _ _) hg5);go_wp2_with fail
    go_roundw
    case rel=>exact⟨k+1,by omega,by go_num,hb5,by rw[Ym.out];exact hown5⟩
    case measure=>simp[intOf];omega
   .obtain rfl:k=n:=by omega
    have hall:(s.map pF).take k=s.map pF:=List.take_of_length_le (by rw[List.length_map,HL.out];exact Nat.le_refl _)
    rw[hall] at hown;have HJ:=JR Ao k co (s.map pF) wr (eO.aH hown (by omega)) hmc (by have h:=rQ s;unfold bX at h;rw[HL.out] at h;omega)
    have HJJ:Hid (Calls Tryz.prog 107 #[.slice Ao k co,.string ⟨#[44]⟩] wr fun e w'=>e=.returned T/\Below wr.heap.size wr w'):=by
     show Calls _ _ _ _ _
     rw[HT.out];exact HJ
    clear hown hall HJ;go_wp2_with (go_at_call 107;refine HJJ.out.mono ?_;rintro e w2 ⟨rfl,hb2⟩)
    go_ret;exact⟨rfl,hb.trans (hb2.mono hb.size)⟩
open Go.RowKit
def Om:Go.Shelf.Ren:=⟨fun|129=>193|171=>77|243=>125|246=>162|283=>177|284=>178|285=>179|286=>180|317=>192|318=>194|319=>195|320=>196|337=>206|338=>207|n=>n,fun|0=>0|2=>2|3=>3|4=>4|5=>5|9=>9|20=>20|37=>28|46=>177|51=>198|53=>204|171=>203|173=>207|212=>225|213=>226|232=>235|233=>236|n=>n,fun|17=>2|18=>5|19=>6|n=>n⟩
theorem SF:Go.Proofs.Lays.n171 Tryz.prog Om where
 mixed:=by kernel_rfl
 f129:=Tryz.func193.trans (congrArg some (by kernel_rfl))
 f171:=Tryz.func77.trans (congrArg some (by kernel_rfl))
 f243:=Tryz.func125.trans (congrArg some (by kernel_rfl))
 f246:=Tryz.func162.trans (congrArg some (by kernel_rfl))
 f283:=Tryz.func177.trans (congrArg some (by kernel_rfl))
 f284:=Tryz.func178.trans (congrArg some (by kernel_rfl))
 f285:=Tryz.func179.trans (congrArg some (by kernel_rfl))
 f286:=Tryz.func180.trans (congrArg some (by kernel_rfl))
 f317:=Tryz.func192.trans (congrArg some (by kernel_rfl))
 f318:=Tryz.func194.trans (congrArg some (by kernel_rfl))
 f319:=Tryz.func195.trans (congrArg some (by kernel_rfl))
 f320:=Tryz.func196.trans (congrArg some (by kernel_rfl))
 f337:=Tryz.func206.trans (congrArg some (by kernel_rfl))
 f338:=Tryz.func207.trans (congrArg some (by kernel_rfl))
 t0:=Tryz.underlying0
 a0:=Tryz.isAgg0
 z0:=Tryz.sizeOf0
 v0:=Tryz.zeroValue0
 t2:=Tryz.underlying2
 a2:=Tryz.isAgg2
 z2:=Tryz.sizeOf2
 v2:=Tryz.zeroValue2
 t3:=Tryz.underlying3
 a3:=Tryz.isAgg3
 z3:=Tryz.sizeOf3
 v3:=Tryz.zeroValue3
 t4:=Tryz.underlying4
 a4:=Tryz.isAgg4
 z4:=Tryz.sizeOf4
 v4:=Tryz.zeroValue4
 t5:=Tryz.underlying5
 a5:=Tryz.isAgg5
 z5:=Tryz.sizeOf5
 v5:=Tryz.zeroValue5
 t9:=Tryz.underlying9
 a9:=Tryz.isAgg9
 z9:=Tryz.sizeOf9
 v9:=Tryz.zeroValue9
 t20:=Tryz.underlying20
 a20:=Tryz.isAgg20
 z20:=Tryz.sizeOf20
 v20:=Tryz.zeroValue20
 t37:=Tryz.underlying28
 a37:=Tryz.isAgg28
 z37:=Tryz.sizeOf28
 v37:=Tryz.zeroValue28
 t46:=Tryz.underlying177
 a46:=Tryz.isAgg177
 z46:=Tryz.sizeOf177
 v46:=Tryz.zeroValue177
 t51:=Tryz.underlying198
 a51:=Tryz.isAgg198
 z51:=Tryz.sizeOf198
 v51:=Tryz.zeroValue198
 t53:=Tryz.underlying204
 a53:=Tryz.isAgg204
 z53:=Tryz.sizeOf204
 v53:=Tryz.zeroValue204
 t171:=Tryz.underlying203
 a171:=Tryz.isAgg203
 z171:=Tryz.sizeOf203
 v171:=Tryz.zeroValue203
 t173:=Tryz.underlying207
 a173:=Tryz.isAgg207
 z173:=Tryz.sizeOf207
 v173:=Tryz.zeroValue207
 t212:=Tryz.underlying225
 a212:=Tryz.isAgg225
 z212:=Tryz.sizeOf225
 v212:=Tryz.zeroValue225
 t213:=Tryz.underlying226
 a213:=Tryz.isAgg226
 z213:=Tryz.sizeOf226
 t232:=Tryz.underlying235
 a232:=Tryz.isAgg235
 z232:=Tryz.sizeOf235
 v232:=Tryz.zeroValue235
 t233:=Tryz.underlying236
 a233:=Tryz.isAgg236
 z233:=Tryz.sizeOf236
 v233:=Tryz.zeroValue236
 g17:=by kernel_rfl
 g18:=by kernel_rfl
 g19:=by kernel_rfl
theorem VQ:Go.Proofs.LaysM.n171 Tryz.prog Om:=
 { SF with
  i0:=by kernel_rfl,
  i2:=by kernel_rfl,
  i3:=by kernel_rfl,
  i4:=by kernel_rfl,
  i5:=by kernel_rfl,
  i9:=by kernel_rfl,
  i20:=by kernel_rfl,
  i37:=by kernel_rfl,
  i46:=by kernel_rfl,
  i51:=by kernel_rfl,
  i53:=by kernel_rfl,
  i171:=by kernel_rfl,
  i173:=by kernel_rfl,
  i212:=by kernel_rfl,
  i232:=by kernel_rfl,
  i233:=by kernel_rfl,
  m17:=by kernel_rfl,
  m18:=by kernel_rfl,
  m19:=by kernel_rfl }
def fO (xs:List Int):List UInt8:=Lib.join (xs.map Lib.itoa) [44]
theorem VR {k:Nat}(h:k<10):(ByteArray.extract ⟨#[48,49,50,51,52,53,54,55,56,57]⟩ k (k+1))=⟨⟨Lib.decDigits k⟩⟩:=by
 rw[Lib.decDigits_one h];rcases(by omega:k=0\/k=1\/k=2\/k=3\/k=4\/k=5\/k=6\/k=7\/k=8\/k=9) with rfl|rfl|rfl|rfl|rfl|rfl|rfl|rfl|rfl|rfl<;>decide
theorem jq {x:Int}(h0:0<=x)(h1:x<100):(Lib.itoa x).length<=2:=by
 obtain⟨k,rfl⟩: ∃k:Nat,x=k:=⟨x.toNat,by omega⟩
 rw[Lib.itoa_nonneg];by_cases h:k<10
 .rw[Lib.decDigits_one h];simp
 .rw[Lib.decDigits_two h (by omega)];simp
theorem Oo:Lib.itoa (-1)= [45,49] :=by
 rw[show(-1:Int)= -((1:Nat):Int) from rfl,Lib.itoa_neg 1 (by omega),Lib.decDigits_one (by omega)];rfl
theorem t_ (k:Nat)(h:k<10)(w:World):Calls Tryz.prog 37 #[.int .i64 k] w fun e w'=>e=.returned (dw (Lib.itoa (k:Nat)))/\w'=w:=by
 rw[Lib.itoa_nonneg];have hc:=VR h;have h0: ¬(k:Int)<0:=by omega
 have h1:(k:Int)<10:=by omega
 have hz:decide ((k:Int)<0)=false:=by simp
 have hz1:decide ((k:Int)<10)=true:=by simp;omega
 have l2:(k:Int)+1<=10:=by omega
 generalize Lib.decDigits k=d at*;go_enter Tryz.func37,Tryz.ntmps37;go_wp2_with fail
 go_ret;exact⟨rfl,rfl⟩
theorem kH (x:Int)(h0: -1<=x)(h1:x<100)(w:World):Calls Tryz.prog 37 #[.int .i64 x] w fun e w'=>e=.returned (dw (Lib.itoa x))/\w'=w:=by
 by_cases hn:x<0
 .obtain rfl:x= -1:=by omega
  rw[Oo];go_enter Tryz.func37,Tryz.ntmps37;go_wp2_with fail
  go_ret;exact⟨rfl,rfl⟩
 .obtain⟨k,rfl⟩: ∃k:Nat,x=k:=⟨x.toNat,by omega⟩
  by_cases hk:k<10
  .exact t_ k hk w
  .have hz:decide ((k:Int)<0)=false:=by simp
   have hz1:decide ((k:Int)<10)=false:=by simp;omega
   have e1:(k:Int).tdiv 10=((k/10:Nat):Int):=by
    rw[Int.tdiv_eq_ediv_of_nonneg (by omega)];rfl
   have e2:(k:Int).tmod 10=((k % 10:Nat):Int):=by
    rw[Int.tmod_eq_emod_of_nonneg (by omega)];rfl
   have H1:=ah (t_ (k/10) (by omega))
   have H2:=ah (t_ (k % 10) (by omega))
   have HO:Hid (ByteArray.mk ⟨Lib.itoa ((k/10:Nat):Int)⟩++ByteArray.mk ⟨Lib.itoa ((k % 10:Nat):Int)⟩=⟨⟨Lib.itoa (k:Nat)⟩⟩):=by
    show _=_
    rw[iN,Lib.itoa_nonneg,Lib.itoa_nonneg,Lib.itoa_nonneg,Lib.decDigits_two hk (by omega),Lib.decDigits_one (by omega),Lib.decDigits_one (by omega)];rfl
   obtain⟨X,hX⟩: ∃X:ByteArray,X=⟨⟨Lib.itoa ((k/10:Nat):Int)⟩⟩:=⟨_,rfl⟩;obtain⟨Y,hY⟩: ∃Y:ByteArray,Y=⟨⟨Lib.itoa ((k % 10:Nat):Int)⟩⟩:=⟨_,rfl⟩;have sX:X.size<=2:=by rw[hX];show(Lib.itoa ((k/10:Nat):Int)).length<=2;exact jq (by omega) (by omega)
   have sY:Y.size<=2:=by rw[hY];show(Lib.itoa ((k % 10:Nat):Int)).length<=2;exact jq (by omega) (by omega)
   obtain⟨Z,hZ⟩: ∃Z:ByteArray,Z=⟨⟨Lib.itoa (k:Nat)⟩⟩:=⟨_,rfl⟩;unfold dw at H1 H2 ⊢;rw[<-hX] at H1;rw[<-hY] at H2;rw[<-hX,<-hY,<-hZ] at HO;rw[<-hZ];have la:(0:Int)<=((k/10:Nat):Int)/\((k/10:Nat):Int)<=9:=by omega
   have lb:(0:Int)<=((k % 10:Nat):Int)/\((k % 10:Nat):Int)<=9:=by omega
   generalize((k/10:Nat):Int)=a at*;generalize((k % 10:Nat):Int)=b at*;obtain⟨la1,la2⟩:=la;obtain⟨lb1,lb2⟩:=lb;clear hX hY hZ;go_enter Tryz.func37,Tryz.ntmps37;go_wp2_with fail
   refine(H1.out _).mono ?_;rintro e w2 ⟨rfl,rfl⟩;go_wp2_with fail
   refine(H2.out _).mono ?_;rintro e w2 ⟨rfl,rfl⟩;go_wp2_with fail
   go_ret;refine⟨?_,rfl⟩;show Ending.returned (.string (X++Y))=_
   rw[HO.out]
theorem Ga:fO [] = [] :=rfl
theorem Pw {s:List Int}{o:Int}(h:s[0]? =some o):fO (s.take 1)=Lib.itoa o:=by
 cases s with
 |nil=>simp at h
 |cons x r=>
  simp at h;subst h;simp[fO,Lib.join_one]
theorem Ma {s:List Int}{k:Nat}{o:Int}(hk:0<k)(h:s[k]? =some o):fO (s.take (k+1))=fO (s.take k)++ [44] ++Lib.itoa o:=by
 cases s with
 |nil=>simp at h
 |cons x r=>
  obtain⟨j,rfl⟩: ∃j,k=j+1:=⟨k-1,by omega⟩
  simp only[List.getElem?_cons_succ] at h;unfold fO;simp only[List.take_succ_cons,List.map_cons,Lib.join_cons];have e: ∀m,(r.take m).map Lib.itoa=(r.map Lib.itoa).take m:=fun m=>List.map_take ..
  rw[e,e,Lib.joinTail_take_succ _ _ _ (Lib.itoa o) (by rw[List.getElem?_map,h];rfl)]
  simp
def Small (s:List Int):Prop:= ∀x∈s,0<=x/\x<100
theorem Small.take {s:List Int}(h:Small s)(k:Nat):Small (s.take k):=fun x hx=>h x (List.mem_of_mem_take hx)
theorem zG {s:List Int}(hs:Small s):(fO s).length<=3*s.length:=by
 cases s with
 |nil=>simp[Ga]
 |cons x r=>
  unfold fO;rw[List.map_cons,Lib.join_length];have h: ∀l:List Int,Small l->Lib.lens (l.map Lib.itoa)<=2*l.length:=by
   intro l;induction l with
   |nil=>intro _;simp[Lib.lens]
   |cons y q ih=>
    intro hl;have h2:=hl y (by simp)
    have:=jq h2.1 h2.2;have ih:=ih (fun z hz=>hl z (List.mem_cons_of_mem _ hz))
    simp[Lib.lens] at ih ⊢;omega
  have h1:=h (x::r) hs;simp only[List.map_cons,List.length_cons,List.length_map,List.length_nil] at h1 ⊢;omega
theorem qj (A:Option Addr)(n c:Nat)(s:List Int)(w:World)(hx:aM w A n s)(hok:Small s):
 Calls Tryz.prog 31 #[.slice A n c] w fun e w'=>e=.returned (dw (fO s))/\Below w.heap.size w w':=by
 have hn:=hx.2.1;have hl:=hx.1;have HX:=ah hx;have xw:=ah hok;have HL:=ah hl;clear hx hok hl;go_enter Tryz.func31,Tryz.ntmps31;go_wp2_with fail
 go_loopw [3,4] (fun sv iv wr=> ∃ (k:Nat) (T:ByteArray),k<=n/\iv=.int .i64 k/\sv=.string T/\Hid (T=⟨⟨fO (s.take k)⟩⟩)/\Below w.heap.size w wr) (fun _ i _=>n- (intOf i).toNat)
 case atStart=>exact⟨0,_,Nat.zero_le _,rfl,rfl,ah rfl,Below.refl _ _⟩
 case round=>
  obtain⟨k,T,hk,rfl,rfl,HT,hb⟩:=hrel;by_cases hlt:k<n
  .obtain⟨b,off,o,rfl,hbl,ho,c0⟩:=(HX.out.below hb aj).at_ hlt;have VT:=xw.out o (List.mem_of_getElem? ho);have HV:=ah (kH o (by omega) VT.2)
   unfold dw at HV;have hlt2:(k:Int)< (n:Int):=by omega
   obtain⟨X,hX⟩: ∃X:ByteArray,X=⟨⟨Lib.itoa o⟩⟩:=⟨_,rfl⟩;rw[<-hX] at HV;have RI:=ah hX;have Yl:X.size<=3:=by rw[hX];exact Nat.le_trans (jq VT.1 VT.2) (by omega)
   have hTs:T.size<=4398046511104:=by
    rw[HT.out];have h1:=zG (xw.out.take k);have h2:(s.take k).length<=k:=by rw[List.length_take];exact Nat.min_le_left _ _
    show(fO (s.take k)).length<=_
    omega
   by_cases hk0:k=0
   .have HN:Hid (T++X=⟨⟨fO (s.take (k+1))⟩⟩):=by
     show _=_
     rw[HT.out,RI.out,iN];rw[hk0] at ho ⊢;rw[Pw ho];simp[Ga]
    have hz1:decide ((0:Int)< (k:Int))=false:=by simp;omega
    have hz2:decide (0<k)=false:=by simp;omega
    clear hX ho HT hk0 VT;go_wp2_with (go_at_call 37;refine(HV.out _).mono ?_;rintro e w2 ⟨rfl,rfl⟩)
    go_roundw
    case rel=>exact⟨k+1,_,by omega,by go_num,rfl,HN,hb⟩
    case measure=>simp[intOf];omega
   .have hk1:(0:Int)< (k:Int):=by omega
    have hz1:decide ((0:Int)< (k:Int))=true:=by simp;omega
    have hz2:decide (0<k)=true:=by simp;omega
    have HN:Hid (T++⟨#[44]⟩++X=⟨⟨fO (s.take (k+1))⟩⟩):=by
     show _=_
     rw[HT.out,RI.out,Ma (by omega) ho]
     show ByteArray.mk ⟨_⟩++ByteArray.mk ⟨[44]⟩++ByteArray.mk ⟨_⟩=_
     rw[iN,iN]
    clear hX ho HT VT;go_wp2_with (go_at_call 37;refine(HV.out _).mono ?_;rintro e w2 ⟨rfl,rfl⟩)
    go_roundw
    case rel=>exact⟨k+1,_,by omega,by go_num,rfl,HN,hb⟩
    case measure=>simp[intOf];omega
  .obtain rfl:k=n:=by omega
   have HE:Hid (T=⟨⟨fO s⟩⟩):=by
    show _=_
    rw[HT.out,List.take_of_length_le (by rw[HL.out];exact Nat.le_refl _)]
   go_wp2_with fail
   go_ret;refine⟨?_,hb⟩;show Ending.returned (.string T)=_
   rw[HE.out]
def yC (w:World):Prop:=Lib.TabIs Tryz.prog w "internal/strconv.uint64pow10" .u64 Lib.pow10Tab
theorem yC.below {w w':World}(h:yC w)(hb:Below w.heap.size w w'):yC w':=by
 have hg:Tryz.prog.globalNamed "internal/strconv.uint64pow10" =some 2:=by kernel_rfl
 have hlt:2<w.heap.size:=by
  rcases Nat.lt_or_ge 2 w.heap.size with h2|h2
  .exact h2
  .unfold yC Lib.TabIs World.var? at h;rw[hg] at h;simp[Array.getElem?_eq_none h2] at h
 exact var?_below hb hg hlt h
theorem Mc {x:Int}(h0:0<=x)(h1:x<100)(w:World):Calls Tryz.prog 77 #[.int .i64 x] w fun e w'=>e=.returned (dw (Lib.itoa x))/\w'=w:=by
 obtain⟨k,rfl⟩: ∃k:Nat,x=k:=⟨x.toNat,by omega⟩
 rw[Lib.itoa_nonneg];have h:=Any.strconv_Itoa_small SF k (by omega) w
 exact h
theorem SG {x:Int}(h0: -1<=x)(h1:x<100)(w:World)(hp:yC w):Calls Tryz.prog 77 #[.int .i64 x] w fun e w'=>e=.returned (dw (Lib.itoa x))/\Below w.heap.size w w':=by
 have h:=Any.strconv_Itoa VQ x (by omega) (by omega) w hp
 refine Calls.mono h fun e w' hh=>?_
 obtain⟨he,k,os,hw⟩:=hh;refine⟨he,?_⟩;rw[hw];exact Lib.below_grow _ _ aj _ _
theorem Dz (A:Option Addr)(n c:Nat)(s:List Int)(w:World)(hx:aM w A n s)(hok:Small s)(hn16:n<=16):
 Calls Tryz.prog 69 #[.slice A n c] w fun e w'=>e=.returned (dw (fO s))/\Below w.heap.size w w':=by
 have HX:=ah hx;have hn:=hx.2.1;have hl:=hx.1;have HL:=ah hl;have HO:=ah hok;clear hx hok hl;obtain⟨i0,hi,hz0,hz1,hz2⟩:=info_parts Cb;obtain⟨T,hT⟩: ∃T,T=dw (fO s):=⟨_,rfl⟩;rw[<-hT];have HT:=ah hT;clear hT;go_enter Tryz.func69,Tryz.ntmps69;go_wp2_with (at_make;refine wpList_make_own _ rfl _ _ 22 rfl w.heap.size 9 i0 _ 1 Tryz.underlying22 hi hz0 hz1 .i64 .i64 _ n rfl rfl rfl (by rw[hz2];omega) (by unfold maxLen;omega) (by omega) ?_;intro w2 hown2 hg2)
 have hb2:Below w.heap.size w w2:=⟨hg2.os,hg2.tape,hg2.output,hg2.size,fun k hk=>hg2.block k hk (by simp)⟩
 have HST:=ah (And.intro hown2 hb2);clear hown2 hb2 hg2 hi hz0 hz1 hz2;go_loopw [3,11] (fun ov i wr=> ∃ (k:Nat),k<=n/\i=.int .i64 k/\Below w.heap.size w wr/\wr.ownsRow w.heap.size 9 1 ov k (strCells ((s.map Lib.itoa).take k))) (fun _ i _=>n- (intOf i).toNat)
 case atStart=>exact⟨0,Nat.zero_le _,rfl,HST.out.2,HST.out.1⟩
 case round=>
  clear HST;obtain⟨k,hk,rfl,hb,hown⟩:=hrel;obtain⟨Ao,co,rfl,hmc⟩:=aD hown;by_cases hlt:k<n
  .obtain⟨b,off,o,rfl,hbl,ho,c0⟩:=(HX.out.below hb aj).at_ hlt;have VT:=HO.out o (List.mem_of_getElem? ho);have Dv:=ah (fun w=>Mc VT.1 VT.2 w)
   have Ym:Hid ((s.map Lib.itoa).take (k+1)=(s.map Lib.itoa).take k++ [Lib.itoa o]):=aR (by rw[List.getElem?_map,ho];rfl)
   have hlt2:(k:Int)< (n:Int):=by omega
   clear ho VT;generalize Lib.itoa o=x at*;go_wp2_with (first
    |(go_at_call 77;refine(Dv.out _).mono ?_;rintro e w2 ⟨rfl,rfl⟩)
    |(at_builtin;refine oz (.tmp 15) (.tmp 18) (hown.alloc _) (by simp;have:=hb.size;omega) (rG rfl rfl) (by omega) rfl rfl rfl rfl ?_;intro v5 w5 hown5 hg5 Dy))
   have hb5:=Below.own hb hown aj (World.grownBy.trans (World.grownBy_alloc w2 _ _) hg5);go_wp2_with fail
   go_roundw
   case rel=>exact⟨k+1,by omega,by go_num,hb5,by rw[Ym.out];exact hown5⟩
   case measure=>simp[intOf];omega
  .obtain rfl:k=n:=by omega
   have hall:(s.map Lib.itoa).take k=s.map Lib.itoa:=List.take_of_length_le (by rw[List.length_map,HL.out];exact Nat.le_refl _)
   rw[hall] at hown;have HJ:=JR Ao k co (s.map Lib.itoa) wr (eO.aH hown (by omega)) hmc (by have h:=zG HO.out;unfold fO at h;rw[HL.out] at h;omega)
   have HJJ:Hid (Calls Tryz.prog 107 #[.slice Ao k co,.string ⟨#[44]⟩] wr fun e w'=>e=.returned T/\Below wr.heap.size wr w'):=by
    show Calls _ _ _ _ _
    rw[HT.out];exact HJ
   clear hown hall HJ;go_wp2_with (go_at_call 107;refine HJJ.out.mono ?_;rintro e w2 ⟨rfl,hb2⟩)
   go_ret;exact⟨rfl,hb.trans (hb2.mono hb.size)⟩
def tC:List UInt8:=([119,104,97,116] :List UInt8)
def xA:List UInt8:=([119,114,111,110,103] :List UInt8)
def aah:List UInt8:=([110,111,110,101] :List UInt8)
def rR (b:Bool):List UInt8:=if b then([121,101,115] :List UInt8) else([110,111] :List UInt8)
def Ie (xss:List (List Int)):List UInt8:=match xss with| [] =>aah|o::_=>fO o
def dL (most:Nat)(f:List ay->List UInt8)(t:List UInt8):List UInt8:=if aF (aX t) &&decide ((aX t).length<=most) then f (aX t) else xA
theorem gH {most:Nat}{f:List ay->List UInt8}{t:List UInt8}(h:aF (aX t)=false):dL most f t=xA:=by unfold dL;rw[h];rfl
theorem pJ {most:Nat}{f:List ay->List UInt8}{t:List UInt8}(h: ¬(aX t).length<=most):dL most f t=xA:=by unfold dL;rw[decide_eq_false h,Bool.and_false];rfl
theorem oF {most:Nat}{f:List ay->List UInt8}{t:List UInt8}(h:aF (aX t)=true)(h2:(aX t).length<=most):dL most f t=f (aX t):=by unfold dL;rw[h,decide_eq_true h2];rfl
theorem jJ {f:List ay->List UInt8}{t:List UInt8}(h:aF (aX t)=true):dL 16 f t=f (aX t):=oF h ((bn _).1 h).1
structure VU (W:World)(b off:Nat)(u t:ByteArray):Prop where
 c0:W.cell? ⟨b,off,none⟩=some (.string u)
 c1:W.cell? ⟨b,off+1,none⟩=some (.string t)
 lt:b<W.heap.size
theorem VU.below {w w':World}{b off B:Nat}{u t:ByteArray}(h:VU w b off u t)(hb:Below B w w')(hB:w.heap.size<=B):VU w' b off u t:=
 ⟨(hb.cell (p:=⟨b,_,none⟩) (by have:=h.lt;simp;omega)).trans h.c0,(hb.cell (p:=⟨b,_,none⟩) (by have:=h.lt;simp;omega)).trans h.c1,Nat.lt_of_lt_of_le h.lt hb.size⟩
theorem dH.two {w w':World}{u t:List UInt8}{e:Ending}(h:dH w [u,t] e w'): ∃b off c,e=.returned (.slice (some ⟨b,off,none⟩) 2 c)/\2<=c/\VU w' b off ⟨⟨u⟩⟩ ⟨⟨t⟩⟩/\Below w.heap.size w w':=by
 obtain⟨A,c,rfl,hc,hr,hA,hb⟩:=h;obtain⟨b,off,rfl,hlt,hcell⟩:=hr.2.2 (by simp)
 exact⟨b,off,c,rfl,hc,⟨hcell 0 _ rfl,hcell 1 _ rfl,hlt⟩,hb⟩
theorem dH.len {w w':World}{xs:List (List UInt8)}{e:Ending}(h:dH w xs e w'): ∃A n c,e=.returned (.slice A n c)/\n=xs.length/\Below w.heap.size w w':=by
 obtain⟨A,c,rfl,hc,hr,hA,hb⟩:=h;exact⟨A,_,c,rfl,rfl,hb⟩
def nA (w:World)(x:List UInt8)(e:Ending)(w':World):Prop:=e=.returned (dw x)/\Below w.heap.size w w'
theorem Md (b:Bool)(w:World):Calls Tryz.prog 28 #[.bool b] w fun e w'=>e=.returned (dw (rR b))/\w'=w:=by
 cases b
 .go_enter Tryz.func28,Tryz.ntmps28;go_wp2_with fail
  go_ret;exact⟨rfl,rfl⟩
 .go_enter Tryz.func28,Tryz.ntmps28;go_wp2_with fail
  go_ret;exact⟨rfl,rfl⟩
def fB (s:ay):Bool:=xW s.tx 0 3&&xW s.kind 0 4&&xW s.item 0 2
theorem fC {s:ay} :fB s=true↔(0<=s.tx/\s.tx<=3)/\(0<=s.kind/\s.kind<=4)/\0<=s.item/\s.item<=2:=by
 simp only[fB,xW,Bool.and_eq_true,decide_eq_true_eq];omega
def gB (t x h:Int)(s:ay):Int:=if s.tx=t/\s.item=x then(if s.kind=2 then-1 else if s.kind<=1 then s.kind else h) else h
def aL (st:List ay)(t x:Int):Int:=st.foldl (gB t x) (-1)
theorem zH (t x:Int):aL [] t x= -1:=rfl
theorem jr (st:List ay)(s:ay)(t x:Int):aL (st++ [s]) t x=gB t x (aL st t x) s:=by simp[aL]
theorem rT {st:List ay}{k:Nat}{s:ay}(h:st[k]? =some s)(t x:Int):aL (st.take (k+1)) t x=gB t x (aL (st.take k) t x) s:=by
 rw[aR h,jr]
theorem nX {st:List ay}(h: ∀s∈st,fB s=true)(t x:Int):aL st t x= -1\/aL st t x=0\/aL st t x=1:=by
 have: ∀ (l:List ay) (a:Int),(∀s∈l,fB s=true)->(a= -1\/a=0\/a=1)->(l.foldl (gB t x) a= -1\/l.foldl (gB t x) a=0\/l.foldl (gB t x) a=1):=by
  intro l;induction l with
  |nil=>intro a _ ha;exact ha
  |cons s r ih=>
   intro a hl ha;rw[List.foldl_cons];refine ih _ (fun q hq=>hl q (List.mem_cons_of_mem _ hq)) ?_
   have:=fC.1 (hl s (by simp))
   unfold gB;split
   .split
    .exact .inl rfl
    .split
     .omega
     .exact ha
   .exact ha
 exact this st (-1) h (.inl rfl)
theorem Me {st:List ay}{t x:Int}(h: ∀s∈st,¬(s.tx=t/\s.item=x)):aL st t x= -1:=by
 have: ∀ (l:List ay) (a:Int),(∀s∈l,¬(s.tx=t/\s.item=x))->l.foldl (gB t x) a=a:=by
  intro l;induction l with
  |nil=>intro a _;rfl
  |cons s r ih=>
   intro a hl;rw[List.foldl_cons];have e:gB t x a s=a:=by unfold gB;rw[if_neg (hl s (by simp))]
   rw[e];exact ih a fun q hq=>hl q (List.mem_cons_of_mem _ hq)
 exact this st (-1) h
theorem Gb {st:List ay}(h: ∀s∈st,fB s=true){t x:Int}(ho: ¬((0<=t/\t<=3)/\0<=x/\x<=2)):aL st t x= -1:=
 Me fun s hs e=>ho (by have:=fC.1 (h s hs);omega)
def vw (p:List ay)(t x least:Int):Bool:= [0,1,2,3].any fun u=>u !=t&&decide (least<=aL p u x)
def yD (p:List ay)(o:ay):Bool:=
 if o.kind=0 then decide (0<=aL p o.tx o.item)||vw p o.tx o.item 1
 else if o.kind=1 then aL p o.tx o.item==1||vw p o.tx o.item 0
 else if o.kind=4 then aL p o.tx o.item !=1
 else decide (aL p o.tx o.item<0)
def oG (st:List ay)(i:Nat):Bool:=match st[i]? with|some o=>yD (st.take i) o|none=>false
theorem yE:Tryz.prog.cellsOf 186=2:=by kernel_rfl
theorem SH:(186:TypeId)<Tryz.prog.types.size:=of_decide_eq_true (by kernel_rfl)
theorem Yn:(match Tryz.prog.underlying 186 with|some (.array _ _)|some (.struct _)=>true|_=>false)=true:=by rw[Tryz.underlying186]
theorem Yo:laidOutB Tryz.prog=true:=by kernel_rfl
theorem aai:WideMaps.KeyLaw Tryz.prog 186:=deep_law_laid Yo (m:=2) (by omega) SH (by kernel_rfl) Yn
theorem Cg:Maps.Keyed Tryz.prog 186:=Maps.Keyed.of_law aai
theorem Yp:Tryz.prog.keyType 186=true:=by kernel_rfl
def DC (t u:Int):Value:=.agg #[.int .i64 t,.int .i64 u]
theorem JU {a b:Value} :(Value.agg #[a,b]).formed Tryz.prog 186=true:=by simp[Value.formed,Tryz.underlying186,yE]
def jR (t u:Int):Lit:=.string (keyBytes [.int .i64 t,.int .i64 u])
theorem Oq {t u:Int}(ht:(Lit.int .i64 t).wf=true)(hu:(Lit.int .i64 u).wf=true):keyOf Tryz.prog 186 (DC t u)=some (jR t u):=by
 obtain⟨d,hd⟩: ∃d,Tryz.prog.types.size=d+1:=⟨Tryz.prog.types.size-1,by have h:(186:Nat)<Tryz.prog.types.size:=SH;omega⟩
 have hc:Tryz.prog.cellsOf 3=1:=by kernel_rfl
 unfold keyOf DC jR;rw[Tryz.underlying186];simp only[Yp,JU,Bool.and_self,if_true];rw[hd];simp[Program.keyLits,Tryz.underlying186,Tryz.underlying3,yE,hc,Value.cells,ht,hu]
theorem Xw {v:Value}{kl:Lit}(h:keyOf Tryz.prog 186 v=some kl): ∃t u:Int,v=DC t u/\(Lit.int .i64 t).wf=true/\(Lit.int .i64 u).wf=true/\kl=jR t u:=by
 have h0:=h;have hf:v.formed Tryz.prog 186=true:=by
  unfold keyOf at h;rw[Tryz.underlying186] at h;simp only[Yp,Bool.true_and] at h;cases hv:v.formed Tryz.prog 186
  .rw[hv] at h;simp at h
  .rfl
 obtain⟨cs,rfl⟩: ∃cs,v=.agg cs:=by
  cases v<;>simp[Value.formed,Tryz.underlying186] at hf ⊢
 have hsz:cs.size=2:=by
  simp only[Value.formed,Tryz.underlying186,yE,beq_iff_eq] at hf;exact hf
 obtain⟨a,b,rfl⟩: ∃a b,cs= #[a,b] :=by
  obtain⟨l⟩:=cs
  match l,hsz with
  | [a,b],_=>exact⟨a,b,rfl⟩
 obtain⟨d,hd⟩: ∃d,Tryz.prog.types.size=d+1:=⟨Tryz.prog.types.size-1,by have h:(186:Nat)<Tryz.prog.types.size:=SH;omega⟩
 have hc:Tryz.prog.cellsOf 3=1:=by kernel_rfl
 have key: ∀x:Value,(∃n:Int,x=.int .i64 n/\(Lit.int .i64 n).wf=true)\/Tryz.prog.keyLits (d+1) 3 [x] =none:=by
  intro x;cases x
  case int q n=>
   by_cases hq:q=.i64/\(Lit.int .i64 n).wf=true
   .obtain⟨rfl,hw⟩:=hq;exact .inl ⟨n,rfl,hw⟩
   .right
    simp only[Program.keyLits,Tryz.underlying3];rw[if_neg hq]
  all_goals (right;simp[Program.keyLits,Tryz.underlying3])
 unfold keyOf at h;rw[Tryz.underlying186] at h;simp only[Yp,JU,Bool.and_self,if_true] at h;rw[hd] at h;rw[Program.keyLits.eq_def] at h;simp only[Tryz.underlying186,Value.cells] at h;rcases key a with⟨t,rfl,ht⟩|ha
 .rcases key b with⟨u,rfl,hu⟩|hb
  .refine⟨t,u,rfl,ht,hu,?_⟩;have h1:=Oq ht hu;unfold DC at h1;rw[h1] at h0;injection h0 with h0;exact h0.symm
  .simp[yE,hc,hb] at h
 .simp[yE,hc,ha] at h
theorem JV {P:Program}{e:TypeId}(he:P.underlying e=some .bool){v:Value}{z:DataW Unit×List MemPlace}(h:plainElem (H:=Unit) P e v=some z): ∃c:Bool,v=.bool c/\z=(.lit (.bool c),[]):=by
 unfold plainElem at h;rw[he] at h;cases v<;>simp at h
 exact⟨_,rfl,h.symm⟩
theorem DF {v:Value}{z:DataW Unit×List MemPlace}(h:plainElem (H:=Unit) Tryz.prog 4 v=some z): ∃c:Bool,v=.bool c/\z=(.lit (.bool c),[]):=JV Tryz.underlying4 h
section
variable {w:World} {ops:Array Oper} {rest:List Oper} {o:Oper} {a:Act} {Q:Exit->Act->World->Prop}
theorem JW (hg:o.guard=none)(it:Operand)(hop:o.op=Op.next it false)(b r n:Nat)(D:DataW Unit)(left:Lit->Bool)(cnt:Nat)
 (hit:a.eval it=.pointer (some ⟨r,0,none⟩)) (h:w.ranges Tryz.prog 186 (plainElem (H:=Unit) Tryz.prog 4) b r n D left cnt)
 (hDone:cnt=0->(∀kl,left kl=false)->wpList Tryz.prog ops Q rest (a.put o.dst (.tuple #[.bool false])) w)
 (hMore: ∀ (t u:Int) (c:Bool) (w':World) (cnt':Nat),(Lit.int .i64 t).wf=true->(Lit.int .i64 u).wf=true->left (jR t u)=true->(∀zd,D.atKey (jR t u) zd=.lit (.bool c))->w'.ranges Tryz.prog 186 (plainElem (H:=Unit) Tryz.prog 4) b r n D (fun z=>left z&& !z.sameKey (jR t u)) cnt'->cnt'<cnt->
  w.grownBy w' (some r)->w'.heap.size=w.heap.size->(Instr.entry (.pointer (some ⟨r,0,none⟩))).run Tryz.prog w'=.ok (.tuple #[.agg #[.int .i64 t,.int .i64 u],.bool c]) w'->wpList Tryz.prog ops Q rest (a.put o.dst (.tuple #[.bool true,.agg #[.int .i64 t,.int .i64 u],.bool c])) w'):
 wpList Tryz.prog ops Q (o::rest) a w:=by
 refine wpList_next_ranges w hg it hop 186 Cg (plainElem (H:=Unit) Tryz.prog 4) (fun p:Int×Int=>DC p.1 p.2) (fun c:Bool=>.bool c) (fun key kl hk=>?_) (fun v y hv=>?_) b r n D left cnt hit h hDone ?_
 .obtain⟨t,u,rfl,_⟩:=Xw hk;exact⟨(t,u),rfl⟩
 .obtain⟨c,rfl,_⟩:=DF hv;exact⟨c,rfl⟩
 .rintro⟨x1,x2⟩ c kl y w' cnt' hk hl hv hat hrg hlt hgr hsz hen;obtain⟨t,u,e,ht,hu,rfl⟩:=Xw hk;unfold DC at e;simp only[Value.agg.injEq,Array.mk.injEq,List.cons.injEq,Value.int.injEq,true_and,and_true] at e;obtain⟨rfl,rfl⟩:=e;obtain⟨c',e,rfl⟩:=DF hv;obtain rfl:c=c':=by simpa using e
  exact hMore x1 x2 c w' cnt' ht hu hl hat hrg hlt hgr hsz hen
end
end Go.Proofs.YtddkjbibjjehjaaGreatDoor
