/-
  Texts that the proof rests on, joined: part 49.
-/
import Derived.Shelf.Strings.BuilderK
import Derived.Test.YtddkjbibjjehjaaGreatDoorSXr48
set_option maxHeartbeats 16000000
set_option maxRecDepth 100000
namespace Go.Proofs.YtddkjbibjjehjaaGreatDoor
open Go.RowKit Go.BigFrame
set_option linter.unusedVariables false
theorem G_ {gs hs:List Nat}{u:List UInt8}(hg:gs.length=5)(hh:hs.length=3)(hs1:(nV (eD++List.zipWith dK bT gs++List.zipWith iL eU hs) u).isSome=true): ∃m f cs,nV (eD++List.zipWith dK bT gs++List.zipWith iL eU hs) u=some (.agg #[.int .i64 m,.func (.func f) #[] cs]):=by
 obtain⟨g0,g1,g2,g3,g4,rfl⟩:=zo hg;obtain⟨h0,h1,h2,rfl⟩:=zq hh;obtain⟨v,h⟩:=Option.isSome_iff_exists.1 hs1;rw[h];unfold nV at h;rw[Option.map_eq_some_iff] at h;obtain⟨p,hp,rfl⟩:=h;have hm:=List.mem_of_find?_eq_some hp;unfold eD bT eU at hm;simp only[List.zipWith_cons_cons,List.zipWith_nil_left,List.cons_append,List.nil_append,List.mem_cons,List.not_mem_nil,or_false] at hm;rcases hm with rfl|rfl|rfl|rfl|rfl|rfl|rfl|rfl|rfl|rfl|rfl|rfl<;>exact⟨_,_,_,rfl⟩
theorem He {α β:Type}(u:List UInt8): ∀ (L:List (List UInt8×α)) (M:List (List UInt8×β)),L.map (·.1)=M.map (·.1)->((L.find? fun p=>p.1==u).map (·.2)).isSome=((M.find? fun p=>p.1==u).map (·.2)).isSome
 | [],[],_=>rfl
 | [],_::_,h=>by cases h
 |_::_,[],h=>by cases h
 |p::L,q::M,h=>by
  simp only[List.map_cons,List.cons.injEq] at h;have ih:=He u L M h.2;rw[List.find?_cons,List.find?_cons,h.1];cases(q.1==u)
  .exact ih
  .rfl
theorem AL {gs hs:List Nat}{u:List UInt8}(hg:gs.length=5)(hh:hs.length=3):(nV (eD++List.zipWith dK bT gs++List.zipWith iL eU hs) u).isSome=(jW u).isSome:=by
 obtain⟨g0,g1,g2,g3,g4,rfl⟩:=zo hg;obtain⟨h0,h1,h2,rfl⟩:=zq hh;unfold nV jW;exact He u _ _ rfl
theorem AO (l:List UInt8)(w:World)(hl:l.length<=1073741824)(Gv:(jW (o8 l 32)).isSome=false):
 Calls Tryz.prog 14 #[.string ⟨⟨l⟩⟩] w (nA w tC):=by
 have Kr:=ah (CP l 32 w (by omega))
 obtain⟨T,hT⟩: ∃T:ByteArray,(⟨⟨qU l 32⟩⟩:ByteArray)=T:=⟨_,rfl⟩;obtain⟨U,hU⟩: ∃U:ByteArray,(⟨⟨o8 l 32⟩⟩:ByteArray)=U:=⟨_,rfl⟩;unfold dw at Kr;rw[hT,hU] at Kr;generalize decide (0<=Lib.indexByte l 32)=sb at*;have HLK:Hid (∀ (w:World) (b:Nat) (gs hs:List Nat),gs.length=5->hs.length=3->qE w b (eD++List.zipWith dK bT gs++List.zipWith iL eU hs)->(Instr.lookup 76 (.map (some b)) (.string U) true).run Tryz.prog w=.ok (.tuple #[.agg #[.int .i64 0,.nilFunc],.bool false]) w):=ah (fun w b gs hs hg hh hq=>by
  have h:=O4 hq (o8 l 32);have e0:(nV (eD++List.zipWith dK bT gs++List.zipWith iL eU hs) (o8 l 32)).isSome=false:=(AL hg hh).trans Gv;rw[Option.isSome_eq_false_iff,Option.isNone_iff_eq_none] at e0;rw[e0] at h;rw[<-hU];exact h)
 clear hT hU Gv hl;go_enter Tryz.func14,Tryz.ntmps14;go_wp2_with fail
 refine Kr.out.mono ?_;rintro e w1 ⟨rfl,hb1⟩;go_wp2_with fail
 refine(mR w1).mono ?_;rintro e w2 ⟨b,gs,hs,rfl,hg5,hh3,hq⟩;have hlk:=HLK.out w2 b gs hs hg5 hh3 hq.map;have HB2:=ah (hb1.trans (hq.Bw.mono hb1.size));clear hq hg5 hh3 hb1;have nD:Hid (Below w2.heap.size w2 (w2.alloc (.cells #[.int .i64 0,.nilFunc] 74))):=aG.alloc aj _;go_wp2_with fail
 go_ret;exact⟨rfl,HB2.out.trans (nD.out.mono HB2.out.size)⟩
theorem NZ (l:List UInt8)(w:World)(hl:l.length<=1073741824)(Gv:(jW (o8 l 32)).isSome=true)(hsb:decide (0<=Lib.indexByte l 32)=false):
 Calls Tryz.prog 14 #[.string ⟨⟨l⟩⟩] w (nA w tC):=by
 have Kr:=ah (CP l 32 w (by omega))
 obtain⟨T,hT⟩: ∃T:ByteArray,(⟨⟨qU l 32⟩⟩:ByteArray)=T:=⟨_,rfl⟩;obtain⟨U,hU⟩: ∃U:ByteArray,(⟨⟨o8 l 32⟩⟩:ByteArray)=U:=⟨_,rfl⟩;unfold dw at Kr;rw[hT,hU,hsb] at Kr;skip;have HLK:Hid (∀ (w:World) (b:Nat) (gs hs:List Nat),gs.length=5->hs.length=3->qE w b (eD++List.zipWith dK bT gs++List.zipWith iL eU hs)-> ∃m f cs,(Instr.lookup 76 (.map (some b)) (.string U) true).run Tryz.prog w=.ok (.tuple #[.agg #[.int .i64 m,.func (.func f) #[] cs],.bool true]) w):=ah (fun w b gs hs hg hh hq=>by
  have h:=O4 hq (o8 l 32);have e0:(nV (eD++List.zipWith dK bT gs++List.zipWith iL eU hs) (o8 l 32)).isSome=true:=(AL hg hh).trans Gv;obtain⟨m,f,cs,e⟩:=G_ hg hh e0;rw[e] at h;rw[<-hU];exact⟨m,f,cs,h⟩)
 clear hT hU Gv hsb hl;go_enter Tryz.func14,Tryz.ntmps14;go_wp2_with fail
 refine Kr.out.mono ?_;rintro e w1 ⟨rfl,hb1⟩;go_wp2_with fail
 refine(mR w1).mono ?_;rintro e w2 ⟨b,gs,hs,rfl,hg5,hh3,hq⟩;obtain⟨m,f,cs,hlk⟩:=HLK.out w2 b gs hs hg5 hh3 hq.map;have HB2:=ah (hb1.trans (hq.Bw.mono hb1.size));clear hq hg5 hh3 hb1;have nD:Hid (Below w2.heap.size w2 (w2.alloc (.cells #[.int .i64 m,.func (.func f) #[] cs] 74))):=aG.alloc aj _;go_wp2_with fail
 go_ret;exact⟨rfl,HB2.out.trans (nD.out.mono HB2.out.size)⟩
theorem Rx (l:List UInt8)(w:World)(hl:l.length<=1073741824)(Gv:(jW (o8 l 32)).isSome=true)(hsb:decide (0<=Lib.indexByte l 32)=true)(hco:0<=Lib.indexByte (qU l 32) 32):
 Calls Tryz.prog 14 #[.string ⟨⟨l⟩⟩] w (nA w tC):=by
 have Kr:=ah (CP l 32 w (by omega))
 obtain⟨T,hT⟩: ∃T:ByteArray,(⟨⟨qU l 32⟩⟩:ByteArray)=T:=⟨_,rfl⟩;obtain⟨U,hU⟩: ∃U:ByteArray,(⟨⟨o8 l 32⟩⟩:ByteArray)=U:=⟨_,rfl⟩;unfold dw at Kr;rw[hT,hU,hsb] at Kr;have HCO:Hid (∀w,Calls Tryz.prog 42 #[.string T,.string ⟨#[32]⟩] w fun e w'=>e=.returned (.bool true)/\w'=w):=ah (fun w=>by
  have h:=zm ⟨⟨qU l 32⟩⟩ 32 w;rw[show decide (0<=Lib.indexByte (⟨⟨qU l 32⟩⟩:ByteArray).data.toList 32)=true from decide_eq_true hco] at h
  rw[<-hT];exact h)
 skip;have HLK:Hid (∀ (w:World) (b:Nat) (gs hs:List Nat),gs.length=5->hs.length=3->qE w b (eD++List.zipWith dK bT gs++List.zipWith iL eU hs)-> ∃m f cs,(Instr.lookup 76 (.map (some b)) (.string U) true).run Tryz.prog w=.ok (.tuple #[.agg #[.int .i64 m,.func (.func f) #[] cs],.bool true]) w):=ah (fun w b gs hs hg hh hq=>by
  have h:=O4 hq (o8 l 32);have e0:(nV (eD++List.zipWith dK bT gs++List.zipWith iL eU hs) (o8 l 32)).isSome=true:=(AL hg hh).trans Gv;obtain⟨m,f,cs,e⟩:=G_ hg hh e0;rw[e] at h;rw[<-hU];exact⟨m,f,cs,h⟩)
 clear hT hU Gv hsb hco hl;go_enter Tryz.func14,Tryz.ntmps14;go_wp2_with fail
 refine Kr.out.mono ?_;rintro e w1 ⟨rfl,hb1⟩;go_wp2_with fail
 refine(mR w1).mono ?_;rintro e w2 ⟨b,gs,hs,rfl,hg5,hh3,hq⟩;obtain⟨m,f,cs,hlk⟩:=HLK.out w2 b gs hs hg5 hh3 hq.map;have HB2:=ah (hb1.trans (hq.Bw.mono hb1.size));clear hq hg5 hh3 hb1;have nD:Hid (Below w2.heap.size w2 (w2.alloc (.cells #[.int .i64 m,.func (.func f) #[] cs] 74))):=aG.alloc aj _;go_wp2_with fail
 refine(HCO.out _).mono ?_;rintro e w3 ⟨rfl,hw3⟩;have hb3:Below w2.heap.size w2 w3:=by rw[hw3];exact nD.out
 clear hw3;go_wp2_with fail
 go_ret;exact⟨rfl,HB2.out.trans (hb3.mono HB2.out.size)⟩
theorem Ry: ∀p∈zi,zu p.1 p.2.1 p.2.2:=by
 unfold zi;simp only[List.forall_mem_cons];exact⟨Lr,NV,NW,FQ,AJ,FR,Ls,FT,Jt,Rv,U6,NY,fun p h=>by cases h⟩
theorem N7 (l:List UInt8)(w:World)(hl:l.length<=1073741824)(hL:Laid w):
 Calls Tryz.prog 14 #[.string ⟨⟨l⟩⟩] w (nA w (nU l)):=by
 have hi:= @rF 32 l;by_cases hsp:0<=Lib.indexByte l 32
 .obtain⟨_,e⟩:=hi.2 hsp;have eA:o8 l 32=l.take (Lib.indexByte l 32).toNat:=by unfold o8;rw[if_pos hsp]
  have eB:qU l 32=l.drop ((Lib.indexByte l 32).toNat+1):=by unfold qU;rw[if_pos hsp]
  rw[<-eA,<-eB] at e;have hj:= @rF 32 (qU l 32);by_cases hco:0<=Lib.indexByte (qU l 32) 32
  .have ea:nU l=tC:=by
    unfold nU;rw[e,(hj.2 hco).2];cases he:fK 32 ((qU l 32).drop ((Lib.indexByte (qU l 32) 32).toNat+1)) with
    |nil=>exact absurd he (yw _ _)
    |cons x r=>rfl
   rw[ea];cases ho:(jW (o8 l 32)).isSome
   .exact AO l w hl ho
   .exact Rx l w hl ho (decide_eq_true hsp) hco
  .have e2:=hj.1 (by omega)
   rw[e2] at e;cases hu:jW (o8 l 32) with
   |none=>
    have:nU l=tC:=by unfold nU;rw[e];simp only;rw[hu]
    rw[this];exact AO l w hl (by rw[hu];rfl)
   |some q=>
    have:nU l=dL q.1 q.2 (qU l 32):=by unfold nU;rw[e];simp only;rw[hu]
    rw[this];unfold jW at hu;rw[Option.map_eq_some_iff] at hu;obtain⟨p,hp,rfl⟩:=hu;have hmem:=List.mem_of_find?_eq_some hp;have hk:p.1=o8 l 32:=by simpa using List.find?_some hp
    exact Ry p hmem l _ w hl hk.symm rfl hsp (by omega) hL
 .have e:=hi.1 (by omega)
  have ea:nU l=tC:=by unfold nU;rw[e]
  rw[ea];cases ho:(jW (o8 l 32)).isSome
  .exact AO l w hl ho
  .exact NZ l w hl ho (decide_eq_false hsp)
open Go.RowKit
def CQ:Go.Shelf.Ren:=⟨fun|166=>13|240=>39|276=>63|167=>15|169=>16|n=>n,fun|0=>0|3=>3|4=>4|9=>9|20=>20|37=>28|5=>5|70=>33|72=>35|75=>37|80=>41|164=>104|127=>84|n=>n,fun n=>n⟩
theorem ZK:Go.Proofs.Lays.n166 Tryz.prog CQ where
 mixed:=by kernel_rfl
 f166:=Tryz.func13.trans (congrArg some (by kernel_rfl))
 f240:=Tryz.func39.trans (congrArg some (by kernel_rfl))
 f276:=Tryz.func63.trans (congrArg some (by kernel_rfl))
 t0:=Tryz.underlying0
 a0:=Tryz.isAgg0
 z0:=Tryz.sizeOf0
 v0:=Tryz.zeroValue0
 t3:=Tryz.underlying3
 a3:=Tryz.isAgg3
 z3:=Tryz.sizeOf3
 v3:=Tryz.zeroValue3
 t4:=Tryz.underlying4
 a4:=Tryz.isAgg4
 z4:=Tryz.sizeOf4
 v4:=Tryz.zeroValue4
 t9:=Tryz.underlying9
 a9:=Tryz.isAgg9
 z9:=Tryz.sizeOf9
 v9:=Tryz.zeroValue9
 t20:=Tryz.underlying20
 a20:=Tryz.isAgg20
 z20:=Tryz.sizeOf20
 v20:=Tryz.zeroValue20
 t37:=Tryz.underlying28
 a37:=Tryz.isAgg28
 z37:=Tryz.sizeOf28
 v37:=Tryz.zeroValue28
 t70:=Tryz.underlying33
 a70:=Tryz.isAgg33
 z70:=Tryz.sizeOf33
 v70:=Tryz.zeroValue33
 t72:=Tryz.underlying35
 a72:=Tryz.isAgg35
 z72:=Tryz.sizeOf35
 v72:=Tryz.zeroValue35
 t75:=Tryz.underlying37
 a75:=Tryz.isAgg37
 z75:=Tryz.sizeOf37
 v75:=Tryz.zeroValue37
 t164:=Tryz.underlying104
 a164:=Tryz.isAgg104
 z164:=Tryz.sizeOf104
 v164:=Tryz.zeroValue104
theorem ZL:Go.Proofs.Lays.n167 Tryz.prog CQ where
 mixed:=by kernel_rfl
 f167:=Tryz.func15.trans (congrArg some (by kernel_rfl))
 f240:=Tryz.func39.trans (congrArg some (by kernel_rfl))
 f276:=Tryz.func63.trans (congrArg some (by kernel_rfl))
 t0:=Tryz.underlying0
 a0:=Tryz.isAgg0
 z0:=Tryz.sizeOf0
 v0:=Tryz.zeroValue0
 t4:=Tryz.underlying4
 a4:=Tryz.isAgg4
 z4:=Tryz.sizeOf4
 v4:=Tryz.zeroValue4
 t5:=Tryz.underlying5
 a5:=Tryz.isAgg5
 z5:=Tryz.sizeOf5
 v5:=Tryz.zeroValue5
 t9:=Tryz.underlying9
 a9:=Tryz.isAgg9
 z9:=Tryz.sizeOf9
 v9:=Tryz.zeroValue9
 t20:=Tryz.underlying20
 a20:=Tryz.isAgg20
 z20:=Tryz.sizeOf20
 v20:=Tryz.zeroValue20
 t37:=Tryz.underlying28
 a37:=Tryz.isAgg28
 z37:=Tryz.sizeOf28
 v37:=Tryz.zeroValue28
 t70:=Tryz.underlying33
 a70:=Tryz.isAgg33
 z70:=Tryz.sizeOf33
 v70:=Tryz.zeroValue33
 t72:=Tryz.underlying35
 a72:=Tryz.isAgg35
 z72:=Tryz.sizeOf35
 v72:=Tryz.zeroValue35
 t75:=Tryz.underlying37
 a75:=Tryz.isAgg37
 z75:=Tryz.sizeOf37
 v75:=Tryz.zeroValue37
 t164:=Tryz.underlying104
 a164:=Tryz.isAgg104
 z164:=Tryz.sizeOf104
 v164:=Tryz.zeroValue104
theorem ZM:Go.Proofs.Lays.n169 Tryz.prog CQ where
 mixed:=by kernel_rfl
 f169:=Tryz.func16.trans (congrArg some (by kernel_rfl))
 t0:=Tryz.underlying0
 a0:=Tryz.isAgg0
 z0:=Tryz.sizeOf0
 v0:=Tryz.zeroValue0
 t3:=Tryz.underlying3
 a3:=Tryz.isAgg3
 z3:=Tryz.sizeOf3
 v3:=Tryz.zeroValue3
 t9:=Tryz.underlying9
 a9:=Tryz.isAgg9
 z9:=Tryz.sizeOf9
 v9:=Tryz.zeroValue9
 t37:=Tryz.underlying28
 a37:=Tryz.isAgg28
 z37:=Tryz.sizeOf28
 v37:=Tryz.zeroValue28
 t70:=Tryz.underlying33
 a70:=Tryz.isAgg33
 z70:=Tryz.sizeOf33
 v70:=Tryz.zeroValue33
 t72:=Tryz.underlying35
 a72:=Tryz.isAgg35
 z72:=Tryz.sizeOf35
 v72:=Tryz.zeroValue35
 t127:=Tryz.underlying84
 a127:=Tryz.isAgg84
 z127:=Tryz.sizeOf84
 v127:=Tryz.zeroValue84
theorem ZN:Go.Proofs.Builder.Extra Tryz.prog CQ where
 sizeBuilder:=by kernel_rfl
 liesBuilder:=by kernel_rfl
 t5:=Tryz.underlying5
 a5:=Tryz.isAgg5
 z5:=Tryz.sizeOf5
 v5:=Tryz.zeroValue5
 infoByte:=by kernel_rfl
 cellsByte:=by kernel_rfl
 sizeByte:=by kernel_rfl
 neB5:=by decide
abbrev qV (w W:World)(x:List UInt8):Prop:=Lib.IsBuilderF 35 5 w.heap.size w.heap.size (Lib.byteCells x) W
theorem Hf {T e:TypeId}{B b:Nat}{p:Value}{bs:List Value}{W W':World}(h:Lib.BuilderAtF T e B b p bs W)(hb:Below W.heap.size W W'):Lib.BuilderAtF T e B b p bs W':=by
 have hlt:=h.lt;obtain⟨hB,v,hv,hown,hne⟩:=h;exact⟨hB,v,(hb.block b hlt).trans hv,hown.kept (row:=none) ⟨hb.os,hb.tape,hb.output,hb.size,fun k hk _=>hb.block k hk⟩ (Classical.em _),hne⟩
theorem qV.below {w W W':World}{x:List UInt8}(h:qV w W x)(hb:Below W.heap.size W W'):qV w W' x:=
 h.elim (fun y=>.inl (Hf y hb)) (fun y=>.inr (Hf y hb))
theorem Rz (x:List UInt8):Lib.strCells ⟨⟨x⟩⟩=Lib.byteCells x:=rfl
theorem qV.start (w:World):qV w (w.alloc (.cells #[.pointer none,.slice none 0 0] 35)) [] :=by
 refine .inl (Lib.BuilderAtF.of ⟨Nat.le_refl _,.slice none 0 0,heap_alloc_new w _,?_,by simp[Value.ownBlock]⟩)
 exact World.ownsRow_nil _ _ _ _
theorem RB {w W:World}{y:List UInt8}(h:qV w W y)(x:List UInt8)(hl:y.length+x.length<=140737488355328)(hw:w.heap.size<=W.heap.size):
 Calls Tryz.prog 13 #[.pointer (some ⟨w.heap.size,0,none⟩),.string ⟨⟨x⟩⟩] W fun e w'=>(∃v,e=.returned v)/\qV w w' (y++x)/\Below w.heap.size W w':=by
 have h1:=Any.Builder_WriteString_k ZK ZN w.heap.size w.heap.size (Lib.byteCells y) ⟨⟨x⟩⟩ W h (by unfold Lib.byteCells;rw[List.length_map];exact hl) hw
 refine Calls.mono h1 fun e w' hh=>?_
 obtain⟨he,hb,hbe,_⟩:=hh;refine⟨⟨_,he⟩,?_,hbe⟩;have e2:Lib.byteCells y++Lib.strCells ⟨⟨x⟩⟩=Lib.byteCells (y++x):=by rw[Rz];unfold Lib.byteCells;rw[List.map_append]
 rw[e2] at hb;exact .inr hb
theorem N8 {w W:World}{y:List UInt8}(h:qV w W y)(hl:y.length+1<=140737488355328)(hw:w.heap.size<=W.heap.size):
 Calls Tryz.prog 15 #[.pointer (some ⟨w.heap.size,0,none⟩),.int .u8 10] W fun e w'=>(∃v,e=.returned v)/\qV w w' (y++ [10])/\Below w.heap.size W w':=by
 have h1:=Any.Builder_WriteByte_k ZL ZN w.heap.size w.heap.size (Lib.byteCells y) 10 W h (by unfold Lib.byteCells;rw[List.length_map];exact hl) hw
 refine Calls.mono h1 fun e w' hh=>?_
 obtain⟨he,hb,hbe,_⟩:=hh;refine⟨⟨_,he⟩,?_,hbe⟩;have e2:Lib.byteCells y++ [.int .u8 10] =Lib.byteCells (y++ [10]):=by unfold Lib.byteCells;rw[List.map_append];rfl
 rw[e2] at hb;exact .inr hb
theorem Xo {w W:World}{y:List UInt8}(h:qV w W y)(hw:w.heap.size<=W.heap.size):
 Calls Tryz.prog 16 #[.pointer (some ⟨w.heap.size,0,none⟩)] W fun e w'=>e=.returned (dw y)/\Below w.heap.size W w':=by
 have h1:=Any.Builder_String_any_k ZM ZN w.heap.size w.heap.size y W h hw;refine Calls.mono h1 fun e w' hh=>?_
 obtain⟨he,_,hbe,_⟩:=hh;exact⟨he,hbe⟩
theorem BD (A:Option Addr)(n c:Nat)(ls:List (List UInt8))(w:World)(hx:eO w A n ls)(hok:CO ls)(hL:Laid w):
 Calls Tryz.prog 8 #[.slice A n c] w (nA w (NI ls)):=by
 have hn:=hx.2.1;have hl:=hx.1;have HX:=ah hx;have xw:=ah hok;have HL:=ah hl;have HLD:=ah hL;clear hx hok hL;unfold NI;by_cases hbig:ls.length<=20
 .rw[if_pos hbig];have NJ:n<=20:=by omega
  have hz:decide ((20:Int)< (n:Int))=false:=by simp;omega
  have hz0:(n:Int)<=20:=by omega
  clear hl hbig;have HST:=ah (qV.start w);obtain⟨W0,hW0⟩: ∃W0:World,w.alloc (.cells #[.pointer none,.slice none 0 0] 35)=W0:=⟨_,rfl⟩;have HB0:Hid (Below w.heap.size w W0):=by rw[<-hW0];exact aG.alloc aj _
  rw[hW0] at HST;go_enter Tryz.func8,Tryz.ntmps8;go_wp2_with fail
  clear hW0;go_loopw [11] (fun i wr=> ∃k:Nat,k<=n/\i=.int .i64 k/\qV w wr (gT (ls.take k))/\Below w.heap.size w wr) (fun i _=>n- (intOf i).toNat)
  case atStart=>exact⟨0,Nat.zero_le _,rfl,HST.out,HB0.out⟩
  case round=>
   obtain⟨k,hk,rfl,hbd,hb⟩:=hrel;by_cases hlt:k<n
   .obtain⟨b,off,o,rfl,hbl,ho,c0⟩:=(HX.out.below hb aj).at_ hlt;have HV:=ah (N7 o wr (xw.out o (List.mem_of_getElem? ho)) (HLD.out.below hb));unfold nA dw at HV;have hlt2:(k:Int)< (n:Int):=by omega
    have Yl:(nU o).length<=1000:=(CK o).1;have hTs:(gT (ls.take k)).length<=40000:=by
     have h1:=EG (ls.take k);have h2:(ls.take k).length<=k:=by rw[List.length_take];exact Nat.min_le_left _ _
     omega
    have HN:Hid (gT (ls.take k)++nU o++ [10] =gT (ls.take (k+1))):=by
     show _=_
     rw[aR ho,G6]
    have XM:=ah hbd;have HB:=ah hb;clear ho hbd hb;generalize nU o=x at*;generalize gT (ls.take k)=y at*;go_wp2_with fail
    refine HV.out.mono ?_;rintro e w2 ⟨rfl,hb2⟩;have hB2:=HB.out.trans (hb2.mono HB.out.size);have HW2:=ah (RB (XM.out.below hb2) x (by omega) hB2.size)
    have HB2:=ah hB2;clear hb2 hB2;go_wp2_with fail
    refine HW2.out.mono ?_;rintro e w3 ⟨⟨v,rfl⟩,Y6,hb3⟩;have HB3:=ah (HB2.out.trans hb3);have HW3:=ah (N8 Y6 (by rw[List.length_append];omega) HB3.out.size)
    clear Y6 hb3;go_wp2_with fail
    refine HW3.out.mono ?_;rintro e w4 ⟨⟨v2,rfl⟩,abg,hb4⟩;have HR4:Hid (qV w w4 (gT (ls.take (k+1)))/\Below w.heap.size w w4):=by
     show _/\_
     rw[<-HN.out];exact⟨abg,HB3.out.trans hb4⟩
    clear abg hb4;go_wp2_with fail
    go_roundw
    case rel=>exact⟨k+1,by omega,by go_num,HR4.out.1,HR4.out.2⟩
    case measure=>simp[intOf];omega
   .obtain rfl:k=n:=by omega
    rw[List.take_of_length_le (by rw[HL.out];exact Nat.le_refl _)] at hbd
    have HS:=ah (Xo hbd hb.size);clear hbd;go_wp2_with fail
    refine HS.out.mono ?_;rintro e w2 ⟨rfl,hb2⟩;go_wp2_with fail
    go_ret;exact⟨rfl,hb.trans hb2⟩
 .rw[if_neg hbig];have NJ:20<n:=by omega
  have hz:decide ((20:Int)< (n:Int))=true:=by simp;omega
  have hz0:(20:Int)< (n:Int):=by omega
  clear hl hbig;go_enter Tryz.func8,Tryz.ntmps8;go_wp2_with fail
  go_ret;exact⟨rfl,Below.refl _ _⟩
theorem RD (n:Nat):(madeCells (Value.string ByteArray.empty).cells (n*1)).toList=strCells (List.replicate n []):=by
 apply List.ext_getElem?
 intro j;simp only[strCells,List.map_replicate,List.getElem?_replicate];split
 .rename_i hj
  rw[List.getElem?_eq_getElem (by simpa[size_madeCells] using hj)]
  simp only[madeCells,Array.getElem_toList,Array.getElem_map,Array.getElem_range];congr 1
  show(#[Value.string ByteArray.empty] :Array Value)[j % 1]! =_
  rw[Nat.mod_one];rfl
 .rename_i hj
  exact List.getElem?_eq_none (by simpa[size_madeCells] using hj)
theorem N9 {w:World}{g k:Nat}{T:TypeId}{ys:List (List UInt8)}{x:List UInt8}{rest:List Value}(h:au w g T (strCells ys++rest))(hk:k<ys.length):au (w.setCell ⟨g,k,none⟩ (dw x)) g T (strCells (ys.set k x)++rest):=by
 have:=h.set k (dw x);rw[List.set_append_left _ _ (by simpa[strCells] using hk)] at this
 have e:(strCells ys).set k (dw x)=strCells (ys.set k x):=by unfold strCells;rw[List.map_set]
 rw[e] at this;exact this
theorem au.strs {w:World}{g n:Nat}{T:TypeId}{ys:List (List UInt8)}{rest:List Value}(h:au w g T (strCells ys++rest))(hn:ys.length=n)(hm:n<=1099511627776):eO w (some ⟨g,0,none⟩) n ys:=by
 refine⟨hn,hm,fun _=>⟨g,0,rfl,h.lt,fun i o ho=>?_⟩⟩
 rw[Nat.zero_add];refine h.cell ?_;have:(strCells ys)[i]? =some (dw o):=by simp[strCells,ho]
 obtain⟨hl,_⟩:=List.getElem?_eq_some_iff.1 this;rw[List.getElem?_append_left hl];exact this
theorem qz (A:Option Addr)(n c:Nat)(s:List (List UInt8))(w:World)(hx:eO w A n s)(hm:n<=1048576):
 Calls Tryz.prog 7 #[.slice A n c] w (dH w s):=by
 have hl:=hx.1;have HX:=ah hx;clear hx;obtain⟨i0,hi,hz0,hz1,hz2⟩:=info_parts Cb;go_enter Tryz.func7,Tryz.ntmps7;go_wp2_with (at_make;refine wpList_make_full _ rfl _ _ 22 rfl w.heap.size 9 i0 _ 1 Tryz.underlying22 hi hz0 hz1 .i64 .i64 _ _ n rfl rfl rfl rfl (by rw[hz2];omega) (by unfold maxLen;omega) aj ?_;intro w1 hown1 hg1)
 have hb1:Below w.heap.size w w1:=⟨hg1.os,hg1.tape,hg1.output,hg1.size,fun k hk=>hg1.block k hk (by simp)⟩
 have hrow:au w1 w.heap.size 9 (strCells (s.take 0++List.replicate (n-0) [])++ []):=by
  rcases hown1.2 with⟨h1,_⟩|⟨g,cap,cur,h1,h2,h3,h4,h5,h6,h7⟩
  .cases h1
  .injection h1 with ha hb hc;injection ha with ha;injection ha with ha;subst ha;subst hc;unfold au;rw[h3];congr 2
   apply Array.ext'
   rw[List.take_of_length_le (by simpa using Nat.le_of_eq h6),RD] at h7
   rw[h7];simp
 have HST:=ah (And.intro hrow hb1);clear hown1 hb1 hg1 hrow hi hz0 hz1 hz2;go_loopw [4] (fun i wr=> ∃k:Nat,k<=n/\i=.int .i64 k/\Below w.heap.size w wr/\au wr w.heap.size 9 (strCells (s.take k++List.replicate (n-k) [])++ [])) (fun i _=>n- (intOf i).toNat)
 case atStart=>exact⟨0,Nat.zero_le _,rfl,HST.out.2,HST.out.1⟩
 case round=>
  clear HST;obtain⟨k,hk,rfl,hb,hrow⟩:=hrel;by_cases hlt:k<n
  .obtain⟨b,off,x,rfl,hbl,ho,c0⟩:=(HX.out.below hb aj).at_ hlt;have hs:=hb.size;have hr2:=N9 (x:=x) (k:=k) hrow (by simp;omega)
   rw[show n-k=(n- (k+1))+1 by omega,R4 _ _ _ _ _ ho] at hr2
   obtain⟨v,hv⟩: ∃v,wr.cell? ⟨w.heap.size,k,none⟩=some v:=⟨_,hrow.cell (List.getElem?_eq_getElem (by simp[strCells];omega))⟩
   have hfz:=hrow.frozen k;have HR:=ah hr2;clear hrow hr2 ho;go_wp2_with fail
   go_roundw
   case rel=>exact⟨k+1,by omega,by go_num,hb.grown (fA (g:=w.heap.size)) hb.size (fun q hq=>by injection hq with hq;omega),HR.out⟩
   case measure=>simp[intOf];omega
  .obtain rfl:k=n:=by omega
   have e:s.take k++List.replicate (k-k) [] =s:=by rw[Nat.sub_self,List.take_of_length_le (by omega)];simp
   rw[e] at hrow;have hlt2:=hrow.lt;have HO:Hid (dH w s (.returned (.slice (some ⟨w.heap.size,0,none⟩) k k)) wr):=by
    refine dH.mk hl aj (hrow.strs hl (by omega)) (fun ad had=>?_) hb
    injection had with had;subst had;exact Nat.le_refl _
   clear hrow e;go_wp2_with fail
   go_ret;exact HO.out
theorem FU (A B:Option Addr)(n c d:Nat)(s:List (List UInt8))(w:World)(hx:eO w A n s)(hy:eO w B n s):
 Calls Tryz.prog 9 #[.slice A n c,.slice B n d] w fun e w'=>e=.returned (.bool true)/\Below w.heap.size w w':=by
 have hn:=hx.2.1;have HX:=ah hx;have HY:=ah hy;clear hx hy;go_enter Tryz.func9,Tryz.ntmps9;go_wp2_with fail
 go_loopw [5] (fun i wr=> ∃k:Nat,k<=n/\i=.int .i64 k/\Below w.heap.size w wr) (fun i _=>n- (intOf i).toNat)
 case atStart=>exact⟨0,Nat.zero_le _,rfl,Below.refl _ _⟩
 case round=>
  obtain⟨k,hk,rfl,hb⟩:=hrel;by_cases hlt:k<n
  .obtain⟨b,off,x,rfl,hbl,ho,c0⟩:=(HX.out.below hb aj).at_ hlt;obtain⟨b2,off2,y,rfl,YC,ho2,c1⟩:=(HY.out.below hb aj).at_ hlt;rw[ho] at ho2;injection ho2 with ho2;subst ho2;have hlt2:(k:Int)< (n:Int):=by omega
   have M0:=Later.cell c0;have M1:=Later.cell c1;clear ho;unfold dw at c0 c1 M0 M1;generalize(⟨⟨x⟩⟩:ByteArray)=X at*;have hbe:(X.toList==X.toList)=true:=by simp
   have Fq:(X==X)=true:=by rw[MapKept.bytes_beq]
   have hbn:(X !=X)=false:=by unfold bne;rw[Fq];rfl
   go_wp2_with fail
   refine aQ ?_;repeat(go_big_quiet_step (fail))
   refine wpQuiet_nil ?_;rintro _ ⟨u,rfl⟩;have hbu:=hb.trans (u.2.mono hb.size);go_wp2_with fail
   go_roundw
   case rel=>exact⟨k+1,by omega,by go_num,hbu⟩
   case measure=>simp[intOf];omega
  .obtain rfl:k=n:=by omega
   go_wp2_with fail
   go_ret;exact⟨rfl,hb⟩
theorem FV (A:Option Addr)(n c:Nat)(s:List (List UInt8))(w:World)(hx:eO w A n s)(hsz: ∀l∈s,l.length<=9223372036854775807):
 Calls Tryz.prog 5 #[.slice A n c,.int .i64 1048576] w fun e w'=>(∃z:Int,e=.returned (.int .i64 z)/\(0<=z->n<=1048576/\ ∀l∈s,l.length<=1048576))/\Below w.heap.size w w':=by
 have hn:=hx.2.1;have hl:=hx.1;have HL:=ah hl;have HX:=ah hx;have HS:=ah hsz;clear hx hl hsz;by_cases hbig:1048576<n
 .have h1:(1048576:Int) - (n:Int)<0:=by omega
  have h2:decide ((1048576:Int) - (n:Int)<0)=true:=by simp;omega
  have h3:decide ((1048576:Int)< (n:Int))=true:=by simp;omega
  go_enter Tryz.func5,Tryz.ntmps5;go_wp2_with fail
  go_ret;exact⟨⟨-1,rfl,fun h=>by omega⟩,Below.refl _ _⟩
 .have h1: ¬(1048576:Int) - (n:Int)<0:=by omega
  have h2:decide ((1048576:Int) - (n:Int)<0)=false:=by simp;omega
  have h3:decide ((1048576:Int)< (n:Int))=false:=by simp;omega
  have h4:(n:Int)<=1048576:=by omega
  go_enter Tryz.func5,Tryz.ntmps5;go_wp2_with fail
  go_loopw [5,1] (fun i l wr=> ∃ (k:Nat) (z:Int),k<=n/\i=.int .i64 k/\l=.int .i64 z/\0<=z/\z<=1048576/\(∀j x,j<k->s[j]? =some x->x.length<=1048576)/\wr=w) (fun i _ _=>n- (intOf i).toNat)
  case atStart=>exact⟨0,_,Nat.zero_le _,rfl,rfl,by omega,by omega,fun j x hj=>by omega,rfl⟩
  case round=>
   obtain⟨k,z,hk,rfl,rfl,hz0,hz1,hall,rfl⟩:=hrel;by_cases hlt:k<n
   .obtain⟨b,off,x,rfl,hbl,ho,c0⟩:=HX.out.at_ hlt;have hlt2:(k:Int)< (n:Int):=by omega
    have hxs:=HS.out x (List.mem_of_getElem? ho);unfold dw at c0;obtain⟨X,hX⟩: ∃X:ByteArray,X=⟨⟨x⟩⟩:=⟨_,rfl⟩;have Yl:X.size=x.length:=by rw[hX];rfl
    rw[<-hX] at c0;by_cases hneg:z- (X.size:Int)<0
    .have d1:decide (z- (X.size:Int)<0)=true:=by simp;omega
     have d2:(X.size:Int)<=9223372036854775807:=by omega
     have d3:decide (z< (X.size:Int))=true:=by simp;omega
     clear hall ho hX;go_wp2_with fail
     go_ret;exact⟨⟨-1,rfl,fun h=>by omega⟩,Below.refl _ _⟩
    .have d1:decide (z- (X.size:Int)<0)=false:=by simp;omega
     have d2:(X.size:Int)<=z:=by omega
     have d3:decide (z< (X.size:Int))=false:=by simp;omega
     have HA:Hid (∀j x,j<k+1->s[j]? =some x->x.length<=1048576):=ah (fun j y hj hy=>by
      by_cases e:j=k
      .subst e;rw[ho] at hy;injection hy with hy;subst hy;omega
      .exact hall j y (by omega) hy)
     clear hall ho hX;go_wp2_with fail
     go_roundw
     case rel=>exact⟨k+1,z-x.length,by omega,by go_num,by first|rfl|simp,by omega,by omega,HA.out,by trivial⟩
     case measure=>simp[intOf];omega
   .obtain rfl:k=n:=by omega
    have HA:Hid (∀l∈s,l.length<=1048576):=ah (fun l hl=>by
     obtain⟨j,hj⟩:=List.mem_iff_getElem?.1 hl;obtain⟨hlt2,_⟩:=List.getElem?_eq_some_iff.1 hj;exact hall j l (by have:=HL.out;omega) hj)
    clear hall;go_wp2_with fail
    go_ret;exact⟨⟨z,rfl,fun _=>⟨by omega,HA.out⟩⟩,Below.refl _ _⟩
theorem FW (A:Option Addr)(n c:Nat)(w:World)(hbig:1048576<n)(hn:n<=maxLen):
 Calls Tryz.prog 5 #[.slice A n c,.int .i64 1048576] w fun e w'=>e=.returned (.int .i64 (-1))/\Below w.heap.size w w':=by
 unfold maxLen at hn;have h1:(1048576:Int) - (n:Int)<0:=by omega
 have h2:decide ((1048576:Int) - (n:Int)<0)=true:=by simp;omega
 have h3:decide ((1048576:Int)< (n:Int))=true:=by simp;omega
 go_enter Tryz.func5,Tryz.ntmps5;go_wp2_with fail
 go_ret;exact⟨rfl,Below.refl _ _⟩
theorem FX (A:Option Addr)(n c:Nat)(w:World)(hin:Hz w A n c)(hL:Laid w):
 Calls Tryz.prog 3 #[.slice A n c] w fun e w'=>e=.returned (.bool true)/\Below w.heap.size w w':=by
 obtain⟨hnc,hcm,hop⟩:=hin;by_cases hbig:1048576<n
 .have HZ:=ah (FW A n c w hbig (by omega))
  go_enter Tryz.func3,Tryz.ntmps3;go_wp2_with fail
  refine HZ.out.mono ?_;rintro e w1 ⟨rfl,hb1⟩;go_wp2_with fail
  go_ret;exact⟨rfl,hb1⟩
 .obtain⟨ls,hx,hsz⟩:=hop (by omega)
  unfold maxLen at hsz hcm;have HZ:=ah (FV A n c ls w hx (fun l hl=>by have:=hsz l hl;omega))
  have HX:=ah hx;have hl:=hx.1;have HLD:=ah hL;have NJ:n<=1048576:=by omega
  clear hx hop hL hsz;go_enter Tryz.func3,Tryz.ntmps3;go_wp2_with fail
  refine HZ.out.mono ?_;rintro e w1 ⟨⟨z,rfl,hz⟩,hb1⟩;by_cases hneg:z<0
  .have d1:decide (z<0)=true:=by simp;omega
   clear hz;go_wp2_with fail
   go_ret;exact⟨rfl,hb1⟩
  .have d1:decide (z<0)=false:=by simp;omega
   obtain⟨_,hle⟩:=hz (by omega)
   have xw:Hid (CO ls):=ah (fun l hl=>by have:=hle l hl;omega)
   have HB1:=ah hb1;clear hz hle hb1;generalize hR:NI ls=R at*;have Zv:=ah (fun A n c w hx hL=>BD A n c ls w hx xw.out hL)
   have ZC:=ah (fun A n c w hx=>zk A n c ls w hx xw.out)
   rw[hR] at Zv ZC;unfold nA dw at Zv ZC;generalize(⟨⟨R⟩⟩:ByteArray)=T at*;have hbe:(T.toList==T.toList)=true:=by simp
   have Fq:(T==T)=true:=by rw[MapKept.bytes_beq]
   have hbn:(T !=T)=false:=by unfold bne;rw[Fq];rfl
   clear hR;go_wp2_with fail
   refine(qz A n c ls w1 (HX.out.below HB1.out aj) NJ).mono ?_;rintro e w2 ⟨A2,c2,rfl,hc2,hr2,hA2,hb2⟩;have HB2:=ah (HB1.out.trans (hb2.mono HB1.out.size));rw[hl] at hr2 hc2 ⊢;clear hb2 hA2;go_wp2_with fail
   refine(ZC.out A2 n c2 w2 hr2).mono ?_;rintro e w3 ⟨rfl,hb3⟩;have HB3:=ah (HB2.out.trans (hb3.mono HB2.out.size));clear hb3 hr2 hc2;go_wp2_with fail
   refine(qz A n c ls w3 (HX.out.below HB3.out aj) NJ).mono ?_;rintro e w4 ⟨A4,c4,rfl,hc4,hr4,UM,hb4⟩;have tT:=ah (HB3.out.trans (hb4.mono HB3.out.size));rw[hl] at hr4 hc4 ⊢;have sU:=ah hr4;clear hb4 UM hr4;go_wp2_with fail
   refine(Zv.out A4 n c4 w4 sU.out (HLD.out.below tT.out)).mono ?_;rintro e w5 ⟨rfl,hb5⟩;have Qe:=ah (tT.out.trans (hb5.mono tT.out.size));have HX5:=ah (sU.out.below hb5 aj);clear hb5 sU;go_wp2_with fail
   refine(qz A n c ls w5 (HX.out.below Qe.out aj) NJ).mono ?_;rintro e w6 ⟨A6,c6,rfl,hc6,LH,hA6,hb6⟩;have Fp:=ah (Qe.out.trans (hb6.mono Qe.out.size));have HX6:=ah (HX5.out.below hb6 aj);rw[hl] at LH hc6 ⊢;clear hb6 hA6;go_wp2_with fail
   refine(FU A4 A6 n c4 c6 ls w6 HX6.out LH).mono ?_;rintro e w7 ⟨rfl,EP⟩;have HB7:=ah (Fp.out.trans (EP.mono Fp.out.size));clear EP LH;go_wp2_with fail
   go_ret;exact⟨rfl,HB7.out⟩
theorem Ju (rb p g:Nat)(xs:List ByteArray)(T:TypeId)(w:World)(h:Rd w rb p)(hp:p<=100000)(hx:au w g T (xs.map Value.string))(hk:0<xs.length)(hkb:xs.length<=100)(hne:g≠rb):
 Calls Tryz.prog 19 #[.pointer (some ⟨rb,0,none⟩),.slice (some ⟨g,0,none⟩) xs.length xs.length] w fun e w'=> ∃b∈xs,e=.returned (.string b)/\Rd w' rb (p+1)/\Only rb w w':=by
 have hat: ∀ (v:Int) (w1:World),Only rb w w1->0<=v->v<xs.length-> ∃b∈xs,w1.cell? ⟨g,v.toNat,none⟩=some (.string b):=by
  intro v w1 ho h0 h1;have e:xs[v.toNat]? =some (xs[v.toNat]'(by omega)):=List.getElem?_eq_getElem (by omega)
  exact⟨_,List.mem_of_getElem? e,(ho.cell hx.lt hne).trans (au.cell hx (by rw[List.getElem?_map,e];rfl))⟩
 have HA:=ah hat;obtain⟨n,hn⟩: ∃n,xs.length=n:=⟨_,rfl⟩;rw[hn] at hk hkb HA ⊢;clear hat hx hne hn;go_enter Tryz.func19,Tryz.ntmps19;go_wp2_with fail
 refine(jo rb p _ w h hp (by omega)).mono ?_
 rintro e w1 ⟨v,rfl,hr,_,hv,ho⟩;obtain⟨hv0,hv1⟩:=hv (by omega)
 obtain⟨b,hb,hc⟩:=HA.out v w1 ho hv0 hv1;go_wp2_with fail
 go_ret;exact⟨b,hb,rfl,hr,ho⟩
end Go.Proofs.YtddkjbibjjehjaaGreatDoor
