/-
  Texts that the proof rests on, joined: part 46.
-/
import Derived.RangeFuncNested
import Derived.RangeFuncBound
import Derived.RangeFuncCalls
import Derived.RangeFuncLeaves
import Derived.RangeFuncBox
import Derived.Shelf.Abstract
import Derived.Shelf.RegionOpen
import Derived.OwnWalkIn
import Derived.TacticsInMore
import Derived.LoopNIn
import Derived.LoopIn
import Derived.Test.YtddkjbibjjehjaaGreatDoorSXr45
set_option maxHeartbeats 16000000
set_option maxRecDepth 100000
namespace Go.Proofs.YtddkjbibjjehjaaGreatDoor
open Go.RowKit Go.BigFrame Go.Shelf
set_option linter.unusedVariables false
attribute [local go_sem] Oper.semAt_some
structure qc (bs b1 b2:Nat)(l:List UInt8)(W:World):Prop where
 s:Go.Boxed W bs 9 (dw l)
 sep:Go.Boxed W b1 9 (.string ⟨#[44]⟩)
 sv:Go.Boxed W b2 3 (.int .i64 0)
theorem Jp (s:ByteArray)(w:World):
 Calls Tryz.prog 131 #[.string s,.string ⟨#[44]⟩] w fun e w'=>
  e=.returned (.func (.func 189) #[] #[.pointer (some ⟨w.heap.size+1,0,none⟩),.pointer (some ⟨w.heap.size,0,none⟩),.pointer (some ⟨w.heap.size+2,0,none⟩)])/\
  w'=((w.alloc (.cells #[.string s] 9)).alloc (.cells #[.string ⟨#[44]⟩] 9)).alloc (.cells #[.int .i64 0] 3):=by
 go_enter Tryz.func131,Tryz.ntmps131;go_wp2
 go_ret;exact⟨rfl,rfl⟩
theorem Lg {w W:World}{l:List UInt8}(hW:W=((w.alloc (.cells #[dw l] 9)).alloc (.cells #[.string ⟨#[44]⟩] 9)).alloc (.cells #[.int .i64 0] 3)):qc w.heap.size (w.heap.size+1) (w.heap.size+2) l W/\Below w.heap.size w W/\W.heap.size=w.heap.size+3:=by
 subst hW;obtain⟨w1,h1⟩: ∃w1,w.alloc (.cells #[dw l] 9)=w1:=⟨_,rfl⟩;obtain⟨w2,h2⟩: ∃w2,w1.alloc (.cells #[.string ⟨#[44]⟩] 9)=w2:=⟨_,rfl⟩;have s1:w1.heap.size=w.heap.size+1:=by rw[<-h1];simp
 have s2:w2.heap.size=w.heap.size+2:=by rw[<-h2];simp;omega
 rw[h1,h2];have k1:Go.Boxed w1 w.heap.size 9 (dw l):=by rw[<-h1];exact heap_alloc_new w _
 have k2:Go.Boxed w2 (w.heap.size+1) 9 (.string ⟨#[44]⟩):=by
  have:=heap_alloc_new w1 (.cells #[.string ⟨#[44]⟩] 9);rw[h2,s1] at this;exact this
 have k1':Go.Boxed w2 w.heap.size 9 (dw l):=by rw[<-h2];exact k1.alloc _
 have k3:Go.Boxed (w2.alloc (.cells #[.int .i64 0] 3)) (w.heap.size+2) 3 (.int .i64 0):=by
  have:=heap_alloc_new w2 (.cells #[.int .i64 0] 3);rw[s2] at this;exact this
 refine⟨⟨k1'.alloc _,k2.alloc _,k3⟩,?_,by simp;omega⟩
 have b1:Below w.heap.size w w1:=by rw[<-h1];exact aG.alloc aj _
 have b2:Below w.heap.size w w2:=by rw[<-h2];exact b1.alloc (by omega) _
 exact b2.alloc (by omega) _
def O1 (bs b1 b2:Nat)(V W:World):Prop:=W.heap[bs]? =V.heap[bs]? /\W.heap[b1]? =V.heap[b1]? /\W.heap[b2]? =V.heap[b2]?
theorem qc.keep {bs b1 b2:Nat}{l:List UInt8}{V W:World}(h:qc bs b1 b2 l V)(k:O1 bs b1 b2 V W):qc bs b1 b2 l W:=⟨k.1.trans h.s,k.2.1.trans h.sep,k.2.2.trans h.sv⟩
theorem qc.cut {bs b1 b2:Nat}{l r:List UInt8}{W:World}(h:qc bs b1 b2 l W)(hne:bs≠b1/\bs≠b2):qc bs b1 b2 r (W.setCell ⟨bs,0,none⟩ (dw r)):=
 ⟨by unfold Go.Boxed;rw[heap_setCell_same W bs 0 _ _ _ h.s];rfl,h.sep.other (Ne.symm hne.1) _,h.sv.other (Ne.symm hne.2) _⟩
def U3 (W:World)(b:Nat):Nat:=match W.cell? ⟨b,0,none⟩ with|some (.string s)=>s.size|_=>0
theorem qc.len {bs b1 b2:Nat}{l:List UInt8}{W:World}(h:qc bs b1 b2 l W):U3 W bs=l.length:=by
 unfold U3;rw[h.s.cell];rfl
theorem Rm (N:Nat)(hN:1<=N)(ld bs b1 b2:Nat)(l:List UInt8)(J Jx:List (List UInt8)->World->Prop)
 (hJ: ∀pre W v,J pre W->J pre (W.setCell ⟨bs,0,none⟩ v))
 (hY: ∀pre x W,J pre W->(∃t,spl l=pre++x::t)->YieldAt Fence.wide (N-1) Tryz.prog ld #[dw x] W fun e W'=>
  (e=.returned (.bool true)/\J (pre++ [x]) W'/\O1 bs b1 b2 W W')\/(e=.returned (.bool false)/\Jx (pre++ [x]) W'))
 (W:World) (hB:qc bs b1 b2 l W) (hne:bs≠b1/\bs≠b2) (hl:l.length<=1073741824) (h0:J [] W):
 CallsIn Fence.wide N Tryz.prog 189 #[.func (.yield ld) #[] #[],.pointer (some ⟨b1,0,none⟩),.pointer (some ⟨bs,0,none⟩),.pointer (some ⟨b2,0,none⟩)] W fun e W'=>(∃v,e=.returned v)/\
  (J (spl l) W'\/ ∃pre,(∃t,spl l=pre++t)/\Jx pre W'):=by
 have HB:=ah hB;have H0:=ah h0;have c1:=hB.sep.cell;clear hB h0;refine callsIn_of_wp Tryz.func189 rfl trivial ?_ rfl;simp only[Tryz.ntmps189,List.size_toArray,List.length_cons,List.length_nil,Nat.reduceAdd,Nat.reduceSub,Array.replicate_succ,Array.replicate_zero,List.push_toArray,List.append_toArray,List.nil_append,List.cons_append]
 gi_wp2
 clear c1
 gi_loopw [7] (fun _ wr=> ∃ (pre:List (List UInt8)) (rest:List UInt8),Hid (spl l=pre++spl rest)/\rest.length<=l.length/\Hid (J pre wr)/\Hid (qc bs b1 b2 rest wr)) (fun _ wr=>U3 wr bs)
 case atStart=>exact⟨[],l,ah rfl,Nat.le_refl _,H0,HB⟩
 case round=>
  clear H0 HB;obtain⟨pre,rest,HS,hrl,HJ,HB⟩:=hrel;obtain⟨n,hn⟩: ∃n,rest.length=n:=⟨_,rfl⟩;obtain⟨R,hR⟩: ∃R:ByteArray,R=⟨⟨rest⟩⟩:=⟨_,rfl⟩;have hRn:R.size=n:=by rw[hR];exact hn
  have c0:wr.cell? ⟨bs,0,none⟩=some (.string R):=by rw[hR];exact HB.out.s.cell
  have c1:=HB.out.sep.cell;have c2:=HB.out.sv.cell;have hm:=HB.out.len;rw[hn] at hrl hm;have HM:=ah hm;have Wn:=ah hrl;have hix:=rF (d:=44) (l:=rest);have HI:Hid (∀w,Calls Tryz.prog 81 #[.string R,.string ⟨#[44]⟩] w fun e w'=>e=.returned (.int .i64 (Lib.indexByte rest 44))/\w'=w):=fun w=>by
   have:=G9 R 44 w;rw[hR] at this ⊢;exact this
  obtain⟨z,hz⟩: ∃z,Lib.indexByte rest 44=z:=⟨_,rfl⟩;rw[hz] at hix HI;rw[hn] at hix;have HRR:=ah hR;have HN:=ah hn;by_cases hz0:z<0
  .obtain⟨fn,tmps,assign,body,hy,Tc⟩:=hY pre rest wr HJ.out ⟨[],by rw[HS.out];show pre++fK 44 rest=_;rw[hix.1 hz0]⟩
   have HE:Hid (spl l=pre++ [rest]):=by show _=_;rw[HS.out];show pre++fK 44 rest=_;rw[hix.1 hz0]
   unfold dw at hy;rw[<-hR] at hy;clear hix hR hz hn HS hm
   gi_wp2_with (refine⟨trivial,?_⟩;gi_at_call 81;refine(callsIn_wide.2 (HI.out _)).mono ?_;rintro e w1 ⟨rfl,rfl⟩)
   refine Tc.mono ?_;rintro e W3 (⟨rfl,hJ3,hk3⟩|⟨rfl,hJx3⟩)
   .gi_wp2
    go_end0
    exact⟨⟨_,rfl⟩,.inl (by rw[HE.out];exact hJ3)⟩
   .gi_wp2
    go_end0
    exact⟨⟨_,rfl⟩,.inr ⟨_,⟨[],by rw[HE.out];simp⟩,hJx3⟩⟩
  .obtain⟨i,rfl⟩:=Int.eq_ofNat_of_zero_le (Int.not_lt.1 hz0);obtain⟨hil,hsp⟩:=hix.2 (by omega)
   simp only[Int.toNat_natCast] at hil hsp;obtain⟨fn,tmps,assign,body,hy,Tc⟩:=hY pre (rest.take i) wr HJ.out ⟨fK 44 (rest.drop (i+1)),by rw[HS.out];show pre++fK 44 rest=_;rw[hsp]⟩
   have HE:Hid (spl l=(pre++ [rest.take i])++spl (rest.drop (i+1))):=by show _=_;rw[HS.out];show pre++fK 44 rest=_;rw[hsp];simp
   obtain⟨X,hX⟩: ∃X:ByteArray,X=⟨⟨rest.take i⟩⟩:=⟨_,rfl⟩;obtain⟨Y,hYY⟩: ∃Y:ByteArray,Y=⟨⟨rest.drop (i+1)⟩⟩:=⟨_,rfl⟩;have hcx:R.extract 0 i=X:=by rw[hR,hX,rH];simp
   have hcy:R.extract (i+1) n=Y:=by rw[hR,hYY,rH,List.take_of_length_le (by rw[List.length_drop,hn];exact Nat.le_refl _)]
   unfold dw at hy;rw[<-hX] at hy;have HYE:=ah hYY;have i0:(0:Int)<=(i:Int):=by omega
   have i1:(i:Int)<=(n:Int):=by omega
   have i2:(i:Int)+1<=(n:Int):=by omega
   have hnb:(n:Int)<=1073741824:=by have:=Wn.out;omega
   have i3:IntKind.i64.wrap ((i:Int)+1)=(i:Int)+1:=IntWalk.i64_in _ (by omega)
   have i4:((i:Int)+1).toNat=i+1:=by omega
   have i5:(0:Int)<=(i:Int)+1:=by omega
   clear hix hR hz hn HS hm hsp hX hYY hz0
   gi_wp2_with (refine⟨trivial,?_⟩;gi_at_call 81;refine(callsIn_wide.2 (HI.out _)).mono ?_;rintro e w1 ⟨rfl,rfl⟩)
   refine Tc.mono ?_;rintro e W3 (⟨rfl,hJ3,hk3⟩|⟨rfl,hJx3⟩)
   .have HB3:=ah (HB.out.keep hk3);have d0:W3.cell? ⟨bs,0,none⟩=some (.string R):=by rw[HRR.out];exact HB3.out.s.cell
    have d1:=HB3.out.sep.cell;have d2:=HB3.out.sv.cell;have f0:=HB3.out.s.frozen;have HJ3:=ah hJ3;clear c0 c1 c2 hJ3 hk3
    gi_wp2
    go_roundw
    case rel=>exact⟨_,rest.drop (i+1),HE,by rw[List.length_drop,HN.out];exact Nat.le_trans (Nat.sub_le _ _) Wn.out,ah (hJ _ _ _ HJ3.out),by rw[HYE.out];exact ah (HB3.out.cut hne)⟩
    case measure=>
     have:=(HB3.out.cut (r:=rest.drop (i+1)) hne).len;rw[List.length_drop,HN.out] at this;rw[HYE.out,HM.out];simp only[dw] at this;omega
   .gi_wp2
    refine bodyPost_ret (results_none rfl _ _ _) rfl ?_;exact⟨⟨_,rfl⟩,.inr ⟨_,⟨_,HE.out⟩,hJx3⟩⟩
structure jd (bs b:Nat)(V W:World):Prop where
 os:W.os=V.os
 tape:W.tape=V.tape
 output:W.output=V.output
 size:V.heap.size<=W.heap.size
 block: ∀k,k<V.heap.size->k≠bs->k≠b->k≠b+1->W.heap[k]? =V.heap[k]?
theorem jd.of_below {bs b:Nat}{V W:World}(h:Below V.heap.size V W):jd bs b V W:=⟨h.os,h.tape,h.output,h.size,fun k hk _ _ _=>h.block k hk⟩
theorem jd.put {bs b:Nat}(V:World){l:Nat}(o:Obj)(hl:l=b\/l=b+1):jd bs b V (V.putObj l o):=
 ⟨rfl,rfl,rfl,by simp,fun k hk h1 h2 h3=>World.putObj_heap_other (by omega)⟩
theorem jd.set {bs b:Nat}(V:World)(v:Value):jd bs b V (V.setCell ⟨bs,0,none⟩ v):=
 ⟨rfl,rfl,rfl,by simp[World.setCell],fun k hk h1 h2 h3=>Below.heap_setCell V _ _ k (by simpa using h1)⟩
structure AB (bs b1 b2 b:Nat)(V W:World):Prop where
 size:V.heap.size<=W.heap.size
 block: ∀k,k<V.heap.size->(k=bs\/k=b1\/k=b2\/k=b\/k=b+1)->W.heap[k]? =V.heap[k]?
theorem AB.of_below {bs b1 b2 b:Nat}{V W:World}(h:Below V.heap.size V W):AB bs b1 b2 b V W:=⟨h.size,fun k hk _=>h.block k hk⟩
def ZF (bs b1 b2 b:Nat)(I Ix:List (List UInt8)->World->Prop)(xs:List (List UInt8))(W:World):Exit->Act->World->Prop
 | .normal,_,W'=>AB bs b1 b2 b W W'/\I xs W'
 | .ret,_,W'=>AB bs b1 b2 b W W'/\Ix xs W'
 |_,_,_=>False
theorem BU {g:Operand}{ps:Array Tmp}{assign body:Code}{Q:Exit->Act->World->Prop}{a:Act}{w:World}(bs b1 b2:Nat)(l:List UInt8)
 (hg:a.eval g=.func (.func 189) #[] #[.pointer (some ⟨b1,0,none⟩),.pointer (some ⟨bs,0,none⟩),.pointer (some ⟨b2,0,none⟩)]) (hps:ps.size=1)
 (hB:qc bs b1 b2 l w) (hne:bs≠b1/\bs≠b2) (hl:l.length<=1073741824)
 (I Ix:List (List UInt8)->World->Prop) (hI: ∀s V W,I s V->jd bs w.heap.size V W->I s W) (hIx: ∀s V W,Ix s V->jd bs w.heap.size V W->Ix s W) (h0:I [] w) (a₁:List UInt8->Act)
 (hassign: ∀ (ld m:Nat) (x:List UInt8) (W:World) (K:Act->World->Prop),K (a₁ x) W->
  assign.wpIn (Fence.wide.inRound ld) m Tryz.prog (Exit.then K (fun _ _ _=>False)) { tmps:=(ps.zip #[dw x]).foldl (fun t (p,v)=>t.setIfInBounds p v) a.tmps,defers:= [] } W)
 (hbody: ∀ (ld m:Nat) (pre:List (List UInt8)) (x:List UInt8) (W:World),I pre W->w.heap.size+2<=W.heap.size->(∃t,spl l=pre++x::t)->
  body.wpIn (Fence.wide.inRound ld) m Tryz.prog (ZF bs b1 b2 w.heap.size I Ix (pre++ [x]) W) (a₁ x) W)
 (hdone: ∀W:World,I (spl l) W->w.heap.size<W.heap.size->W.heap[w.heap.size]? =some (.deferred (some []))->Q .normal { a with defers:= { target:=.collected w.heap.size,args:= #[] } ::a.defers } W)
 (hstop: ∀ (W:World) (pre:List (List UInt8)),Ix pre W->(∃t,spl l=pre++t)->w.heap.size<W.heap.size->W.heap[w.heap.size]? =some (.deferred (some []))->Code.ret.wpIn Fence.wide 9 Tryz.prog Q { a with defers:= { target:=.collected w.heap.size,args:= #[] } ::a.defers } W):
 (Code.rangeFunc g ps assign body).wpIn Fence.wide 9 Tryz.prog Q a w:=by
 refine wpIn_rangeFunc ?_;intro fn hfn;rw[Fence.wide_round];obtain⟨rec,hrec⟩: ∃rec:LoopState->Option Code->Loop,rec=fun st pe=> { state:=st,pending:=pe,fn,tmps:=a.tmps,params:=ps,assign,body,defers:=w.heap.size } :=⟨_,rfl⟩
 obtain⟨W1,hW1⟩: ∃W1,(w.alloc (.deferred (some []))).alloc (.loop (rec .ready none))=W1:=⟨_,rfl⟩;have hL1:W1.heap[w.heap.size+1]? =some (.loop (rec .ready none)):=by
  rw[<-hW1];have:=World.alloc_heap_new (w.alloc (.deferred (some []))) (.loop (rec .ready none));rwa [World.size_alloc] at this
 have hK1:W1.heap[w.heap.size]? =some (.deferred (some [])):=by
  rw[<-hW1];exact(Below.heap_alloc _ _ _ (by simp)).trans (World.alloc_heap_new w _)
 have hb1:Below w.heap.size w W1:=by
  rw[<-hW1];exact(((Below.refl _ w).alloc aj _).alloc (by simp) _)
 have hs1:W1.heap.size=w.heap.size+2:=by rw[<-hW1];simp
 have hI1:I [] W1:=hI _ _ _ h0 (jd.of_below hb1);have hbs:=hB.s.lt;have ab7:=hB.sep.lt;have ab8:=hB.sv.lt;have hB1:qc bs b1 b2 l W1:=⟨(hb1.block _ hbs).trans hB.s,(hb1.block _ ab7).trans hB.sep,(hb1.block _ ab8).trans hB.sv⟩;refine⟨w.heap.size+1,[{ target:=.collected w.heap.size,args:= #[] }],W1,{ target:=.fn (.func 189) #[.pointer (some ⟨b1,0,none⟩),.pointer (some ⟨bs,0,none⟩),.pointer (some ⟨b2,0,none⟩)],args:= #[.func (.yield (w.heap.size+1)) #[] #[]] },W1,189,
  #[.func (.yield (w.heap.size+1)) #[] #[],.pointer (some ⟨b1,0,none⟩),.pointer (some ⟨bs,0,none⟩),.pointer (some ⟨b2,0,none⟩)],W1,?_,?_,fun f' hf'=>trivial,?_,fun h=>by simp[Fence.wide] at h,?_⟩
 .rw[<-hW1,hrec];exact run_enterLoop_outer _ _ _ _ _
 .simp only[resolve,hg];simp[go_sem]
 .have eg: ∀args w,(callFunc 189 args).run Tryz.prog w=.ok (.enter 189 args) w:=enters_of Tryz.func189 (by kernel_rfl) rfl
  simp[invoke,go_sem,eg]
 .refine(Rm _ (by decide) (w.heap.size+1) bs b1 b2 l
   (fun pre V=>I pre V/\V.heap[w.heap.size+1]? =some (.loop (rec .ready none))/\V.heap[w.heap.size]? =some (.deferred (some [])))
   (fun pre V=>Ix pre V/\V.heap[w.heap.size+1]? =some (.loop (rec .done (some .ret)))/\V.heap[w.heap.size]? =some (.deferred (some []))) ?_ ?_ W1 hB1 hne hl ⟨hI1,hL1,hK1⟩).mono ?_
  .rintro pre V v ⟨hi,hlp,hdf⟩;exact⟨hI _ _ _ hi (jd.set V v),(Below.heap_setCell V _ _ _ (by simp;omega)).trans hlp,(Below.heap_setCell V _ _ _ (by simp;omega)).trans hdf⟩
  .rintro pre x W ⟨hi,hlp,hk⟩ hpx;have hlt:w.heap.size+1<W.heap.size:=(Array.getElem?_eq_some_iff.1 hlp).1;have hy:=run_yield (P:=Tryz.prog) (args:= #[dw x]) hlp (by rw[hrec];simp[hps])
   rw[hrec] at hy;refine⟨fn,_,assign,body,hy,roundIn_of_wpIn hfn (hassign _ _ x W _ ⟨_,run_beginRound hlp (by rw[hrec]),?_⟩)⟩
   have hl2:(W.putObj (w.heap.size+1) (.loop { rec .ready none with state:=.busy })).heap[w.heap.size+1]? =some (.loop { rec .ready none with state:=.busy }):=World.putObj_heap_same hlt;have hk2:(W.putObj (w.heap.size+1) (.loop { rec .ready none with state:=.busy })).heap[w.heap.size]? =some (.deferred (some [])):=(World.putObj_heap_other (by omega)).trans hk
   refine wpIn_mono (hbody _ _ pre x _ (hI _ _ _ hi (jd.put _ _ (.inr rfl))) (by simp;omega) hpx) ?_
   have fin: ∀ (jump:Option Code) (W3:World),AB bs b1 b2 w.heap.size (W.putObj (w.heap.size+1) (.loop { rec .ready none with state:=.busy })) W3->
    (Instr.endRound (w.heap.size+1) jump).run Tryz.prog W3=.ok (.bool jump.isNone) (W3.putObj (w.heap.size+1) (.loop (rec (if jump.isNone then .ready else .done) jump)))/\
    (W3.putObj (w.heap.size+1) (.loop (rec (if jump.isNone then .ready else .done) jump))).heap[w.heap.size+1]? =some (.loop (rec (if jump.isNone then .ready else .done) jump))/\
    (W3.putObj (w.heap.size+1) (.loop (rec (if jump.isNone then .ready else .done) jump))).heap[w.heap.size]? =some (.deferred (some [])):=fun jump W3 hk3=>by
    have hl3:W3.heap[w.heap.size+1]? =some (.loop { rec .ready none with state:=.busy }):=(hk3.block _ (by simp;omega) (by omega)).trans hl2
    have hd3:W3.heap[w.heap.size]? =some (.deferred (some [])):=(hk3.block _ (by simp;omega) (by omega)).trans hk2
    have:=run_endRound (P:=Tryz.prog) jump hl3;rw[hrec] at this ⊢;exact⟨this,World.putObj_heap_same (Array.getElem?_eq_some_iff.1 hl3).1,(World.putObj_heap_other (by omega)).trans hd3⟩
   rintro e a3 W3 hp;cases e with
   |normal=>
    obtain⟨hk3,hi3⟩:=hp;obtain⟨hr,hl4,hk4⟩:=fin none W3 hk3;refine⟨_,_,hr,.inl ⟨rfl,⟨hI _ _ _ hi3 (jd.put _ _ (.inr rfl)),hl4,hk4⟩,?_⟩⟩;have same: ∀k,(k=bs\/k=b1\/k=b2)->(W3.putObj (w.heap.size+1) (.loop (rec (if(none:Option Code).isNone then .ready else .done) none))).heap[k]? =W.heap[k]? :=fun k hkk=>by
     have hne2:k≠w.heap.size+1:=by omega
     exact(World.putObj_heap_other hne2).trans ((hk3.block k (by simp;omega) (by omega)).trans (World.putObj_heap_other hne2))
    exact⟨same bs (.inl rfl),same b1 (.inr (.inl rfl)),same b2 (.inr (.inr rfl))⟩
   |ret=>
    obtain⟨hk3,hi3⟩:=hp;obtain⟨hr,hl4,hk4⟩:=fin (some .ret) W3 hk3;exact⟨_,_,hr,.inr ⟨rfl,hIx _ _ _ hi3 (jd.put _ _ (.inr rfl)),hl4,hk4⟩⟩
   |exit id=>exact hp.elim
   |goto t=>exact hp.elim
   |panic ch=>exact hp.elim
   |outgrown=>exact hp.elim
  .rintro e W2 ⟨⟨v,rfl⟩,(⟨hi,hlp,hdf⟩|⟨pre,hpt,hi,hlp,hdf⟩)⟩
   .have:=run_endLoop (P:=Tryz.prog) hlp (by rw[hrec];simp)
    rw[hrec] at this;exact⟨none,_,this,hdone _ (hI _ _ _ hi (jd.put _ _ (.inr rfl))) (by simpa using(Array.getElem?_eq_some_iff.1 hdf).1) ((World.putObj_heap_other (by omega)).trans hdf)⟩
   .have:=run_endLoop (P:=Tryz.prog) hlp (by rw[hrec];simp)
    rw[hrec] at this;exact⟨some .ret,_,this,hstop _ pre (hIx _ _ _ hi (jd.put _ _ (.inr rfl))) hpt (by simpa using(Array.getElem?_eq_some_iff.1 hdf).1) ((World.putObj_heap_other (by omega)).trans hdf)⟩
end Go.Proofs.YtddkjbibjjehjaaGreatDoor
