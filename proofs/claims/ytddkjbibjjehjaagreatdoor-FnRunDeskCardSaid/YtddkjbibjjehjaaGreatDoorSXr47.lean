/-
  Texts that the proof rests on, joined: part 47.
-/
import Derived.Maps.OwnIn
import Derived.Test.YtddkjbibjjehjaaGreatDoorSXr9
import Derived.Test.YtddkjbibjjehjaaGreatDoorSXr46
set_option maxHeartbeats 16000000
set_option maxRecDepth 100000
namespace Go.Proofs.YtddkjbibjjehjaaGreatDoor
open Go.RowKit Go.BigFrame Go.Shelf
set_option linter.unusedVariables false
attribute [local go_sem] Oper.semAt_some
section
variable {F:Fence} {nF:Nat} {w:World} {ops:Array Oper} {rest:List Oper} {o:Oper} {a:Act} {Q:Exit->Act->World->Prop}
theorem Rn (s x:Operand){base:Nat}{v:Value}{n:Nat}{xs:List ay}(hown:w.ownsRow base 89 3 v n (aB xs))(hbase:base<=w.heap.size)
 {ad:Addr} {m c:Nat} {ys:List ay} (hr:aC w (some ad) m ys) (hm0:0<m) (hn:n<=1099511627776)
 (hgd:o.guard=none) (ho:o.op=.call { callee:=.builtin .append,args:= #[s,x],argTypes:= #[47,47] }) (hs:a.eval s=v) (hx:a.eval x=.slice (some ad) m c)
 (h: ∀v' w',w'.ownsRow base 89 3 v' (n+m) (aB (xs++ys))->w.grownBy w' v.ownBlock->(v'.ownBlock=v.ownBlock\/v'.ownBlock=some w.heap.size)->wpListIn F nF Tryz.prog ops Q rest (a.put o.dst v') w'):wpListIn F nF Tryz.prog ops Q (o::rest) a w:=by
 obtain⟨i0,hi,hz0,hz1,hz2⟩:=info_parts CU;have hm:=hr.2.1;have hsrc:=hr.src;obtain⟨ad',e,hnews⟩:=hsrc.2.2 hm0;injection e with e;subst e;refine wpListIn_append_own_at w hgd s x _ ho base _ i0 _ 3 24 Tryz.underlying47 hi hz0 hz1 hz2 rfl (by decide) v n _ hs hown ad m c (aB ys) hx hsrc.1 hnews (tV ys) (by simp only[maxLen];omega) (by omega) hbase ?_
 intro v' w' h1 h2 _ h3;rw[<-iC] at h1;exact h v' w' h1 h2 h3
end
theorem EI {V W:World}{base:Nat}{e:TypeId}{size n:Nat}{v:Value}{xs:List Value}(h:V.ownsRow base e size v n xs)(hk: ∀g,v.ownBlock=some g->g<V.heap.size->W.heap[g]? =V.heap[g]?):W.ownsRow base e size v n xs:=by
 have hlt:=fun g hg=>(World.ownsRow.lt h g hg).2
 refine⟨h.1,?_⟩;rcases h.2 with h1|⟨g,cap,cur,e1,h2,h3,h4⟩
 .exact .inl h1
 .exact .inr ⟨g,cap,cur,e1,h2,(hk g (by rw[e1];rfl) (lt_of_block h3)).trans h3,h4⟩
structure VG (w:World)(p3 b2 b4 lo:Nat)(pre:List (List UInt8))(W:World):Prop where
 r0:Go.Boxed W w.heap.size 47 (.slice none 0 0)
 r1:Go.Boxed W p3 4 (.bool false)
 row: ∃v,Go.Boxed W b4 47 v/\W.ownsRow w.heap.size 89 3 v pre.length (aB (pre.map Jw))/\ ∀q,v.ownBlock=some q->q=b2\/lo<=q
 Bw:Below w.heap.size w W
 ok: ∀x∈pre,F3 x=true
structure PsX (w:World)(p3:Nat)(pre:List (List UInt8))(W:World):Prop where
 r0:Go.Boxed W w.heap.size 47 (.slice none 0 0)
 r1:Go.Boxed W p3 4 (.bool false)
 Bw:Below w.heap.size w W
 bad: ∃x∈pre,F3 x=false
theorem EJ {w V W:World}{bs b:Nat}(h:Below w.heap.size w V)(hst:jd bs b V W)(h1:w.heap.size<=bs)(h2:w.heap.size<=b):Below w.heap.size w W:=
 ⟨hst.os.trans h.os,hst.tape.trans h.tape,hst.output.trans h.output,Nat.le_trans h.size hst.size,fun k hk=>(hst.block k (Nat.lt_of_lt_of_le hk h.size) (by omega) (by omega) (by omega)).trans (h.block k hk)⟩
theorem VG.step {w:World}{p3 b2 b4 lo bs b:Nat}{pre:List (List UInt8)}{V W:World}(h:VG w p3 b2 b4 lo pre V)(hst:jd bs b V W)(hd:w.heap.size<p3/\p3<b2/\b2<b4/\b4<bs/\bs<b/\b+1<lo):VG w p3 b2 b4 lo pre W:=by
 obtain⟨r0,r1,⟨v,hv,hrow,hq⟩,hb,hok⟩:=h;refine⟨(hst.block _ r0.lt (by omega) (by omega) (by omega)).trans r0,(hst.block _ r1.lt (by omega) (by omega) (by omega)).trans r1,⟨v,(hst.block _ hv.lt (by omega) (by omega) (by omega)).trans hv,EI hrow fun g hg hl=>hst.block g hl ?_ ?_ ?_,hq⟩,EJ hb hst (by omega) (by omega),hok⟩
 all_goals (have:=hq g hg;omega)
theorem PsX.step {w:World}{p3 bs b:Nat}{pre:List (List UInt8)}{V W:World}(h:PsX w p3 pre V)(hst:jd bs b V W)(hd:w.heap.size<p3/\p3<bs/\bs<b):PsX w p3 pre W:=by
 obtain⟨r0,r1,hb,hbad⟩:=h;exact⟨(hst.block _ r0.lt (by omega) (by omega) (by omega)).trans r0,(hst.block _ r1.lt (by omega) (by omega) (by omega)).trans r1,EJ hb hst (by omega) (by omega),hbad⟩
theorem VG.push {w:World}{p3 b2 b4 lo:Nat}{pre:List (List UInt8)}{x:List UInt8}{W W3 w5:World}{v v':Value}(h:VG w p3 b2 b4 lo pre W)(hv:Go.Boxed W b4 47 v)(hrow:W.ownsRow w.heap.size 89 3 v pre.length (aB (pre.map Jw)))(hq: ∀q,v.ownBlock=some q->q=b2\/lo<=q)
 (hb:Below W.heap.size W W3) (hd:w.heap.size<p3/\p3<b2/\b2<b4/\b4<lo) (hlo:lo<=W.heap.size) (hok:F3 x=true) (hown':w5.ownsRow w.heap.size 89 3 v' (pre.length+1) (aB (pre.map Jw++ [Jw x]))) (hg:W3.grownBy w5 v.ownBlock) (hnew:v'.ownBlock=v.ownBlock\/v'.ownBlock=some W3.heap.size):
 Go.Boxed w5 b4 47 v/\VG w p3 b2 b4 lo (pre++ [x]) (w5.setCell ⟨b4,0,none⟩ v')/\W.heap.size<=(w5.setCell ⟨b4,0,none⟩ v').heap.size/\ ∀k,k<W.heap.size->k≠b2->k<lo->k≠b4->(w5.setCell ⟨b4,0,none⟩ v').heap[k]? =W.heap[k]? :=by
 have hs3:=hb.size;have hgs:=World.grownBy.size hg;have hsz:(w5.setCell ⟨b4,0,none⟩ v').heap.size=w5.heap.size:=by simp[World.setCell]
 have kb: ∀k,k<W.heap.size->k≠b2->k<lo->w5.heap[k]? =W.heap[k]? :=fun k hk h1 h2=>
  (hg.block k (by omega) (fun e=>by have:=hq k e.symm;omega)).trans (hb.block k hk)
 have ks: ∀k,k≠b4->(w5.setCell ⟨b4,0,none⟩ v').heap[k]? =w5.heap[k]? :=fun k hk=>Below.heap_setCell w5 _ _ k (by simpa using hk)
 have hv5:Go.Boxed w5 b4 47 v:=(kb b4 hv.lt (by omega) (by omega)).trans hv
 have hown3:=own_below hrow hb;have hb5:Below w.heap.size w w5:=Below.own (h.Bw.trans (hb.mono h.Bw.size)) hown3 aj hg;refine⟨hv5,⟨?_,?_,⟨v',?_,?_,?_⟩,hb5.setCell (p:=⟨b4,0,none⟩) (by simp;omega) _,?_⟩,by omega,fun k hk h1 h2 h3=>(ks k h3).trans (kb k hk h1 h2)⟩
 .exact(ks _ (by omega)).trans ((kb _ h.r0.lt (by omega) (by omega)).trans h.r0)
 .exact(ks _ (by omega)).trans ((kb _ h.r1.lt (by omega) (by omega)).trans h.r1)
 .unfold Go.Boxed;rw[heap_setCell_same w5 b4 0 _ _ _ hv5];rfl
 .rw[List.length_append,List.length_singleton,List.map_append,List.map_cons,List.map_nil];refine EI hown' fun g hg2 _=>ks g ?_
  rcases hnew with e|e
  .rw[e] at hg2;have:=hq g hg2;omega
  .rw[e] at hg2;injection hg2 with hg2;omega
 .intro q hq2;rcases hnew with e|e
  .rw[e] at hq2;exact hq q hq2
  .rw[e] at hq2;injection hq2 with hq2;exact .inr (by omega)
 .intro y hy;rcases List.mem_append.1 hy with hy|hy
  .exact h.ok y hy
  .rw[List.mem_singleton] at hy;rw[hy];exact hok
theorem ZG {w W W3:World}{p3 b2 b4 lo bs c1 c2 b:Nat}{pre:List (List UInt8)}{x:List UInt8}(h:VG w p3 b2 b4 lo pre W)(hb:Below W.heap.size W W3)(hbad:F3 x=false)(hd:w.heap.size<p3/\p3<bs/\p3<c1/\p3<c2/\p3<b):
 AB bs c1 c2 b W ((W3.setCell ⟨w.heap.size,0,none⟩ (.slice none 0 0)).setCell ⟨p3,0,none⟩ (.bool false))/\PsX w p3 (pre++ [x]) ((W3.setCell ⟨w.heap.size,0,none⟩ (.slice none 0 0)).setCell ⟨p3,0,none⟩ (.bool false)):=by
 have k0:Go.Boxed W3 w.heap.size 47 (.slice none 0 0):=(hb.block _ h.r0.lt).trans h.r0;have k1:Go.Boxed W3 p3 4 (.bool false):=(hb.block _ h.r1.lt).trans h.r1;have ks: ∀k,k≠w.heap.size->k≠p3->((W3.setCell ⟨w.heap.size,0,none⟩ (.slice none 0 0)).setCell ⟨p3,0,none⟩ (.bool false)).heap[k]? =W3.heap[k]? :=fun k h1 h2=>(Below.heap_setCell _ _ _ k (by simpa using h2)).trans (Below.heap_setCell _ _ _ k (by simpa using h1))
 have hbW:Below w.heap.size w W3:=h.Bw.trans (hb.mono h.Bw.size);refine⟨⟨by simpa[World.setCell] using hb.size,fun k hk hc=>(ks k (by omega) (by omega)).trans (hb.block k hk)⟩,⟨?_,?_,(hbW.setCell (p:=⟨w.heap.size,0,none⟩) aj _).setCell (p:=⟨p3,0,none⟩) (by simp;omega) _,⟨x,by simp,hbad⟩⟩⟩
 .refine(Below.heap_setCell _ _ _ _ (by simp;omega)).trans ?_
  rw[heap_setCell_same W3 w.heap.size 0 _ _ _ k0];rfl
 .have k1':Go.Boxed (W3.setCell ⟨w.heap.size,0,none⟩ (.slice none 0 0)) p3 4 (.bool false):=(Below.heap_setCell _ _ _ _ (by simp;omega)).trans k1
  unfold Go.Boxed;rw[heap_setCell_same _ p3 0 _ _ _ k1'];rfl
theorem Jq {w W1 W2:World}{p3 D:Nat}{v v0:Value}{b b0:Bool}(k0:Go.Boxed W1 w.heap.size 47 v0)(k1:Go.Boxed W1 p3 4 (.bool b0))(hK:W1.heap[D]? =some (.deferred (some [])))(hb:Below w.heap.size w W1)(hd:w.heap.size<p3/\p3<D)
 (h2:W2=(W1.setCell ⟨w.heap.size,0,none⟩ v).setCell ⟨p3,0,none⟩ (.bool b)):
 W2.heap[D]? =some (.deferred (some []))/\(W2.putObj D (.deferred none)).cell? ⟨w.heap.size,0,none⟩=some v/\(W2.putObj D (.deferred none)).cell? ⟨p3,0,none⟩=some (.bool b)/\Below w.heap.size w (W2.putObj D (.deferred none))/\W1.heap.size<=(W2.putObj D (.deferred none)).heap.size/\ ∀k,k≠w.heap.size->k≠p3->k≠D->(W2.putObj D (.deferred none)).heap[k]? =W1.heap[k]? :=by
 have ks: ∀k,k≠w.heap.size->k≠p3->W2.heap[k]? =W1.heap[k]? :=fun k h1 h3=>by rw[h2];exact(Below.heap_setCell _ _ _ k (by simpa using h3)).trans (Below.heap_setCell _ _ _ k (by simpa using h1))
 have hD:W2.heap[D]? =some (.deferred (some [])):=(ks D (by omega) (by omega)).trans hK
 have e0:Go.Boxed W2 w.heap.size 47 v:=by
  rw[h2];refine(Below.heap_setCell _ _ _ _ (by simp;omega)).trans ?_
  rw[heap_setCell_same W1 w.heap.size 0 _ _ _ k0];rfl
 have e1:Go.Boxed W2 p3 4 (.bool b):=by
  rw[h2];have k1':Go.Boxed (W1.setCell ⟨w.heap.size,0,none⟩ v) p3 4 (.bool b0):=(Below.heap_setCell _ _ _ _ (by simp;omega)).trans k1
  unfold Go.Boxed;rw[heap_setCell_same _ p3 0 _ _ _ k1'];rfl
 have f0:Go.Boxed (W2.putObj D (.deferred none)) w.heap.size 47 v:=(World.putObj_heap_other (by omega)).trans e0
 have f1:Go.Boxed (W2.putObj D (.deferred none)) p3 4 (.bool b):=(World.putObj_heap_other (by omega)).trans e1
 have hb2:Below w.heap.size w W2:=by rw[h2];exact(hb.setCell (p:=⟨w.heap.size,0,none⟩) aj _).setCell (p:=⟨p3,0,none⟩) (by simp;omega) _
 refine⟨hD,f0.cell,f1.cell,hb2.trans (belowK_b (w:=w) aj W2 D _ _ (by omega) hD rfl rfl),by rw[h2];simp[World.setCell],fun k h1 h3 h4=>(World.putObj_heap_other h4).trans (ks k h1 h3)⟩
theorem Xj {w:World}{H:Nat}(hH:w.heap.size=H)(o:ay)(t:TypeId):aC (w.alloc (.cells #[.int .i64 o.tx,.int .i64 o.kind,.int .i64 o.item] t)) (some ⟨H,0,none⟩) 1 [o] :=by subst hH;exact aC.dB w o t
theorem Lh {w wL:World}{l:List UInt8}(h:((((((w.alloc (.cells #[.slice none 0 0] 47)).alloc (.cells #[.bool false] 4)).alloc (.cells #[] 89)).alloc (.cells #[.slice (some ⟨w.heap.size+1+1,0,none⟩) 0 0] 47)).alloc (.cells #[dw l] 9)).alloc (.cells #[.string ⟨#[44]⟩] 9)).alloc (.cells #[.int .i64 0] 3)=wL):
 wL.heap.size=w.heap.size+7/\VG w (w.heap.size+1) (w.heap.size+2) (w.heap.size+3) (w.heap.size+9) [] wL/\qc (w.heap.size+4) (w.heap.size+5) (w.heap.size+6) l wL:=by
 obtain⟨w1,h1⟩: ∃w1,w.alloc (.cells #[.slice none 0 0] 47)=w1:=⟨_,rfl⟩;rw[h1] at h;obtain⟨w2,h2⟩: ∃w2,w1.alloc (.cells #[.bool false] 4)=w2:=⟨_,rfl⟩;rw[h2] at h;obtain⟨w3,h3⟩: ∃w3,w2.alloc (.cells #[] 89)=w3:=⟨_,rfl⟩;rw[h3] at h;obtain⟨w4,h4⟩: ∃w4,w3.alloc (.cells #[.slice (some ⟨w.heap.size+1+1,0,none⟩) 0 0] 47)=w4:=⟨_,rfl⟩;rw[h4] at h;have s1:w1.heap.size=w.heap.size+1:=by rw[<-h1];simp
 have s2:w2.heap.size=w.heap.size+2:=by rw[<-h2];simp;omega
 have s3:w3.heap.size=w.heap.size+3:=by rw[<-h3];simp;omega
 have s4:w4.heap.size=w.heap.size+4:=by rw[<-h4];simp;omega
 obtain⟨hbx,hbL,hsL⟩:=Lg h.symm;rw[s4] at hbx hsL;have k1:Go.Boxed w1 w.heap.size 47 (.slice none 0 0):=by rw[<-h1];exact heap_alloc_new w _
 have k2:Go.Boxed w2 (w.heap.size+1) 4 (.bool false):=by
  have:=heap_alloc_new w1 (.cells #[.bool false] 4);rw[h2,s1] at this;exact this
 have k3:w3.ownsRow w.heap.size 89 3 (.slice (some ⟨w.heap.size+1+1,0,none⟩) 0 0) 0 (aB []):=by
  have:=World.ownsRow_made (base:=w.heap.size) (e:=89) (size:=3) w2 #[] 0 (by omega) (by decide) rfl
  rw[h3,s2] at this;exact this
 have k4:Go.Boxed w4 (w.heap.size+3) 47 (.slice (some ⟨w.heap.size+1+1,0,none⟩) 0 0):=by
  have:=heap_alloc_new w3 (.cells #[.slice (some ⟨w.heap.size+1+1,0,none⟩) 0 0] 47);rw[h4,s3] at this;exact this
 have b4:Below w4.heap.size w4 wL:=hbL;have b3:Below w3.heap.size w3 wL:=by
  refine Below.trans ?_ (b4.mono (by omega));rw[<-h4];exact aG.alloc aj _
 have b2:Below w2.heap.size w2 wL:=by
  refine Below.trans ?_ (b3.mono (by omega));rw[<-h3];exact aG.alloc aj _
 have b1:Below w1.heap.size w1 wL:=by
  refine Below.trans ?_ (b2.mono (by omega));rw[<-h2];exact aG.alloc aj _
 have b0:Below w.heap.size w wL:=by
  refine Below.trans ?_ (b1.mono (by omega));rw[<-h1];exact aG.alloc aj _
 refine⟨by omega,⟨(b1.block _ (by omega)).trans k1,(b2.block _ (by omega)).trans k2,⟨_,(b4.block _ (by omega)).trans k4,own_below k3 b3,fun q hq=>.inl ?_⟩,b0,fun x hx=>by cases hx⟩,hbx⟩
 simp[Value.ownBlock] at hq;omega
theorem Xk {l:List UInt8}(h: ∃x∈spl l,F3 x=false)(hne:l≠ []):aF (aX l)=false:=by
 cases hv:aF (aX l)
 .rfl
 .obtain⟨x,hx,hb⟩:=h;have h1:=((bn _).1 hv).2.1 (tJ x) (by unfold aX;rw[if_neg hne];exact List.mem_map.2 ⟨x,hx,rfl⟩)
  rw[X8,h1] at hb;cases hb
theorem U4 {l:List UInt8}(h: ∀x∈spl l,F3 x=true)(hne:l≠ []):(spl l).map Jw=aX l:=by
 unfold aX;rw[if_neg hne];exact List.map_congr_left fun x hx=>X9 (h x hx)
theorem NR (a:UInt8)(r:List UInt8)(w:World)(hl:(a::r).length<=1073741824):
 Calls Tryz.prog 82 #[.string ⟨⟨a::r⟩⟩] w (lU w (wF (aF (aX (a::r))) (aX (a::r))) (aF (aX (a::r)))):=by
 obtain⟨l,hle⟩: ∃l:List UInt8,l=a::r:=⟨_,rfl⟩;have hne:l≠ [] :=by rw[hle];simp
 obtain⟨s,hs⟩: ∃s:ByteArray,s=⟨⟨l⟩⟩:=⟨_,rfl⟩;have acS:(s.toList== [])=false:=by rw[Lib.toList_data,hs,hle];rfl
 rw[<-hle,<-hs];rw[<-hle] at hl;have HS:=ah hs;clear hs hle;obtain⟨RP,hRP⟩: ∃RP:Ending->World->Prop,RP=lU w (wF (aF (aX l)) (aX l)) (aF (aX l)):=⟨_,rfl⟩;rw[<-hRP];have HRP:=ah hRP;clear hRP;refine(callsIn_wide (n:=9)).1 ?_;refine callsIn_of_wp_marks Tryz.func82 rfl trivial ?_ rfl;simp only[Tryz.ntmps82,List.size_toArray,List.length_cons,List.length_nil,Nat.reduceAdd,Nat.reduceSub,Array.replicate_succ,Array.replicate_zero,List.push_toArray,List.append_toArray,List.nil_append,List.cons_append]
 gi_wp2_with (refine⟨trivial,?_⟩;gi_at_call 131;refine(callsIn_wide.2 (Jp s _)).mono ?_;rintro e w' ⟨rfl,rfl⟩)
 obtain⟨wL,BL⟩: ∃wL:World,((((((w.alloc (.cells #[.slice none 0 0] 47)).alloc (.cells #[.bool false] 4)).alloc (.cells #[] 89)).alloc (.cells #[.slice (some ⟨w.heap.size+1+1,0,none⟩) 0 0] 47)).alloc (.cells #[.string s] 9)).alloc (.cells #[.string ⟨#[44]⟩] 9)).alloc (.cells #[.int .i64 0] 3)=wL:=⟨_,rfl⟩;have hst:=Lh (l:=l) (wL:=wL) (by rw[<-BL,HS.out])
 rw[BL];clear BL;obtain⟨hsL,hI0,hbx⟩:=hst;obtain⟨H,hH⟩: ∃H,H=w.heap.size:=⟨_,rfl⟩;have HH:=ah hH;refine BU (w.heap.size+4) (w.heap.size+5) (w.heap.size+6) l rfl rfl hbx ⟨by omega,by omega⟩ hl
  (VG w (w.heap.size+1) (w.heap.size+2) (w.heap.size+3) (w.heap.size+9)) (PsX w (w.heap.size+1))
  (fun s V W hs hst=>hs.step hst ⟨by omega,by omega,by omega,by omega,by omega,by omega⟩) (fun s V W hs hst=>hs.step hst ⟨by omega,by omega,by omega⟩) hI0
  (fun x=> { tmps:= #[.string s,undef,.pointer (some ⟨w.heap.size,0,none⟩),.pointer (some ⟨w.heap.size+1,0,none⟩),.pointer (some ⟨w.heap.size+1+1+1,0,none⟩),dw x,undef,undef,.slice (some ⟨w.heap.size+1+1,0,none⟩) 0 0,.string s,.bool false,undef,.string s,.func (.func 189) #[] #[.pointer (some ⟨w.heap.size+1+1+1+1+1,0,none⟩),.pointer (some ⟨w.heap.size+1+1+1+1,0,none⟩),.pointer (some ⟨w.heap.size+1+1+1+1+2,0,none⟩)],dw x,undef,undef,undef,undef,undef,undef,undef,undef,undef,undef,undef,undef,undef,undef,undef,undef],defers:= [] })
  ?assign ?body ?done ?stop
 case assign=>
  intro ld m x W K hK
  gi_wp2
  exact hK
 case body=>
  rintro ld m pre x W hI hsz ⟨t,ht⟩;have hI2:=hI;obtain⟨r0,r1,⟨v,hv,hrow,hq⟩,hb,hok⟩:=hI2;have HHQ:=ah hq;have HI:=ah hI;have HV:=ah hv;have xw:=ah hok;have hbs:=hb.size;obtain⟨bk,hbk⟩: ∃b,F3 x=b:=⟨_,rfl⟩;have hrd:=NQ x W;unfold Bz at hrd;rw[hbk] at hrd;have X3:=ah hrd;have CB:=ah hbk;have hpl:pre.length<=1073741825:=by
   have h1:=Dj 44 l;have h2:(spl l).length=pre.length+(t.length+1):=by rw[ht];simp
   have h3:(fK 44 l).length=(spl l).length:=rfl;omega
  obtain⟨q,hqq⟩: ∃q,pre.length=q:=⟨_,rfl⟩;have HQQ:=ah hqq;have hrow2:=hrow;rw[hqq] at hrow2 hpl;have jX:=ah hrow;obtain⟨RA,rc,rfl,hrc⟩:=aD hrow2;have aa9:=ah hrow2;have HF:Hid (∀ (w2:World) (tx kd it:Int),Below W.heap.size W w2->((w2.alloc (.cells #[.int .i64 tx,.int .i64 kd,.int .i64 it] 89)).cell? ⟨w.heap.size,0,none⟩=some (.slice none 0 0)/\(w2.alloc (.cells #[.int .i64 tx,.int .i64 kd,.int .i64 it] 89)).frozen? ⟨w.heap.size,0,none⟩=false/\(w2.alloc (.cells #[.int .i64 tx,.int .i64 kd,.int .i64 it] 89)).cell? ⟨w.heap.size+1,0,none⟩=some (.bool false)/\(w2.alloc (.cells #[.int .i64 tx,.int .i64 kd,.int .i64 it] 89)).frozen? ⟨w.heap.size+1,0,none⟩=false/\(w2.alloc (.cells #[.int .i64 tx,.int .i64 kd,.int .i64 it] 89)).cell? ⟨w.heap.size+1+1+1,0,none⟩=some (.slice RA q rc))):=fun w2 tx kd it h=>by
   have h':=h.alloc h.size (.cells #[.int .i64 tx,.int .i64 kd,.int .i64 it] 89);have k0:Go.Boxed (w2.alloc (.cells #[.int .i64 tx,.int .i64 kd,.int .i64 it] 89)) w.heap.size 47 (.slice none 0 0):=(h'.block _ r0.lt).trans r0;have k1:Go.Boxed (w2.alloc (.cells #[.int .i64 tx,.int .i64 kd,.int .i64 it] 89)) (w.heap.size+1) 4 (.bool false):=(h'.block _ r1.lt).trans r1;have k2:Go.Boxed (w2.alloc (.cells #[.int .i64 tx,.int .i64 kd,.int .i64 it] 89)) (w.heap.size+3) 47 (.slice RA q rc):=(h'.block _ hv.lt).trans hv;exact⟨k0.cell,k0.frozen,k1.cell,k1.frozen,k2.cell⟩
  clear hrow hrow2 hv hq hok hI hrd hbk hqq r0 r1;cases bk
  .gi_wp2_with (refine⟨trivial,fun h=>(by simp[Fence.wide] at h),?_⟩;gi_at_call 132;go_loud (refine(CallsIn.inRound ld (callsIn_wide.2 X3.out)).mono ?_;rintro e w2 ⟨⟨tx,kd,it⟩,rfl,hro,hb2⟩;unfold ay.val;obtain⟨a0,a1,a2,a3,a4⟩:=HF.out w2 tx kd it hb2))
   have hfin:=ZG (bs:=w.heap.size+4) (c1:=w.heap.size+5) (c2:=w.heap.size+6) (b:=wL.heap.size) (x:=x) HI.out (hb2.alloc hb2.size (.cells #[.int .i64 tx,.int .i64 kd,.int .i64 it] 89)) CB.out ⟨by omega,by omega,by omega,by omega,by omega⟩
   exact hfin
  .gi_wp2_with (first
    |(refine⟨trivial,fun h=>(by simp[Fence.wide] at h),?_⟩;gi_at_call 132;go_loud (refine(CallsIn.inRound ld (callsIn_wide.2 X3.out)).mono ?_;rintro e w2 ⟨⟨tx,kd,it⟩,rfl,hro,hb2⟩;have HRX:=ah (hro rfl);clear hro;unfold ay.val;obtain⟨a0,a1,a2,a3,a4⟩:=HF.out w2 tx kd it hb2))
    |(gi_at_builtin;go_loud (refine Rn (.tmp 22) (.tmp 24) ((own_below aa9.out (hb2.alloc hb2.size (.cells #[.int .i64 tx,.int .i64 kd,.int .i64 it] 89))).alloc _) (by have:=hb2.size;simp;omega) (Xj (by simp) ⟨tx,kd,it⟩ _) (by omega) (by omega) rfl rfl rfl rfl ?_;intro v' w5 hown5 hg5 Dy;rw[HRX.out] at hown5;have hpu:=VG.push (x:=x) (v':=v') HI.out HV.out jX.out HHQ.out ((hb2.alloc hb2.size (.cells #[.int .i64 tx,.int .i64 kd,.int .i64 it] 89)).alloc (by have:=hb2.size;simp;omega) (.cells #[.int .i64 tx,.int .i64 kd,.int .i64 it] 89)) ⟨by omega,by omega,by omega,by omega⟩ (by omega) CB.out (by rw[HQQ.out];exact hown5) hg5 Dy;obtain⟨g',cap',rfl,Jy⟩:=aD hown5;have u0:w5.cell? ⟨w.heap.size+1+1+1,0,none⟩=some (.slice RA q rc):=hpu.1.cell;have f0:w5.frozen? ⟨w.heap.size+1+1+1,0,none⟩=false:=hpu.1.frozen;have HPU:=ah hpu.2;clear hpu hown5 hg5 Dy)))
   exact⟨⟨HPU.out.2.1,fun k hk hc=>HPU.out.2.2 k hk (by omega) (by omega) (by omega)⟩,HPU.out.1⟩
 case done=>
  rintro W hI hlt hdf;rw[hsL] at hdf hlt;obtain⟨r0,r1,⟨v,hv,hrow,hq⟩,hb,hok⟩:=hI;have hxs:=U4 hok hne;have hln:(spl l).length<=1073741825:=Nat.le_trans (Dj 44 l) (by omega)
  rw[hxs] at hrow;obtain⟨n,hn⟩: ∃n,(spl l).length=n:=⟨_,rfl⟩;rw[hn] at hrow hln;have hpn:(aX l).length=n:=by rw[<-hxs,List.length_map];exact hn
  obtain⟨RA,rc,rfl,hrc⟩:=aD hrow;have c4:W.cell? ⟨w.heap.size+1+1+1,0,none⟩=some (.slice RA n rc):=hv.cell;have HV:=ah (dx RA n rc (aX l) W (aC.aH hrow (by omega)) hrc)
  have jX:=ah hrow;have HQ:=ah hq;have HB:=ah hb;have HR0:=ah r0;have HR1:=ah r1;have HV4:=ah hv;have MG:=ah hpn;have HDF:=ah hdf;generalize aX l=xs at*;clear hrow hq hok hxs hv r0 r1 hb hn hpn hdf;have iD:Hid (∀w1,Below W.heap.size W w1->Go.Boxed w1 w.heap.size 47 (.slice none 0 0)/\Go.Boxed w1 (w.heap.size+1) 4 (.bool false)/\Go.Boxed w1 (w.heap.size+3) 47 (.slice RA n rc)):=fun w1 h=>⟨(h.block _ HR0.out.lt).trans HR0.out,(h.block _ HR1.out.lt).trans HR1.out,(h.block _ HV4.out.lt).trans HV4.out⟩
  cases hvv:aF xs
  .rw[hvv] at HV HRP;clear hvv
   gi_wp2_with (refine⟨trivial,?_⟩;gi_at_call 102;refine(callsIn_wide.2 HV.out).mono ?_;rintro e w1 ⟨rfl,hb1⟩;have q0:=(iD.out w1 hb1).1.cell;have q1:=(iD.out w1 hb1).1.frozen;have q2:=(iD.out w1 hb1).2.1.cell;have q3:=(iD.out w1 hb1).2.1.frozen)
   have hfin:=Jq (v:=.slice none 0 0) (b:=false) (iD.out w1 hb1).1 (iD.out w1 hb1).2.1 ((hb1.block _ hlt).trans HDF.out) (HB.out.trans (hb1.mono HB.out.size)) ⟨by omega,by omega⟩ rfl
   obtain⟨g0,g1,g2,g3,_,_⟩:=hfin;refine⟨by simp,.inl ⟨_,_,rfl,run_takeDeferred g0,?_⟩⟩
   refine⟨.tuple #[.slice none 0 0,.bool false],by simp[results,Tryz.results82,go_sem,g1,g2],?_⟩
   rw[HRP.out];exact lU.nil g3
  .rw[hvv] at HV HRP;clear hvv
   gi_wp2_with (first
    |(refine⟨trivial,?_⟩;gi_at_call 102;refine(callsIn_wide.2 HV.out).mono ?_;rintro e w1 ⟨rfl,hb1⟩;have q0:=(iD.out w1 hb1).1.cell;have q1:=(iD.out w1 hb1).1.frozen;have q2:=(iD.out w1 hb1).2.1.cell;have q3:=(iD.out w1 hb1).2.1.frozen;have q4:w1.cell? ⟨w.heap.size+1+1+1,0,none⟩=some (.slice RA n rc):=(iD.out w1 hb1).2.2.cell)
    |(refine⟨trivial,?_⟩;gi_at_call 127;refine(callsIn_wide.2 (uh RA n rc w1 (by omega) hrc)).mono ?_;rintro e w2 ⟨rfl,rfl⟩))
   have hfin:=Jq (v:=.slice RA n n) (b:=true) (iD.out w1 hb1).1 (iD.out w1 hb1).2.1 ((hb1.block _ hlt).trans HDF.out) (HB.out.trans (hb1.mono HB.out.size)) ⟨by omega,by omega⟩ rfl
   obtain⟨g0,g1,g2,g3,g4,g5⟩:=hfin;refine⟨by simp,.inl ⟨_,_,rfl,run_takeDeferred g0,?_⟩⟩
   refine⟨.tuple #[.slice RA n n,.bool true],by simp[results,Tryz.results82,go_sem,g1,g2],?_⟩
   rw[HRP.out];refine lU.mk (MG.out) aj ?_ g3;have hw:=EI (own_below jX.out hb1) (W:=_) (fun g hg _=>g5 g ?_ ?_ ?_)
   .have hfr:=bR.aH (w0:=w) hw aj (by omega)
    exact hfr
   all_goals (have:=HQ.out g hg;omega)
 case stop=>
  rintro W pre hX ⟨t,ht⟩ hlt hdf;clear hH;have hbad:=Xk (l:=l) (by obtain⟨x,hx,hb⟩:=hX.bad;exact⟨x,by rw[ht];simp[hx],hb⟩) hne
  have hfin:=Jq (W2:=(W.setCell ⟨w.heap.size,0,none⟩ (.slice none 0 0)).setCell ⟨w.heap.size+1,0,none⟩ (.bool false)) (v:=.slice none 0 0) (b:=false) hX.r0 hX.r1 hdf hX.Bw ⟨by omega,by omega⟩ rfl
  have f0:Go.Boxed (W.putObj wL.heap.size (.deferred none)) w.heap.size 47 (.slice none 0 0):=(World.putObj_heap_other (by omega)).trans hX.r0
  have f1:Go.Boxed (W.putObj wL.heap.size (.deferred none)) (w.heap.size+1) 4 (.bool false):=(World.putObj_heap_other (by omega)).trans hX.r1
  have g1:=f0.cell;have g2:=f1.cell
  gi_wp2
  refine⟨by simp,.inl ⟨_,_,rfl,run_takeDeferred hdf,?_⟩⟩
  refine⟨.tuple #[.slice none 0 0,.bool false],by simp[results,Tryz.results82,go_sem,g1,g2],?_⟩
  rw[HRP.out,hbad];exact lU.nil (hX.Bw.trans (belowK_b (w:=w) aj W _ _ _ (by omega) hdf rfl rfl))
theorem Ro (w:World):
 Calls Tryz.prog 82 #[.string ⟨⟨[]⟩⟩] w (lU w (wF (aF (aX [])) (aX [])) (aF (aX []))):=by
 have hv:aF (aX [])=true:=by decide
 rw[hv];have HR:Hid (∀w':World,w'=(((w.alloc (.cells #[.slice (some ⟨w.heap.size+1+1,0,none⟩) 0 0] 47)).alloc (.cells #[.bool true] 4)).alloc (.cells #[] 89)).alloc (.cells #[.slice (some ⟨w.heap.size+1+1,0,none⟩) 0 0] 47)->lU w (wF true (aX [])) true (.returned (.tuple #[.slice (some ⟨w.heap.size+1+1,0,none⟩) 0 0,.bool true])) w'):=by
  intro w' hw;obtain⟨w1,h1⟩: ∃w1,w.alloc (.cells #[.slice (some ⟨w.heap.size+1+1,0,none⟩) 0 0] 47)=w1:=⟨_,rfl⟩;rw[h1] at hw;obtain⟨w2,h2⟩: ∃w2,w1.alloc (.cells #[.bool true] 4)=w2:=⟨_,rfl⟩;rw[h2] at hw;have s1:w1.heap.size=w.heap.size+1:=by rw[<-h1];simp
  have s2:w2.heap.size=w.heap.size+1+1:=by rw[<-h2];simp;omega
  have k3:=World.ownsRow_made (base:=w.heap.size) (e:=89) (size:=3) w2 #[] 0 (by omega) (by decide) rfl
  rw[s2] at k3;have b2:Below w.heap.size w w2:=by rw[<-h2,<-h1];exact(aG.alloc aj _).alloc (by simp) _
  rw[hw];refine lU.mk rfl aj (bR.aH (own_below (xs:=aB []) k3 (aG.alloc aj _)) aj (by omega)) ?_
  exact(b2.alloc (by omega) _).alloc (by simp;omega) _
 refine(callsIn_wide (n:=9)).1 ?_;refine callsIn_of_wp_marks Tryz.func82 rfl trivial ?_ rfl;simp only[Tryz.ntmps82,List.size_toArray,List.length_cons,List.length_nil,Nat.reduceAdd,Nat.reduceSub,Array.replicate_succ,Array.replicate_zero,List.push_toArray,List.append_toArray,List.nil_append,List.cons_append]
 gi_wp2
 refine⟨.tuple #[.slice (some ⟨w.heap.size+1+1,0,none⟩) 0 0,.bool true],by simp[results,Tryz.results82,go_sem],HR.out _ rfl⟩
theorem Rp (l:List UInt8)(w:World)(hl:l.length<=1073741824):
 Calls Tryz.prog 82 #[.string ⟨⟨l⟩⟩] w (lU w (wF (aF (aX l)) (aX l)) (aF (aX l))):=by
 cases l with
 |nil=>exact Ro w
 |cons a r=>exact NR a r w hl
open Go.RowKit Go.BigFrame
def O3 (w:World)(most:Nat)(xs:List ay)(e:Ending)(w':World):Prop:=
 Below w.heap.size w w'/\(((aF xs=true/\xs.length<=most)/\ ∃A n c,e=.returned (.tuple #[.slice A n c,.nilIface])/\n=xs.length/\n<=c/\aC w' A n xs)\/
  (¬(aF xs=true/\xs.length<=most)/\ ∃g:Addr,e=.returned (.tuple #[.slice none 0 0,.iface 81 (.pointer (some g))])))
theorem EK (t:List UInt8)(most:Nat)(w:World)(ht:t.length<=1073741824)(hm:most<=16):
 Calls Tryz.prog 43 #[.string ⟨⟨t⟩⟩,.int .i64 (most:Int)] w (O3 w most (aX t)):=by
 have HP:=ah (Rp t w ht);obtain⟨T,hT⟩: ∃T:ByteArray,(⟨⟨t⟩⟩:ByteArray)=T:=⟨_,rfl⟩;rw[hT] at HP ⊢;clear hT ht;generalize aX t=xs at*;cases hv:aF xs
 .rw[hv] at HP;have HV:Hid (¬(aF xs=true/\xs.length<=most)):=ah (fun h=>by rw[hv] at h;cases h.1)
  clear hv;unfold wF at HP;simp only[Bool.false_eq_true,if_false] at HP;go_enter Tryz.func43,Tryz.ntmps43;go_wp2_with fail
  refine HP.out.mono ?_;rintro e w1 ⟨A,c,rfl,hc,hf,hb⟩;go_wp2_with fail
  go_ret2
  exact⟨hb.alloc hb.size _,.inr ⟨HV.out,_,rfl⟩⟩
 .rw[hv] at HP;unfold wF at HP;simp only[if_true] at HP;have HVT:=ah hv;clear hv;by_cases hle:xs.length<=most
  .have hz:decide ((most:Int)< (xs.length:Int))=false:=by simp;omega
   have hz2:(xs.length:Int)<=(most:Int):=by omega
   have HS:Hid (∀ (A:Option Addr) (n c:Nat) (w':World),n=xs.length->n<=c->aC w' A n xs->Below w.heap.size w w'->O3 w most xs (.returned (.tuple #[.slice A n c,.nilIface])) w'):=ah (fun A n c w' h1 h2 h3 h4=>⟨h4,.inl ⟨⟨HVT.out,hle⟩,A,n,c,rfl,h1,h2,h3⟩⟩)
   go_enter Tryz.func43,Tryz.ntmps43;go_wp2_with fail
   refine HP.out.mono ?_;rintro e w1 ⟨A,c,rfl,hc,hf,hb⟩;obtain⟨n,hn⟩: ∃n,xs.length=n:=⟨_,rfl⟩;have hx:=hf.1;rw[hn] at hz hz2 hc hx ⊢;have HR:Hid (O3 w most xs (.returned (.tuple #[.slice A n c,.nilIface])) w1):=HS.out A n c w1 hn.symm hc hx hb;clear HS HP hf hx hn;go_wp2_with fail
   go_ret2
   exact HR.out
  .have hz:decide ((most:Int)< (xs.length:Int))=true:=by simp;omega
   have hz2:(most:Int)< (xs.length:Int):=by omega
   have HV:Hid (¬(aF xs=true/\xs.length<=most)):=ah (fun h=>hle h.2)
   clear hle;go_enter Tryz.func43,Tryz.ntmps43;go_wp2_with fail
   refine HP.out.mono ?_;rintro e w1 ⟨A,c,rfl,hc,hf,hb⟩;generalize hn:xs.length=n at*;go_wp2_with fail
   go_ret2
   exact⟨hb.alloc hb.size _,.inr ⟨by rw[hn];exact HV.out,_,rfl⟩⟩
end Go.Proofs.YtddkjbibjjehjaaGreatDoor
