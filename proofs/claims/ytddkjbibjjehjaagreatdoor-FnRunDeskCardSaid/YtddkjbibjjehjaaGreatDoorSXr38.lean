/-
  Texts that the proof rests on, joined: part 38.
-/
import Derived.Test.YtddkjbibjjehjaaGreatDoorSXr37
set_option maxHeartbeats 16000000
set_option maxRecDepth 100000
namespace Go.Proofs.YtddkjbibjjehjaaGreatDoor
open Go.RowKit Go.BigFrame
set_option linter.unusedVariables false
theorem bR.at_ {w0 w:World}{A:Option Addr}{n:Nat}{xs:List ay}(h:bR w0 w A n xs): ∀ad,A=some ad->w0.heap.size<=ad.block/\ad.block<w.heap.size:=by
 intro ad had;obtain⟨b,cur,rfl,hge,hh,_⟩:=h.2 ad had;exact⟨hge,lt_of_block hh⟩
theorem aN.at_ {w0 w:World}{A:Option Addr}{n:Nat}{xs:List Int}(h:aN w0 w A n xs): ∀ad,A=some ad->w0.heap.size<=ad.block/\ad.block<w.heap.size:=by
 intro ad had;obtain⟨b,cur,rfl,hge,hh,_⟩:=h.2 ad had;exact⟨hge,lt_of_block hh⟩
theorem bR.below {w0 w w':World}{A:Option Addr}{n:Nat}{xs:List ay}(h:bR w0 w A n xs)(hb:Below w.heap.size w w'):bR w0 w' A n xs:=
 ⟨h.1.below hb aj,fun ad had=>by obtain⟨b,cur,e,hge,hh,hs⟩:=h.2 ad had;exact⟨b,cur,e,hge,(hb.block b (lt_of_block hh)).trans hh,hs⟩⟩
theorem aN.below {w0 w w':World}{A:Option Addr}{n:Nat}{xs:List Int}(h:aN w0 w A n xs)(hb:Below w.heap.size w w'):aN w0 w' A n xs:=
 ⟨h.1.below hb aj,fun ad had=>by obtain⟨b,cur,e,hge,hh,hs⟩:=h.2 ad had;exact⟨b,cur,e,hge,(hb.block b (lt_of_block hh)).trans hh,hs⟩⟩
def Apart (A B:Option Addr):Prop:= ∀a b,A=some a->B=some b->a.block≠b.block
theorem Apart.row {A B:Option Addr}(h:Apart A B): ∀b,B=some b->A.map Addr.block≠some b.block:=by
 intro b hb e;cases A with
 |none=>cases e
 |some a=>injection e with e;exact h a b rfl hb e
theorem Apart.symm {A B:Option Addr}(h:Apart A B):Apart B A:=fun a b ha hb e=>h b a hb ha e.symm
theorem aN.grown {w0 w w':World}{A:Option Addr}{n:Nat}{xs:List Int}{row:Option Nat}(h:aN w0 w A n xs)(hg:w.grownBy w' row)(hne: ∀b,A=some b->row≠some b.block):aN w0 w' A n xs:=
 ⟨h.1.grown hg hne,fun ad had=>by obtain⟨b,cur,e,hge,hh,hs⟩:=h.2 ad had;exact⟨b,cur,e,hge,(hg.block b (lt_of_block hh) (fun e2=>hne _ had (by rw[<-e2,e]))).trans hh,hs⟩⟩
theorem bR.grown {w0 w w':World}{A:Option Addr}{n:Nat}{xs:List ay}{row:Option Nat}(h:bR w0 w A n xs)(hg:w.grownBy w' row)(hne: ∀b,A=some b->row≠some b.block):bR w0 w' A n xs:=
 ⟨h.1.grown hg hne,fun ad had=>by obtain⟨b,cur,e,hge,hh,hs⟩:=h.2 ad had;exact⟨b,cur,e,hge,(hg.block b (lt_of_block hh) (fun e2=>hne _ had (by rw[<-e2,e]))).trans hh,hs⟩⟩
def KZ (b:ByteArray)(s:List ay):bY:=if uT b s then(match jH b with|some r=>dO r s|none=>bY.zero) else bY.zero
theorem UO {b:ByteArray}{s:List ay}(h:uT b s=false):KZ b s=bY.zero:=by unfold KZ;rw[h];rfl
theorem K3 {b:ByteArray}{s:List ay}{r:dQ}(h:uT b s=true)(hr:jH b=some r):KZ b s=dO r s:=by unfold KZ;rw[h,hr];rfl
def dX (w0 w:World)(A:Option Addr)(n:Nat)(xs:List ay):Prop:=
 aC w A n xs/\ ∀ad,A=some ad-> ∃b cur,ad=⟨b,0,none⟩/\w0.heap.size<=b/\w.heap[b]? =some (.cells cur 154 (0,0))/\n*3<=cur.size
theorem dX.none_ {w0 w:World} :dX w0 w none 0 [] :=⟨aC.nil,fun ad h=>by cases h⟩
theorem dX.aH {w0 w:World}{base n c:Nat}{A:Option Addr}{xs:List ay}(h:w.ownsRow base 154 3 (.slice A n c) n (aB xs))(hb:w0.heap.size<=base)(hn:n<=1099511627776):dX w0 w A n xs:=by
 refine⟨aC.aH h hn,fun ad had=>?_⟩
 subst had;rcases h.2 with⟨h1,h2⟩|⟨g,cap,cur,h1,h2,h3,h4,h5,h6,h7⟩
 .cases h1
 .injection h1 with ha _ hc;injection ha with ha;subst ha;exact⟨g,cur,rfl,by omega,h3,by rw[h6];omega⟩
theorem dX.at_ {w0 w:World}{A:Option Addr}{n:Nat}{xs:List ay}(h:dX w0 w A n xs): ∀ad,A=some ad->w0.heap.size<=ad.block/\ad.block<w.heap.size:=by
 intro ad had;obtain⟨b,cur,rfl,hge,hh,_⟩:=h.2 ad had;exact⟨hge,lt_of_block hh⟩
theorem dX.below {w0 w w':World}{A:Option Addr}{n:Nat}{xs:List ay}(h:dX w0 w A n xs)(hb:Below w.heap.size w w'):dX w0 w' A n xs:=
 ⟨h.1.below hb aj,fun ad had=>by obtain⟨b,cur,e,hge,hh,hs⟩:=h.2 ad had;exact⟨b,cur,e,hge,(hb.block b (lt_of_block hh)).trans hh,hs⟩⟩
theorem dX.grown {w0 w w':World}{A:Option Addr}{n:Nat}{xs:List ay}{row:Option Nat}(h:dX w0 w A n xs)(hg:w.grownBy w' row)(hne: ∀b,A=some b->row≠some b.block):dX w0 w' A n xs:=
 ⟨h.1.grown hg hne,fun ad had=>by obtain⟨b,cur,e,hge,hh,hs⟩:=h.2 ad had;exact⟨b,cur,e,hge,(hg.block b (lt_of_block hh) (fun e2=>hne _ had (by rw[<-e2,e]))).trans hh,hs⟩⟩
def Bu (w0 w:World)(D:bY)(v:Value):Prop:= ∃ (Ad Aw Al Ak:Option Addr) (nd nw nl nk:Nat),
 v=.agg #[.slice Ad nd nd,.slice Aw nw nw,.slice Al nl nl,.slice Ak nk nk] /\bR w0 w Ad nd D.done/\bR w0 w Aw nw D.wait/\dX w0 w Al nl D.av/\aN w0 w Ak nk D.dead/\Apart Ad Aw
theorem Bu.zero {w0 w:World} :Bu w0 w bY.zero (.agg #[.slice none 0 0,.slice none 0 0,.slice none 0 0,.slice none 0 0]):=
 ⟨none,none,none,none,0,0,0,0,rfl,bR.none_,bR.none_,dX.none_,aN.none_,fun a b h=>by cases h⟩
theorem Bu.below {w0 w w':World}{D:bY}{v:Value}(h:Bu w0 w D v)(hb:Below w.heap.size w w'):Bu w0 w' D v:=by
 obtain⟨Ad,Aw,Al,Ak,nd,nw,nl,nk,rfl,h1,h2,h3,h4,h5⟩:=h;exact⟨Ad,Aw,Al,Ak,nd,nw,nl,nk,rfl,h1.below hb,h2.below hb,h3.below hb,h4.below hb,h5⟩
theorem UQ {w0 w:World}{B nd nw nl nk cd cw cl ck:Nat}{Ad Aw Al Ak:Option Addr}{D:bY}(h:aP w B ⟨.slice Ad nd cd,.slice Aw nw cw,.slice Al nl cl,.slice Ak nk ck⟩ D)(hB:w0.heap.size<=B)
 (h1:D.done.length=nd) (h2:D.wait.length=nw) (h3:D.av.length=nl) (h4:D.dead.length=nk) (m1:nd<=9000) (m2:nw<=9000) (m3:nl<=9000) (m4:nk<=9000):
 Bu w0 w D (.agg #[.slice Ad nd nd,.slice Aw nw nw,.slice Al nl nl,.slice Ak nk nk]):=
 ⟨Ad,Aw,Al,Ak,nd,nw,nl,nk,rfl,bR.aH (by have:=h.done;rw[h1] at this;exact this) hB (by omega),bR.aH (by have:=h.wait;rw[h2] at this;exact this) hB (by omega),dX.aH (by have:=h.av;rw[h3] at this;exact this) hB (by omega),aN.aH (by have:=h.dead;rw[h4] at this;exact this) hB (by omega),fun a b ha hb e=>by
  have:=h.sep a.block (by rw[ha];rfl)
  rw[hb] at this;exact this (by rw[e];rfl)⟩
def Jd (b:ByteArray)(s:List ay)(w:World)(e:Ending)(w':World):Prop:=
 Below w.heap.size w w'/\ ∃v,e=.returned (.tuple #[v,.bool (uT b s)])/\Bu w w' (KZ b s) v
theorem Je (b:ByteArray)(A:Option Addr)(n c:Nat)(s:List ay)(w:World)(hx:aC w A n s)(hnc:n<=c):
 Calls Tryz.prog 79 #[.string b,.slice A n c] w (Jd b s w):=by
 obtain⟨W0,hW⟩: ∃W:World,W=w.alloc (.cells #[.slice none 0 0,.slice none 0 0,.slice none 0 0,.slice none 0 0] 67):=⟨_,rfl⟩;have hbW:Below w.heap.size w W0:=by rw[hW];exact aG.alloc aj _
 have hbx:Boxed W0 w.heap.size DV.nil:=by rw[hW];exact Boxed.new w DV.nil
 have hro:=Q9 b A n c s W0 (hx.below hbW aj) hnc;have hsz:w.heap.size<W0.heap.size:=hbx.lt;have PN:=ah hro;have HW:=ah hW;have iD:=ah hbx;have nD:=ah hbW;clear hx hro hW hbx hbW;go_enter Tryz.func79,Tryz.ntmps79;go_wp2_with fail
 rw[<-HW.out];refine PN.out.mono ?_;rintro e w1 ⟨hb,⟨hno,rfl⟩|⟨r,R,tg,V,hok,hr,rfl,hA,hF,hN⟩⟩
 .have FE:=iD.out.below hb;have uf:=nD.out.trans (hb.mono (Nat.le_of_lt hsz));obtain⟨p0,p1,p2,p3⟩:=FE.cells;have s0:=FE.soft 0;have s1:=FE.soft 1;have s2:=FE.soft 2;have s3:=FE.soft 3;have hset:=FE.Yx (.slice none 0 0) (.slice none 0 0) (.slice none 0 0) (.slice none 0 0);obtain⟨d0,d1,d2,d3⟩:=hset.cells;have hbS:Below w.heap.size w ((((w1.setCell ⟨w.heap.size,0,none⟩ (.slice none 0 0)).setCell ⟨w.heap.size,1,none⟩ (.slice none 0 0)).setCell ⟨w.heap.size,2,none⟩ (.slice none 0 0)).setCell ⟨w.heap.size,3,none⟩ (.slice none 0 0)):=
   (((uf.setCell (p:=⟨w.heap.size,0,none⟩) aj _).setCell (p:=⟨w.heap.size,1,none⟩) aj _).setCell (p:=⟨w.heap.size,2,none⟩) aj _).setCell (p:=⟨w.heap.size,3,none⟩) aj _
  have HO:Hid (Jd b s w (.returned (.tuple #[.agg #[.slice none 0 0,.slice none 0 0,.slice none 0 0,.slice none 0 0],.bool false])) ((((w1.setCell ⟨w.heap.size,0,none⟩ (.slice none 0 0)).setCell ⟨w.heap.size,1,none⟩ (.slice none 0 0)).setCell ⟨w.heap.size,2,none⟩ (.slice none 0 0)).setCell ⟨w.heap.size,3,none⟩ (.slice none 0 0))):=by
   refine⟨hbS,_,by rw[hno],?_⟩
   rw[UO hno];exact Bu.zero
  clear hno hb hbS hset FE uf PN;unfold DV.nil at p0 p1 p2 p3;simp only at p0 p1 p2 p3;go_wp2_with fail
  (try simp only[Exit.inBlock,Exit.then])
  refine bodyPost_ret (v:=.tuple #[.agg #[.slice none 0 0,.slice none 0 0,.slice none 0 0,.slice none 0 0],.bool false]) (by simp[results,Tryz.results79,go_sem,d0,d1,d2,d3]) rfl ?_
  exact HO.out
 .obtain⟨Ad,Aw,Al,Ak,nd,nw,nl,nk,cd,cw,cl,ck,rfl,⟨k1,k2,k3,k4⟩,h1,h2,h3,h4⟩:=hA.forms;have hlen:=hF.lens (by omega)
  rw[h1,h2,h3,h4] at hlen;obtain⟨l1,l2,l3,l4⟩:=hlen;have q1:=uh Ad nd cd;have q2:=uh Aw nw cw;have q3:=FC Al nl cl;have q4:=rU Ak nk ck;obtain⟨wd,hwd⟩: ∃wd:World,wd=w1.drew:=⟨_,rfl⟩;have FE:=iD.out.below hb;have K4:Boxed wd w.heap.size DV.nil:=by rw[hwd];exact FE.drew
  have uf:=nD.out.trans (hb.mono (Nat.le_of_lt hsz));have aa5:Below w.heap.size w wd:=by rw[hwd];exact uf.drew
  have hAd:aP wd W0.heap.size ⟨.slice Ad nd cd,.slice Aw nw cw,.slice Al nl cl,.slice Ak nk ck⟩ (dO r s):=by rw[hwd];exact hA.aO.drew
  have hni:eT ⟨.slice Ad nd cd,.slice Aw nw cw,.slice Al nl cl,.slice Ak nk ck⟩ w.heap.size:=K4.cO hAd;have hset:=K4.Yx (.slice Ad nd nd) (.slice Aw nw nw) (.slice Al nl nl) (.slice Ak nk nk);obtain⟨d0,d1,d2,d3⟩:=hset.cells;simp only at d0 d1 d2 d3;have s0:=K4.soft 0;have s1:=K4.soft 1;have s2:=K4.soft 2;have s3:=K4.soft 3;obtain⟨p0,p1,p2,p3⟩:=K4.cells;unfold DV.nil at p0 p1 p2 p3;simp only at p0 p1 p2 p3;have hbS:Below w.heap.size w ((((wd.setCell ⟨w.heap.size,0,none⟩ (.slice Ad nd nd)).setCell ⟨w.heap.size,1,none⟩ (.slice Aw nw nw)).setCell ⟨w.heap.size,2,none⟩ (.slice Al nl nl)).setCell ⟨w.heap.size,3,none⟩ (.slice Ak nk nk)):=
   (((aa5.setCell (p:=⟨w.heap.size,0,none⟩) aj _).setCell (p:=⟨w.heap.size,1,none⟩) aj _).setCell (p:=⟨w.heap.size,2,none⟩) aj _).setCell (p:=⟨w.heap.size,3,none⟩) aj _
  have HO:Hid (Jd b s w (.returned (.tuple #[.agg #[.slice Ad nd nd,.slice Aw nw nw,.slice Al nl nl,.slice Ak nk nk],.bool true])) ((((wd.setCell ⟨w.heap.size,0,none⟩ (.slice Ad nd nd)).setCell ⟨w.heap.size,1,none⟩ (.slice Aw nw nw)).setCell ⟨w.heap.size,2,none⟩ (.slice Al nl nl)).setCell ⟨w.heap.size,3,none⟩ (.slice Ak nk nk))):=by
   refine⟨hbS,_,by rw[hok],?_⟩
   rw[K3 hok hr];exact UQ (hAd.fU hni _ _ _ _) (Nat.le_of_lt hsz) h1 h2 h3 h4 (by omega) (by omega) (by omega) (by omega)
  have Q1:Hid (∀W:World,Calls Tryz.prog 127 #[.slice Ad nd cd] W fun e w'=>e=.returned (.slice Ad nd nd)/\w'=W):=fun W=>(q1 W (by omega) k1).mono fun e w' h=>⟨h.1,h.2.symm⟩
  have Q2:Hid (∀W:World,Calls Tryz.prog 127 #[.slice Aw nw cw] W fun e w'=>e=.returned (.slice Aw nw nw)/\w'=W):=fun W=>(q2 W (by omega) k2).mono fun e w' h=>⟨h.1,h.2.symm⟩
  have Q3:Hid (∀W:World,Calls Tryz.prog 128 #[.slice Al nl cl] W fun e w'=>e=.returned (.slice Al nl nl)/\w'=W):=fun W=>(q3 W (by omega) k3).mono fun e w' h=>⟨h.1,h.2.symm⟩
  have Q4:Hid (∀W:World,Calls Tryz.prog 129 #[.slice Ak nk ck] W fun e w'=>e=.returned (.slice Ak nk nk)/\w'=W):=fun W=>(q4 W (by omega) k4).mono fun e w' h=>⟨h.1,h.2.symm⟩
  obtain⟨r0,r1,r2,r3,_⟩:=hA.cells;have HD:=ah (And.intro d0 (And.intro d1 (And.intro d2 d3)));clear d0 d1 d2 d3;clear q1 q2 q3 q4 hok hr hb hbS hset FE K4 uf aa5 hAd hni hA hF hN h1 h2 h3 h4 PN;go_wp2_with fail
  refine wp_region_still_tail 25 (by kernel_rfl) (by kernel_rfl) ?_
  simp only[List.take_succ_cons,List.take_zero,List.drop_succ_cons,List.drop_zero];repeat(first|still_step|still_call (Q1.out _)|still_call (Q2.out _)|still_call (Q3.out _)|still_call (Q4.out _))
  refine wpStill_nil ?_;change wpList _ _ _ _ _ w1.drew;rw[<-hwd];clear r0 r1 r2 r3 Q1 Q2 Q3 Q4 hwd;go_wp2_with fail
  obtain⟨d0,d1,d2,d3⟩:=HD.out
  (try simp only[Exit.inBlock,Exit.then])
  refine bodyPost_ret (v:=.tuple #[.agg #[.slice Ad nd nd,.slice Aw nw nw,.slice Al nl nl,.slice Ak nk nk],.bool true]) (by simp[results,Tryz.results79,go_sem,d0,d1,d2,d3]) rfl ?_
  exact HO.out
def o7 (XS:List Int)(tx:Int)(k:Nat):List Int:=(XS.take k).filter fun u=>decide (tx<u)
def nu (XS:List Int)(tx:Int)(k:Nat):List Int:=(XS.take k).filter fun u=> !decide (tx<u)
theorem Q_ {XS:List Int}{tx x:Int}{k:Nat}(h:XS[k]? =some x)(hx:tx<x):o7 XS tx (k+1)=o7 XS tx k++ [x] /\nu XS tx (k+1)=nu XS tx k:=by
 unfold o7 nu;rw[aR h,List.filter_append,List.filter_append];simp[hx]
theorem NA {XS:List Int}{tx x:Int}{k:Nat}(h:XS[k]? =some x)(hx: ¬ tx<x):o7 XS tx (k+1)=o7 XS tx k/\nu XS tx (k+1)=nu XS tx k++ [x] :=by
 unfold o7 nu;rw[aR h,List.filter_append,List.filter_append];simp[hx]
theorem Ra (XS:List Int)(tx:Int)(k:Nat):(o7 XS tx k).length<=k/\(nu XS tx k).length<=k:=
 ⟨Nat.le_trans (List.length_filter_le _ _) (List.length_take_le _ _),Nat.le_trans (List.length_filter_le _ _) (List.length_take_le _ _)⟩
theorem K5 (D:bY)(ts:List Int)(t:Int):bS D (ts++ [t])=bP (bS D ts) t:=by simp[bS]
theorem Rb (ts:List Int): ∀D:bY,(bS D ts).av.length<=D.av.length+3*ts.length/\(bS D ts).done.length=D.done.length+ts.length/\(bS D ts).dead.length=D.dead.length+ts.length/\(bS D ts).wait.length<=D.wait.length:=by
 induction ts with
 |nil=>exact fun D=>⟨Nat.le_refl _,rfl,rfl,Nat.le_refl _⟩
 |cons t r ih=>
  intro D;obtain⟨h1,h2,h3,h4⟩:=ih (bP D t);have e:bS D (t::r)=bS (bP D t) r:=rfl;rw[e];have k1:=lX D.av t;have k4:(bP D t).wait.length<=D.wait.length:=List.length_filter_le _ _;have k2:(bP D t).done.length=D.done.length+1:=by simp[bP]
  have k3:(bP D t).dead.length=D.dead.length+1:=by simp[bP]
  have k0:(bP D t).av.length<=D.av.length+3:=k1;simp only[List.length_cons];omega
theorem UR {V W:World}{base n:Nat}{e:TypeId}{size:Nat}{v:Value}{xs:List Value}(h:V.ownsRow base e size v n xs)(hk: ∀g,v.ownBlock=some g->W.heap[g]? =V.heap[g]?):W.ownsRow base e size v n xs:=by
 refine⟨h.1,?_⟩;rcases h.2 with h1|⟨g,cap,cur,e1,h2,h3,h4⟩
 .exact .inl h1
 .exact .inr ⟨g,cap,cur,e1,h2,(hk g (by rw[e1];simp[Value.ownBlock])).trans h3,h4⟩
theorem wT {w:World}{g:Nat}{V:DV}{k:Nat}(h:k≠g):(bI w g V).heap[k]? =w.heap[k]? :=by
 unfold bI;rw[Below.heap_setCell _ _ _ k (by simpa using h),Below.heap_setCell _ _ _ k (by simpa using h),Below.heap_setCell _ _ _ k (by simpa using h),Below.heap_setCell _ _ _ k (by simpa using h)]
theorem aM.OX {V W:World}{A:Option Addr}{n:Nat}{xs:List Int}(h:aM V A n xs)(hs:V.heap.size<=W.heap.size)(hA: ∀ad,A=some ad->W.heap[ad.block]? =V.heap[ad.block]?):aM W A n xs:=by
 refine⟨h.1,h.2.1,fun hn=>?_⟩
 obtain⟨b,off,hA',hl,hc⟩:=h.2.2 hn;have hk:=hA _ hA';exact⟨b,off,hA',by omega,fun i x hx=>(World.cell?_of_block (w:=V) (a:=⟨b,off+i,none⟩) hk).trans (hc i x hx)⟩
structure WL (w:World)(V:DV)(B g gr go H:Nat)(LA:Option Addr)(XS:List Int)(D:bY)(o:ay)(k:Nat)(rv:Value)(W:World)(U:DV):Prop where
 pk:Pk w V B g gr W U (bS D (o7 XS o.tx k))
 ob:OB W U go o
 rn: ∀b,rv.ownBlock=some b->eT U b
 ln: ∀ad,LA=some ad->ad.block<W.heap.size/\eT U ad.block/\ad.block≠g/\rv.ownBlock≠some ad.block
 row:W.ownsRow H 3 1 rv (nu XS o.tx k).length (intCells (nu XS o.tx k))
 list:aM W LA XS.length XS
 hH:g<H/\gr<H/\go<H/\H<=W.heap.size/\w.heap.size<=H/\g≠go/\gr≠go
section
variable {w W w':World} {V U U':DV} {B g gr go H k:Nat} {LA:Option Addr} {XS:List Int} {D:bY} {o:ay} {rv:Value}
theorem WL.below (h:WL w V B g gr go H LA XS D o k rv W U)(hb:Below W.heap.size W w'):WL w V B g gr go H LA XS D o k rv w' U:=
 ⟨h.pk.below hb,h.ob.below hb,h.rn,fun ad e=>⟨Nat.lt_of_lt_of_le (h.ln ad e).1 hb.size,(h.ln ad e).2⟩,own_below h.row hb,h.list.below hb aj,by have:=h.hH;have:=hb.size;omega⟩
theorem WL.Z_ (h:WL w V B g gr go H LA XS D o k rv W U): ∀b,rv.ownBlock=some b->H<=b/\b<W.heap.size:=fun b e=>World.ownsRow.lt h.row b e
theorem WL.kill (h:WL w V B g gr go H LA XS D o k rv W U){x:Int}(hx:XS[k]? =some x)(hlt:o.tx<x)(hd:aP w' B U' (bP (bS D (o7 XS o.tx k)) x))(hs:DStep W U w' U'):
 WL w V B g gr go H LA XS D o (k+1) rv (bI w' g U') U':=by
 obtain⟨e1,e2⟩:=Q_ hx hlt;have hsz:=hs.size;have hps:=Iu w' g U';obtain⟨g1,g2,g3,g4,g5,g6,g7⟩:=h.hH;refine⟨by rw[e1,K5];exact h.pk.put hd hs,(h.ob.step hs).put g6 _,fun b e=>?_,fun ad e=>?_,?_,?_,by omega⟩
 .exact hs.cO (h.Z_ b e).2 (h.rn b e)
 .obtain⟨l1,l2,l3,l4⟩:=h.ln ad e;exact⟨by omega,hs.cO l1 l2,l3,l4⟩
 .rw[e2];refine UR h.row fun b e=>?_
  have hb:=h.Z_ b e;rw[wT (by omega)]
  exact hs.fr.block b hb.2 (h.rn b e)
 .refine h.list.OX (by omega) fun ad e=>?_
  obtain⟨l1,l2,l3,l4⟩:=h.ln ad e;rw[wT l3];exact hs.fr.block _ l1 l2
theorem WL.gather (h:WL w V B g gr go H LA XS D o k rv W U){x:Int}(hx:XS[k]? =some x)(hlt: ¬ o.tx<x){W1:World}(hb1:Below W.heap.size W W1){rv':Value}
 (hr:w'.ownsRow H 3 1 rv' ((nu XS o.tx k).length+1) (intCells (nu XS o.tx k++ [x]))) (hg:W1.grownBy w' rv.ownBlock) (hat:rv'.ownBlock=rv.ownBlock\/rv'.ownBlock=some W1.heap.size):
 WL w V B g gr go H LA XS D o (k+1) rv' w' U:=by
 obtain⟨e1,e2⟩:=NA hx hlt;have h1:=h.below hb1;have hsz:=hg.size;have hs1:=hb1.size;obtain⟨g1,g2,g3,g4,g5,g6,g7⟩:=h1.hH;have hr0:rv.ownBlock≠some g:=fun e=>by have:=(h1.Z_ _ e).1;omega
 have hr1:rv.ownBlock≠some gr:=fun e=>by have:=(h1.Z_ _ e).1;omega
 have hr2:rv.ownBlock≠some go:=fun e=>by have:=(h1.Z_ _ e).1;omega
 have hn: ∀b,rv'.ownBlock=some b->eT U b:=fun b e=>by
  rcases hat with h'|h'
  .exact h.rn b (h'▸e)
  .rw[h'] at e;injection e with e;subst e;exact h1.pk.aO.far aj
 refine⟨by rw[e1];exact⟨h1.pk.aO.apart hg h1.rn,h1.pk.step.apart hg (fun b e=>by have:=(h1.Z_ b e).1;omega),h1.pk.box.grown hg hr0,h1.pk.res.grown hg hr1,h1.pk.ne,h1.pk.gl,h1.pk.ZT⟩,⟨au.grown h1.ob.box hg hr2,h1.ob.no⟩,hn,fun ad e=>?_,by rw[e2,List.length_append];exact hr,?_,by omega⟩
 .obtain⟨l1,l2,l3,l4⟩:=h1.ln ad e;refine⟨by omega,l2,l3,?_⟩
  rcases hat with h'|h'
  .rw[h'];exact l4
  .rw[h'];intro e';injection e' with e';omega
 .refine h1.list.OX hsz fun ad e=>?_
  obtain⟨l1,l2,l3,l4⟩:=h1.ln ad e;exact hg.block _ l1 (fun e'=>l4 e'.symm)
end
theorem GY {D:bY}{o:ay}{XS:List Int}(h:aW D.av o=XS):
 (nu XS o.tx XS.length= [] ->gP .bA D o=bK (bS D (o7 XS o.tx XS.length)) o)/\(nu XS o.tx XS.length≠ [] ->gP .bA D o=fQ (bS D (o7 XS o.tx XS.length)) o):=by
 unfold gP nu o7;simp only;rw[h,List.take_length];constructor
 .intro e;rw[e];simp
 .intro e;rw[if_neg];intro he;exact e (List.isEmpty_iff.1 he)
theorem UU {w w1 w2:World}{V:DV}{B g gr go:Nat}{D:bY}{o:ay}{LA:Option Addr}{XS:List Int}(hp:Pk w V B g gr w1 V D)(ho:OB w1 V go o)(hne:g≠go/\gr≠go)(hb:Below w1.heap.size w1 w2)(hf:aN w1 w2 LA XS.length XS):
 WL w V B g gr go w2.heap.size LA XS D o 0 (.slice (some ⟨w2.heap.size,0,none⟩) 0 0) (w2.alloc (.cells #[] 3)) V:=by
 have hba:Below w2.heap.size w2 (w2.alloc (.cells #[] 3)):=aG.alloc aj _;have hs:=hb.size;have hl:=hp.vY;have hol:=ho.lt;have hsz:=hp.size;have hsa:(w2.alloc (.cells #[] 3)).heap.size=w2.heap.size+1:=by simp
 refine⟨(hp.below hb).below hba,(ho.below hb).below hba,fun b e=>?_,fun ad e=>?_,?_,hf.1.below hba aj,by omega⟩
 .simp only[Value.ownBlock,Option.some.injEq] at e;subst e;exact(hp.below hb).aO.far aj
 .obtain⟨b,cur,e1,h1,h2,h3⟩:=hf.2 ad e;have hlt:=lt_of_block h2;subst e1;refine⟨by simp only;omega,hp.aO.far h1,by simp only;omega,?_⟩
  simp only[Value.ownBlock,ne_eq,Option.some.injEq];omega
 .exact World.ownsRow_made w2 #[] 0 aj (by decide) rfl
theorem Rc (B:Nat)(V:DV)(D:bY)(o:ay)(w:World)(hd:aP w B V D)(hL:D.av.length<=8000)(hN:D.done.length<=8000)(hWt:D.wait.length<=8000)(Ta:D.dead.length<=8000):
 Calls Tryz.prog 62 #[.string dQ.bA.str,V.val,o.val] w (yJ w B V (gP .bA D o)):=by
 have HD0:=ah hd;obtain⟨W,hW⟩: ∃W:World,W=((w.alloc (.cells V.list.toArray 67)).alloc (.cells o.cells.toArray 89)).alloc (.cells DV.nil.list.toArray 67):=⟨_,rfl⟩;obtain⟨Gm,J7,hszW⟩:=zR hd hW;obtain⟨tx,kd,it⟩:=o;obtain⟨Ad,Aw,Al,Ak,nd,nw,nl,nk,cd,cw,cl,ck,rfl,hcs,h1,h2,h3,h4⟩:=hd.forms;have H1:=ah h1;have H2:=ah h2;have H3:=ah h3;have H4:=ah h4;have tQ:=ah Gm;have xD:=ah J7;have Oy:=ah hszW;have hbd:nd<=9000/\nl<=9000/\nw<=9000:=by omega
 unfold ay.cells DV.list DV.nil at hW;simp only at hW;change W=((w.alloc (.cells #[.slice Ad nd cd,.slice Aw nw cw,.slice Al nl cl,.slice Ak nk ck] _)).alloc (.cells #[.int .i64 tx,.int .i64 kd,.int .i64 it] _)).alloc (.cells #[.slice none 0 0,.slice none 0 0,.slice none 0 0,.slice none 0 0] _) at hW;have HW3:=ah hW;clear Gm J7 hszW hd h1 h2 h3 h4 hW;unfold DV.val ay.val dQ.str;simp only;obtain⟨be,hbe⟩: ∃b,aK ⟨tx,kd,it⟩=b:=⟨_,rfl⟩;have nW:=ah hbe;clear hbe;cases be
 .have nO:aW D.av ⟨tx,kd,it⟩=eP D.av tx it kd:=by unfold aW;rw[if_neg (by rw[nW.out];simp)]
  obtain⟨XS,tK⟩: ∃XS,eP D.av tx it kd=XS:=⟨_,rfl⟩;rw[tK] at nO;have hx4:XS.length<=4:=by rw[<-nO];exact rY _ _
  obtain⟨m,hm⟩: ∃m,XS.length=m:=⟨_,rfl⟩;rw[hm] at hx4;have xX:=ah tK;have HM:=ah hm;have BG:=ah nO;clear tK hm nO;go_enter Tryz.func62,Tryz.ntmps62;go_wp2_with (first
   |(go_at_call 87;go_loud (rw[<-HW3.out];refine(bJ ⟨tx,kd,it⟩ _).mono ?_;rintro e w1 ⟨rfl,hb1⟩;rw[nW.out];have mZ:=ah ((tQ.out.alloc (.cells #[] 3)).below hb1);have xE:=ah ((xD.out.below (aG.alloc aj (.cells #[] 3))).below hb1);have xG:=mZ.out.aO.base;have hlt1:=mZ.out.vY;obtain⟨d0,d1,d2,d3⟩:=mZ.out.box.cells;obtain⟨p0,p1,p2⟩:=xE.out.box.cells;simp only at d0 d1 d2 d3 p0 p1 p2;clear tQ xD HW3 hb1))
   |(go_at_call 95;go_loud (refine(dU Al nl cl D.av tx it kd w1 (aC.aH (mZ.out.aO.h_ (n:=nl) H3.out) (by omega))).mono ?_;rw[xX.out];rintro e w2 ⟨LA,lc,rfl,hlc,jV,hb2⟩;rw[HM.out] at hlc jV ⊢;have HST:Hid (WL w _ B w.heap.size (w.heap.size+1+1) (w.heap.size+1) w2.heap.size LA XS D ⟨tx,kd,it⟩ 0 (.slice (some ⟨w2.heap.size,0,none⟩) 0 0) (w2.alloc (.cells #[] 3)) _):=UU mZ.out xE.out ⟨by omega,by omega⟩ hb2 (by rw[HM.out];exact jV);clear jV hb2 d0 d1 d2 d3 p0 p1 p2 mZ xE)))
  go_loopw [8,9] (fun rv i wr=> ∃ (k:Nat) (U:DV),k<=m/\i=.int .i64 k/\WL w ⟨.slice Ad nd cd,.slice Aw nw cw,.slice Al nl cl,.slice Ak nk ck⟩ B w.heap.size (w.heap.size+1+1) (w.heap.size+1) w2.heap.size LA XS D ⟨tx,kd,it⟩ k rv wr U) (fun _ i _=>m- (intOf i).toNat)
  case atStart=>exact⟨0,_,by omega,rfl,HST.out⟩
  case round=>
   clear HST;obtain⟨rv,rfl⟩: ∃z:Value,z=u8:=⟨_,rfl⟩;obtain⟨k,U,hk,rfl,hwl⟩:=hrel;have HWL:=ah hwl;obtain⟨Ad0,Aw0,Al0,Ak0,nd0,nw0,nl0,nk0,cd0,cw0,cl0,ck0,rfl,acO,g1,g2,g3,g4⟩:=hwl.pk.aO.forms;have hkl:=Rb (o7 XS tx k) D;have acP:=Ra XS tx k;have hb3:nd0<=8100/\nw0<=8100/\nl0<=8100/\nk0<=8100:=by simp only at g1 g2 g3 g4;omega
   have G1:=ah g1;have G2:=ah g2;have G3:=ah g3;have G4:=ah g4;obtain⟨r,hr⟩: ∃r,(nu XS tx k).length=r:=⟨_,rfl⟩;have OY:wr.ownsRow w2.heap.size 3 1 rv (nu XS tx k).length (intCells (nu XS tx k)):=hwl.row;have hr4:r<=4:=by rw[<-hr];omega
   rw[hr] at OY;obtain⟨RA,rc,rfl,hrc⟩:=aD OY;have HR:=ah hr;have HRW:=ah OY;clear hwl g1 g2 g3 g4 hkl hr OY;by_cases hlt:k<m
   .have hkd:decide ((k:Int)< (m:Int))=true:=by simp;omega
    have hlist:=HWL.out.list;rw[HM.out] at hlist;obtain⟨bL,oL,X,Tg,hbL,hX,z0⟩:=hlist.at_ hlt;subst Tg;obtain⟨p0,p1,p2⟩:=HWL.out.ob.box.cells;simp only at p0 p1 p2;have HX:=ah hX;have L0:=Later.cell p0;have Z0:=Later.cell z0;clear hX hlist p0 p1 p2 z0;by_cases hgt:tx<X
    .have hgd:decide (tx<X)=true:=by simpa using hgt
     go_wp2_with fail
     refine aQ ?_;repeat(go_big_quiet_step (fail))
     refine wpQuiet_nil ?_;rintro _ ⟨u,rfl⟩;have Zw:=ah (HWL.out.below u.2);have z1:=Z0 u;obtain⟨w5,Gl⟩: ∃w5:World,u.1=w5:=⟨_,rfl⟩;rw[Gl] at Zw z1 ⊢;clear Gl L0 Z0;obtain⟨d0,d1,d2,d3⟩:=Zw.out.pk.box.cells;simp only at d0 d1 d2 d3;obtain⟨wd,hwd⟩: ∃wd:World,wd=w5.drew:=⟨_,rfl⟩;have Zx:Hid (WL w ⟨.slice Ad nd cd,.slice Aw nw cw,.slice Al nl cl,.slice Ak nk ck⟩ B w.heap.size (w.heap.size+1+1) (w.heap.size+1) w2.heap.size (some ⟨bL,oL,none⟩) XS D ⟨tx,kd,it⟩ k (.slice RA r rc) wd ⟨.slice Ad0 nd0 cd0,.slice Aw0 nw0 cw0,.slice Al0 nl0 cl0,.slice Ak0 nk0 ck0⟩):=by show WL _ _ _ _ _ _ _ _ _ _ _ _ _ _ _;rw[hwd];exact Zw.out.below aG.drew
     have MR:=uw B _ _ X wd Zx.out.pk.aO (show _<=9000 by rw[G3.out];omega) (show _<=9000/\_<=9000/\_<=9000 by rw[G1.out,G2.out,G4.out];omega)
     simp only[DV.val] at MR;have XT:=ah MR;have lY:=ah hwd;have acQ:(k:Int)< (m:Int):=by omega
     clear MR hwd;go_wp2_with fail
     refine wp_region_still_tail 5 (by kernel_rfl) (by kernel_rfl) ?_
     simp only[List.take_succ_cons,List.take_zero,List.drop_succ_cons,List.drop_zero];repeat(first|still_step|fail)
     refine wpStill_nil ?_;change wpList _ _ _ _ _ w5.drew;rw[<-lY.out];go_wp2_with (go_at_call 97;go_loud (refine XT.out.mono ?_;rintro e w8 ⟨V8,rfl,qp,nZ⟩;obtain⟨Vo,Vq,Vr,Vs,Vt,Vu,Vv,Vw,Vx,Vy,Vz,VA,rfl,_⟩:=qp.forms;obtain⟨xY,_,_⟩:=Zx.out.pk.mid nZ;obtain⟨y0,y1,y2,y3⟩:=xY.cells;simp only at y0 y1 y2 y3;have s0:=xY.soft 0;have s1:=xY.soft 1;have s2:=xY.soft 2;have s3:=xY.soft 3;have hF:=Zx.out.kill HX.out hgt qp nZ;simp only[bI] at hF;have HF:=ah hF;clear hF nZ qp xY d0 d1 d2 d3;unfold DV.val;simp only))
     go_roundw
     case rel=>exact⟨k+1,_,by omega,by go_num,HF.out⟩
     case measure=>simp[intOf];omega
    .have hgd:decide (tx<X)=false:=by simpa using hgt
     go_wp2_with fail
     refine aQ ?_;repeat(go_big_quiet_step (fail))
     refine wpQuiet_nil ?_;rintro _ ⟨u,rfl⟩;have Zw:=ah (HWL.out.below u.2);have aa6:=ah (own_below HRW.out u.2);have z1:=Z0 u;obtain⟨w5,Gl⟩: ∃w5:World,u.1=w5:=⟨_,rfl⟩;rw[Gl] at Zw aa6 z1 ⊢;clear Gl L0 Z0;have hH5:=Zw.out.hH;go_wp2_with (at_builtin;go_loud (refine gI (.tmp 45) (.tmp 50) (aa6.out.alloc _) (by simp;omega) (dB rfl _) (by omega) rfl rfl rfl rfl ?_;intro v3 w3 hown3 hg3 aU;have hF:=Zw.out.gather HX.out (show ¬ tx<X by omega) ((Below.refl _ w5).alloc aj _) (by simp only[HR.out];exact hown3) hg3 aU;have HF:=ah hF;clear hF hown3 hg3 aU))
     go_roundw
     case rel=>exact⟨k+1,_,by omega,by go_num,HF.out⟩
     case measure=>simp[intOf];omega
   .have hkd:decide ((k:Int)< (m:Int))=false:=by simp;omega
    obtain rfl:k=m:=by omega
    have Kw:=GY BG.out;rw[HM.out] at Kw;simp only at Kw;have WB:=ah Kw;have eY:=ah HWL.out.pk;have o_:=ah HWL.out.ob;obtain⟨d0,d1,d2,d3⟩:=eY.out.box.cells;obtain⟨p0,p1,p2⟩:=o_.out.box.cells;simp only at d0 d1 d2 d3 p0 p1 p2;clear Kw;by_cases hr0:r=0
    .subst hr0;have e2:Hid (gP .bA D ⟨tx,kd,it⟩=bK (bS D (o7 XS tx k)) ⟨tx,kd,it⟩):=WB.out.1 (List.eq_nil_of_length_eq_zero HR.out);have hg2:=fT B _ _ ⟨tx,kd,it⟩ wr eY.out.aO (show _<=9000 by rw[G3.out];omega) (show _<=9000 by rw[G1.out];omega)
     simp only[DV.val,ay.val] at hg2;have HG2:=ah hg2;clear hg2;go_wp2_with (go_at_call 96;go_loud (refine HG2.out.mono ?_;rintro e w6 ⟨V6,rfl,hD6,LK⟩;obtain⟨Ad6,Aw6,Al6,Ak6,nd6,nw6,nl6,nk6,cd6,cw6,cl6,ck6,rfl,_⟩:=hD6.forms;obtain⟨_,uy,_⟩:=eY.out.mid LK;obtain⟨y0,y1,y2,y3⟩:=uy.cells;unfold DV.nil at y0 y1 y2 y3;simp only at y0 y1 y2 y3;have s0:=uy.soft 0;have s1:=uy.soft 1;have s2:=uy.soft 2;have s3:=uy.soft 3;have hF:=eY.out.out hD6 LK;simp only[bI] at hF;have HF:=ah hF;clear hF LK hD6 uy;unfold DV.val;simp only))
     obtain⟨d0,d1,d2,d3⟩:=HF.out.2.2.cells;simp only at d0 d1 d2 d3;refine bodyPost_ret (v:=.agg #[.slice Ad6 nd6 cd6,.slice Aw6 nw6 cw6,.slice Al6 nl6 cl6,.slice Ak6 nk6 ck6]) (by simp[results,Tryz.results62,go_sem,d0,d1,d2,d3]) rfl ?_
     refine⟨⟨.slice Ad6 nd6 cd6,.slice Aw6 nw6 cw6,.slice Al6 nl6 cl6,.slice Ak6 nk6 ck6⟩,rfl,?_,HF.out.2.1⟩;rw[e2.out];exact HF.out.1
    .have e2:Hid (gP .bA D ⟨tx,kd,it⟩=fQ (bS D (o7 XS tx k)) ⟨tx,kd,it⟩):=WB.out.2 (fun h=>by have:=HR.out;rw[h] at this;exact hr0 this.symm)
     have hrd:((r:Int)==0)=false:=by simp;omega
     go_wp2_with fail
     refine aQ ?_;repeat(go_big_quiet_step (fail))
     refine wpQuiet_nil ?_;rintro _ ⟨u,rfl⟩;have HP6:=ah (eY.out.below u.2);have HO6:=ah (o_.out.below u.2);obtain⟨w6,RZ⟩: ∃w6:World,u.1=w6:=⟨_,rfl⟩;rw[RZ] at HP6 HO6 ⊢;clear RZ d0 d1 d2 d3 p0 p1 p2;have Mr:=HP6.out.aO.base;obtain⟨d0,d1,d2,d3⟩:=HP6.out.box.cells;obtain⟨p0,p1,p2⟩:=HO6.out.box.cells;simp only at d0 d1 d2 d3 p0 p1 p2;go_wp2_with (at_builtin;go_loud (refine gX (.tmp 74) (.tmp 76) ((HP6.out.aO.dh (n:=nw0) G2.out).alloc _) (Nat.le_trans HP6.out.aO.base (by simp)) (aC.dB _ ⟨_,_,_⟩ _) (by omega) rfl rfl rfl rfl ?_;intro v8 w8 jD DW uz;obtain⟨A8,c8,rfl,hc8⟩:=aD jD;obtain⟨xY,Gn,J8⟩:=(HP6.out.alloc (.cells #[.int .i64 tx,.int .i64 kd,.int .i64 it] 89)).nY DW jD uz;obtain⟨q0,q1,q2,q3⟩:=xY.cells;obtain⟨y0,y1,y2,y3⟩:=Gn.cells;unfold DV.nil at y0 y1 y2 y3;simp only at q0 q1 q2 q3 y0 y1 y2 y3;have f1:=xY.soft 1;have s0:=Gn.soft 0;have s1:=Gn.soft 1;have s2:=Gn.soft 2;have s3:=Gn.soft 3;have hF:=J8.pO;simp only[bI] at hF;have HF:=ah hF;clear hF xY Gn J8 DW jD uz))
     obtain⟨d0,d1,d2,d3⟩:=HF.out.2.2.cells;simp only at d0 d1 d2 d3;refine bodyPost_ret (v:=.agg #[.slice Ad0 nd0 cd0,.slice A8 (nw0+1) c8,.slice Al0 nl0 cl0,.slice Ak0 nk0 ck0]) (by simp[results,Tryz.results62,go_sem,d0,d1,d2,d3]) rfl ?_
     refine⟨⟨.slice Ad0 nd0 cd0,.slice A8 (nw0+1) c8,.slice Al0 nl0 cl0,.slice Ak0 nk0 ck0⟩,rfl,?_,HF.out.2.1⟩;rw[e2.out];exact HF.out.1
 .have nO:aW D.av ⟨tx,kd,it⟩= [] :=by unfold aW;rw[if_pos nW.out]
  have e2:Hid (gP .bA D ⟨tx,kd,it⟩=bK D ⟨tx,kd,it⟩):=(GY nO).1 rfl;clear nO;go_enter Tryz.func62,Tryz.ntmps62;go_wp2_with (go_at_call 87;go_loud (rw[<-HW3.out];refine(bJ ⟨tx,kd,it⟩ _).mono ?_;rintro e w1 ⟨rfl,hb1⟩;rw[nW.out];have mZ:=ah ((tQ.out.alloc (.cells #[] 3)).below hb1);have xE:=ah ((xD.out.below (aG.alloc aj (.cells #[] 3))).below hb1);have xG:=mZ.out.aO.base;have hlt1:=mZ.out.vY;obtain⟨d0,d1,d2,d3⟩:=mZ.out.box.cells;obtain⟨p0,p1,p2⟩:=xE.out.box.cells;simp only at d0 d1 d2 d3 p0 p1 p2;clear tQ xD HW3 hb1;have HPZ:Hid (∃rv:Value,rv=.slice (some ⟨w1.heap.size,0,none⟩) 0 0):=⟨_,rfl⟩;have HPA:=ah (mZ.out.alloc (.cells #[] 3));have HOA:=ah (xE.out.below (aG.alloc aj (.cells #[] 3)))))
  go_loopw [8,9] (fun rv i wr=>i=.int .i64 0/\(∃RA rc,rv=.slice RA 0 rc)/\Pk w ⟨.slice Ad nd cd,.slice Aw nw cw,.slice Al nl cl,.slice Ak nk ck⟩ B w.heap.size (w.heap.size+1+1) wr ⟨.slice Ad nd cd,.slice Aw nw cw,.slice Al nl cl,.slice Ak nk ck⟩ D/\OB wr ⟨.slice Ad nd cd,.slice Aw nw cw,.slice Al nl cl,.slice Ak nk ck⟩ (w.heap.size+1) ⟨tx,kd,it⟩) (fun _ _ _=>0)
  case atStart=>exact⟨rfl,⟨_,_,rfl⟩,HPA.out,HOA.out⟩
  case round=>
   clear HPA HOA mZ xE d0 d1 d2 d3 p0 p1 p2;obtain⟨rfl,⟨RA,rc,rfl⟩,hp,ho⟩:=hrel;have eY:=ah hp;have o_:=ah ho;obtain⟨d0,d1,d2,d3⟩:=eY.out.box.cells;obtain⟨p0,p1,p2⟩:=o_.out.box.cells;simp only at d0 d1 d2 d3 p0 p1 p2;have hg2:=fT B _ _ ⟨tx,kd,it⟩ wr eY.out.aO (show D.av.length<=9000 by omega) (show D.done.length<=9000 by omega)
   simp only[DV.val,ay.val] at hg2;have HG2:=ah hg2;clear hg2 hp ho;go_wp2_with (go_at_call 96;go_loud (refine HG2.out.mono ?_;rintro e w6 ⟨V6,rfl,hD6,LK⟩;obtain⟨Ad6,Aw6,Al6,Ak6,nd6,nw6,nl6,nk6,cd6,cw6,cl6,ck6,rfl,_⟩:=hD6.forms;obtain⟨_,uy,_⟩:=eY.out.mid LK;obtain⟨y0,y1,y2,y3⟩:=uy.cells;unfold DV.nil at y0 y1 y2 y3;simp only at y0 y1 y2 y3;have s0:=uy.soft 0;have s1:=uy.soft 1;have s2:=uy.soft 2;have s3:=uy.soft 3;have hF:=eY.out.out hD6 LK;simp only[bI] at hF;have HF:=ah hF;clear hF LK hD6 uy;unfold DV.val;simp only))
   obtain⟨d0,d1,d2,d3⟩:=HF.out.2.2.cells;simp only at d0 d1 d2 d3;refine bodyPost_ret (v:=.agg #[.slice Ad6 nd6 cd6,.slice Aw6 nw6 cw6,.slice Al6 nl6 cl6,.slice Ak6 nk6 ck6]) (by simp[results,Tryz.results62,go_sem,d0,d1,d2,d3]) rfl ?_
   refine⟨⟨.slice Ad6 nd6 cd6,.slice Aw6 nw6 cw6,.slice Al6 nl6 cl6,.slice Ak6 nk6 ck6⟩,rfl,?_,HF.out.2.1⟩;rw[e2.out];exact HF.out.1
theorem EC (A:Option Addr)(n c:Nat)(s:List ay)(w:World)(hx:aC w A n s)(hn:n<=100)(hit:bZ s)
 (hres: ∀ (N:Nat),N<=1000-> ∀ (n B:Nat) (V:DV) (D:bY) (w:World),aP w B V D->nN D N->qW D<n->bZ D.wait->Calls Tryz.prog 61 #[.string dQ.bA.str,V.val] w (yJ w B V (b_ .bA D))):
 Calls Tryz.prog 36 #[.string dQ.bA.str,.slice A n c] w (yR w (dO .bA s)):=
 sH .bA A n c s w hx hn (fun h=>hit) (fun B V D o w h h1 h2 h3 h4=>Rc B V D o w h (by omega) (by omega) (by omega) (by omega)) (fun N hN n B V D w h h1 h2 h3=>hres N hN n B V D w h h1 h2 (h3 rfl))
end Go.Proofs.YtddkjbibjjehjaaGreatDoor
