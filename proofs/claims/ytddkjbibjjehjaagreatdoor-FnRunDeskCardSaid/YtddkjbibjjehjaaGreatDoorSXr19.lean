/-
  Texts that the proof rests on, joined: part 19.
-/
import Derived.Carry
import Derived.Test.YtddkjbibjjehjaaGreatDoorSXr16
set_option maxHeartbeats 16000000
set_option maxRecDepth 100000
namespace Go.Proofs.YtddkjbibjjehjaaGreatDoor
open Go.RowKit Go.BigFrame
set_option linter.unusedVariables false
def jE (w0:World)(xs:List Int)(b:Bool)(e:Ending)(w:World):Prop:=
 ∃A c,e=.returned (.tuple #[.slice A xs.length c,.bool b])/\xs.length<=c/\aN w0 w A xs.length xs/\Below w0.heap.size w0 w
theorem jE.nil {w0 w:World}{b:Bool}(h:Below w0.heap.size w0 w):jE w0 [] b (.returned (.tuple #[.slice none 0 0,.bool b])) w:=⟨none,0,rfl,Nat.le_refl _,aN.none_,h⟩
theorem jE.lit {w0 w:World}{H:Nat}(hH:w.heap.size=H)(h:Below w0.heap.size w0 w)(xs:List Int)(hl:xs.length<=64){b:Bool} :jE w0 xs b (.returned (.tuple #[.slice (some ⟨H,0,none⟩) xs.length xs.length,.bool b])) (w.alloc (.cells (intCells xs).toArray 3)):=by
 subst hH;refine⟨_,_,rfl,Nat.le_refl _,⟨aM.lit w xs _ (by omega),fun ad had=>?_⟩,h.alloc h.size _⟩
 injection had with had;subst had;exact⟨_,_,rfl,h.size,heap_alloc_new w _,by simp[intCells]⟩
structure oK (w:World)(bm:Nat)(C:Option Addr)(m:Nat)(L:List ay)(R:List Nat)(N:Nat)(wr:World):Prop where
 below:Below w.heap.size w wr
 map: ∃D,wr.ownsMap Tryz.prog 186 (plainElem (H:=Unit) Tryz.prog 4) bm N D/\yG D R
 list:aC wr C m L
theorem mM {w w':World}{b n:Nat}{D:DataW Unit}(h:w.ownsMap Tryz.prog 186 (plainElem (H:=Unit) Tryz.prog 4) b n D)(hk:w'.heap[b]? =w.heap[b]?):w'.ownsMap Tryz.prog 186 (plainElem (H:=Unit) Tryz.prog 4) b n D:=by
 obtain⟨es,clock,hb,F,hs,hD⟩:=h;exact⟨es,clock,hk.trans hb,F,hs,hD⟩
theorem oK.lt {w:World}{bm:Nat}{C:Option Addr}{m:Nat}{L:List ay}{R:List Nat}{N:Nat}{wr:World}(h:oK w bm C m L R N wr):bm<wr.heap.size:=by
 obtain⟨D,h1,_⟩:=h.map;exact h1.lt
theorem oK.later {w:World}{bm:Nat}{C:Option Addr}{m:Nat}{L:List ay}{R:List Nat}{N:Nat}{wr W:World}(h:oK w bm C m L R N wr)(hb:Below wr.heap.size wr W):oK w bm C m L R N W:=by
 obtain⟨D,h1,h2⟩:=h.map;exact⟨h.below.trans (hb.mono h.below.size),⟨D,mM h1 (hb.block bm h1.lt),h2⟩,h.list.below hb aj⟩
theorem oK.more {w:World}{bm:Nat}{C:Option Addr}{m:Nat}{L:List ay}{R:List Nat}{N N':Nat}{wr:World}(h:oK w bm C m L R N wr)(hn:N<=N'):oK w bm C m L R N' wr:=by
 obtain⟨D,h1,h2⟩:=h.map;exact⟨h.below,⟨D,h1.mono hn,h2⟩,h.list⟩
theorem aC.YW {w w':World}{A:Option Addr}{n b:Nat}{xs:List ay}(h:aC w A n xs)(hg:w.grownBy w' (some b))(hne: ∀ad,A=some ad->ad.block≠b):aC w' A n xs:=by
 obtain⟨h1,h2,h3⟩:=h;refine⟨h1,h2,fun hn=>?_⟩
 obtain⟨c,off,hA,hlt,hc⟩:=h3 hn;have hk:w'.heap[c]? =w.heap[c]? :=hg.block c hlt (fun e=>hne _ hA (by injection e))
 have hs:=World.grownBy.size hg;have ce: ∀o:Nat,w'.cell? ⟨c,o,none⟩=w.cell? ⟨c,o,none⟩:=fun o=>World.cell?_of_block (w:=w) (a:=⟨c,o,none⟩) hk
 refine⟨c,off,hA,by omega,fun i o ho=>?_⟩
 obtain⟨c0,c1,c2⟩:=hc i o ho;exact⟨(ce _).trans c0,(ce _).trans c1,(ce _).trans c2⟩
structure sF (w:World)(bm r g N:Nat)(R:List Nat)(left:Lit->Bool)(cnt:Nat)(wr:World):Prop where
 below:Below w.heap.size w wr
 rng: ∃D,wr.ranges Tryz.prog 186 (plainElem (H:=Unit) Tryz.prog 4) bm r N D left cnt/\yG D R/\ ∀kl,left kl=true->Maps.has D kl=true
 row: ∃O,dA O/\au wr g 3 (intCells (dD O)++ [])/\ ∀t u:Nat,t<4->u<4->(O.getD t 0).testBit u=((R.getD t 0).testBit u&& !left (jR t u))
 ne:r≠g/\bm≠g/\w.heap.size<=g/\w.heap.size<=r
theorem sF.later {w:World}{bm r g N:Nat}{R:List Nat}{left:Lit->Bool}{cnt:Nat}{wr W:World}(h:sF w bm r g N R left cnt wr)(hb:Below wr.heap.size wr W):sF w bm r g N R left cnt W:=by
 obtain⟨h1,⟨D,h2,h3⟩,⟨O,h5,h6,h7⟩,h8⟩:=h;exact⟨h1.trans (hb.mono h1.size),⟨D,h2.kept (fq hb (row:=none)) (by simp) (by simp),h3⟩,⟨O,h5,h6.below hb aj,h7⟩,h8⟩
theorem MK {t u t' u':Nat}(ht:t<4)(hu:u<4)(ht':t'<4)(hu':u'<4):(jR t' u').sameKey (jR t u)=(decide (t'=t) &&decide (u'=u)):=by
 by_cases h:t'=t/\u'=u
 .obtain⟨rfl,rfl⟩:=h;rw[WideAt.sameKey_self (Gd _ _)];simp
 .rw[Maps.sameKey_ne (fun e=>h ?_)]
  .have:(decide (t'=t) &&decide (u'=u))=false:=by simpa using h
   exact this.symm
  .obtain⟨h1,h2⟩:=Gc (jw (by omega)) (jw (by omega)) (jw (by omega)) (jw (by omega)) e
   exact⟨by omega,by omega⟩
theorem sF.step {w wi w1 V:World}{bm r g N:Nat}{R O:List Nat}{left:Lit->Bool}{cnt1:Nat}{D:DataW Unit}{T U:Nat}(hb:Below w.heap.size w wi)(OL:yG D R)(hlh: ∀kl,left kl=true->Maps.has D kl=true)
 (h4:dA O) (hrow:au wi g 3 (intCells (dD O)++ [])) (hbit: ∀t u:Nat,t<4->u<4->(O.getD t 0).testBit u=((R.getD t 0).testBit u&& !left (jR t u)))
 (hne:r≠g/\bm≠g/\w.heap.size<=g/\w.heap.size<=r) (hT:T<4) (hU:U<4) (hR:(R.getD T 0).testBit U=true)
 (hrg1:w1.ranges Tryz.prog 186 (plainElem (H:=Unit) Tryz.prog 4) bm r N D (fun z=>left z&& !z.sameKey (jR T U)) cnt1) (hg1:wi.grownBy w1 (some r)) (hV:Below w1.heap.size w1 V) (v:Int) (hv:v=((O.getD T 0|||1<<<U:Nat):Int)):
 sF w bm r g N R (fun z=>left z&& !z.sameKey (jR T U)) cnt1 (V.setCell ⟨g,T,none⟩ (.int .i64 v)):=by
 have hlt:=hrow.lt;have hz1:=World.grownBy.size hg1;have hz2:=hV.size;have Tx:au w1 g 3 (intCells (dD O)++ []):=(hg1.block g hlt (by intro e;injection e with e;exact hne.1 e.symm)).trans hrow
 have Kt:=Tx.below hV aj;have hs:=CZ (v:=v) (k:=T) Kt (by simp[dD,h4.1];omega)
 rw[hv,<-Int.toNat_natCast U,<-FZ] at hs;have hgs:V.grownBy (V.setCell ⟨g,T,none⟩ (.int .i64 v)) (some g):=fA;refine⟨?_,⟨D,(hrg1.kept (fq hV (row:=none)) (by simp) (by simp)).kept hgs (by intro e;injection e with e;exact hne.2.1 e) (by intro e;injection e with e;exact hne.1 e),OL,fun kl hk=>hlh kl (by simp only[Bool.and_eq_true] at hk;exact hk.1)⟩,⟨jT O T U,u_ h4 (by omega),by rw[hv];exact hs,fun t u ht hu=>?_⟩,hne⟩
 .have h1:Below w.heap.size w w1:=hb.grown hg1 hb.size (fun k e=>by cases e;exact hne.2.2.2)
  exact(h1.trans (hV.mono h1.size)).setCell (by simpa using hne.2.2.1) _
 .rw[kE h4 (by omega),hbit t u ht hu,MK hT hU ht hu]
  by_cases e:t=T/\u=U
  .obtain⟨rfl,rfl⟩:=e;rw[hR];simp
  .have:(decide (t=T) &&decide (u=U))=false:=by simpa using e
   rw[this];simp
theorem Bd (A:Option Addr)(n c:Nat)(s:List ay)(w:World)(hx:aC w A n s)(hv:aF s=true):
 Calls Tryz.prog 106 #[.slice A n c] w (aT w (dD (qA (committed s)))):=by
 have hn:=hx.2.1;have hl:=hx.1;have hmm:= @run_makeMap Tryz.prog;obtain⟨i0,hi,hz0,hz1,hz2⟩:=info_parts jI;have HX:=ah hx;have HV:=ah hv;have hb0:Below w.heap.size w (w.alloc (.map #[] 0)):=(Below.refl _ w).alloc aj _;have HM0:Hid ((w.alloc (.map #[] 0)).ownsMap Tryz.prog 186 (plainElem (H:=Unit) Tryz.prog 4) w.heap.size 0 (.map [])):=World.ownsMap_made w _ _ _;have HC:=ah (tq A n c s (w.alloc (.map #[] 0)) (hx.below hb0 aj));have HB0:=ah hb0;clear hx hv hb0;go_enter Tryz.func106,Tryz.ntmps106;go_wp2_with fail
 refine HC.out.mono ?_;rintro e w1 ⟨C,cc,rfl,hcc,hfr,hb1⟩;clear hmm;obtain⟨L,hL⟩: ∃L,committed s=L:=⟨_,rfl⟩;have hCb: ∀ad,C=some ad->ad.block≠w.heap.size:=fun ad had=>by
  obtain⟨b,cur,e,h1,_,_⟩:=hfr.2 ad had;simp at h1;rw[e];simp only;omega
 have SV: ∀o∈L,0<=o.tx/\o.tx<=3:=fun o ho=>by
  rw[<-hL] at ho;exact rD HV.out (List.mem_filter.1 ho).1
 have h16:L.length<=16:=by
  rw[<-hL];refine Nat.le_trans (List.length_filter_le _ _) ?_;have:=HV.out;unfold aF at this;simp only[Bool.and_eq_true,decide_eq_true_eq] at this;exact this.1
 have HST:Hid (oK w w.heap.size C L.length L (jv L 0) 0 w1):=by
  refine⟨HB0.out.trans (hb1.mono HB0.out.size),⟨_,mM HM0.out (hb1.block w.heap.size (by simp)),yG.empty⟩,?_⟩
  rw[<-hL];exact hfr.1
 have P8:=ah hCb;have HR3:=ah SV;have HGI:Hid (qA (committed s)=jv L L.length):=by show _=_;rw[hL];rfl
 rw[hL] at hcc ⊢;obtain⟨m,hm⟩: ∃m,L.length=m:=⟨_,rfl⟩;rw[hm] at HST HGI hcc h16 ⊢;have HLEN:=ah hm;clear hfr hb1 hCb SV hL HC HM0 hm;go_wp2_with fail
 go_loopw [16] (fun i wr=> ∃k:Nat,k<=m/\i=.int .i64 k/\oK w w.heap.size C m L (jv L k) (16*k) wr) (fun i _=>m- (intOf i).toNat)
 case atStart=>exact⟨0,Nat.zero_le _,rfl,HST.out⟩
 case round=>
  clear HST;obtain⟨wo,rfl⟩: ∃wo:World,wo=wr:=⟨_,rfl⟩;obtain⟨k,hk,rfl,hinv⟩:=hrel;have nQ:=ah hinv;by_cases hlt:k<m
  .obtain⟨b,off,a,hCe,hbl,ho,c0,c1,c2⟩:=nQ.out.list.at_ hlt;subst hCe;have har:=HR3.out a (List.mem_of_getElem? ho);have Wl:=ah (zI ho);obtain⟨at_,ak,ai⟩:=a;simp only at c0 c1 c2 har;obtain⟨M,hM⟩: ∃M:Nat,M=m- (k+1):=⟨_,rfl⟩;have hMi:(m:Int) - ((k:Int)+1)=(M:Int):=by omega
   have hjw:IntKind.i64.wrap ((k:Int)+1)=(k:Int)+1:=IntWalk.i64_in _ (by omega)
   have hjt:((k:Int)+1).toNat=k+1:=by omega
   have HHO:=ah ho;have HHM:=ah hM;clear hinv ho hM;by_cases hkc:k+1=cc
   .obtain rfl:m=k+1:=by omega
    subst hkc;have hfin: ∀W,Below wo.heap.size wo W->oK w w.heap.size (some ⟨b,off,none⟩) (k+1) L (jv L (k+1)) (16*(k+1)) W:=fun W hW=>by
     rw[Wl.out,HLEN.out,Nat.sub_self,DI];exact(nQ.out.later hW).more (by omega)
    have HN:=ah hfin;clear hfin;go_wp2_with fail
    have hba:Below wo.heap.size wo (wo.alloc (.cells #[.int .i64 at_,.int .i64 ak,.int .i64 ai] 89)):=aG.alloc aj _;go_loopw [26] (fun i wr2=>i=.int .i64 0/\Below wo.heap.size wo wr2) (fun _ _=>0)
    case atStart=>exact⟨rfl,hba⟩
    case round=>
     obtain⟨rfl,hb2⟩:=hrel;go_wp2_with fail
     go_roundw
     case rel=>exact⟨k+1,by omega,by go_num,HN.out _ hb2⟩
     case measure=>simp[intOf] <;>omega
   .have abR: ¬((k:Int)+1=(cc:Int)):=by omega
    have abS: ¬(cc<=k+1):=by omega
    have hjm:k+1<=m:=by omega
    go_wp2_with fail
    have abT:(wo.alloc (.cells #[.int .i64 at_,.int .i64 ak,.int .i64 ai] 89)).heap.size=wo.heap.size+1:=by simp
    have TL: ∀i v,(#[Value.int .i64 at_,.int .i64 ak,.int .i64 ai] :Array Value)[i]? =some v->(wo.alloc (.cells #[.int .i64 at_,.int .i64 ak,.int .i64 ai] 89)).cell? ⟨wo.heap.size,i,none⟩=some v:=fun i v h=>aV _ _ _ _ _ h
    have zB:=nQ.out.lt;have HW1:Hid (oK w w.heap.size (some ⟨b,off,none⟩) m L (jv L k) (16*k) (wo.alloc (.cells #[.int .i64 at_,.int .i64 ak,.int .i64 ai] 89))):=nQ.out.later (aG.alloc aj _);obtain⟨wa,hwa⟩: ∃wa,wo.alloc (.cells #[.int .i64 at_,.int .i64 ak,.int .i64 ai] 89)=wa:=⟨_,rfl⟩;rw[hwa] at abT TL HW1 ⊢;have a0:=TL 0 _ rfl;have a1:=TL 1 _ rfl;have a2:=TL 2 _ rfl;clear TL hwa c0 c1 c2;go_loopw [26] (fun i wr2=> ∃q:Nat,q<=m- (k+1)/\i=.int .i64 q/\wa.grownBy wr2 (some w.heap.size)/\oK w w.heap.size (some ⟨b,off,none⟩) m L (kI L k ⟨at_,ak,ai⟩ (jv L k) q) (16*k+q) wr2) (fun i _=>m- (k+1) - (intOf i).toNat)
    case atStart=>exact⟨0,Nat.zero_le _,rfl,World.grownBy.refl _ _,HW1.out⟩
    case round=>
     clear HW1;obtain⟨wi,rfl⟩: ∃wi:World,wi=wr:=⟨_,rfl⟩;obtain⟨q,hq,rfl,hgr,Ku⟩:=hrel;have HI2:=ah Ku;have HGR:=ah hgr;by_cases hlq:q<m- (k+1)
     .obtain⟨b',off',p,hCe,YC,hp,d0,d1,d2⟩:=Ku.list.at_ (k:=k+1+q) (by omega)
      injection hCe with hCe;injection hCe with q1 q2 _;subst q1;subst q2;have hpr:=HR3.out p (List.mem_of_getElem? hp);have aaK:=ah (xB (a:=⟨at_,ak,ai⟩) (rows:=jv L k) hp);obtain⟨pt,pk,RL⟩:=p;simp only at d0 d1 d2 hpr;have eo:off+(k+1+q)*3=off+(k+1)*3+q*3:=by omega
      rw[eo] at d0 d1 d2;have e0:=(cell_grown hgr (p:=⟨wo.heap.size,0,none⟩) (by simp;omega) (by simp;omega)).trans a0
      have e1:=(cell_grown hgr (p:=⟨wo.heap.size,1,none⟩) (by simp;omega) (by simp;omega)).trans a1
      have e2:=(cell_grown hgr (p:=⟨wo.heap.size,2,none⟩) (by simp;omega) (by simp;omega)).trans a2
      have hbI:=Ku.lt;obtain⟨wb,hwb⟩: ∃wb,wi.alloc (.cells #[.int .i64 pt,.int .i64 pk,.int .i64 RL] 89)=wb:=⟨_,rfl⟩;have hbb:Below wi.heap.size wi wb:=by rw[<-hwb];exact aG.alloc aj _
      have Wu: ∀i v,(#[Value.int .i64 pt,.int .i64 pk,.int .i64 RL] :Array Value)[i]? =some v->wb.cell? ⟨wi.heap.size,i,none⟩=some v:=fun i v h=>by rw[<-hwb];exact aV _ _ _ _ _ h
      have acz:wb.heap.size=wi.heap.size+1:=by rw[<-hwb];simp
      have p0:=Wu 0 _ rfl;have p1:=Wu 1 _ rfl;have p2:=Wu 2 _ rfl;have YX:wo.heap.size<wi.heap.size:=by have:=World.grownBy.size hgr;omega
      have f0:=(hbb.cell (p:=⟨wo.heap.size,0,none⟩) YX).trans e0;have f1:=(hbb.cell (p:=⟨wo.heap.size,1,none⟩) YX).trans e1;have f2:=(hbb.cell (p:=⟨wo.heap.size,2,none⟩) YX).trans e2;obtain⟨cb,hcb⟩: ∃cb,fH ⟨at_,ak,ai⟩ ⟨pt,pk,RL⟩=cb:=⟨_,rfl⟩;have hcf:Calls Tryz.prog 123 #[.agg #[.int .i64 at_,.int .i64 ak,.int .i64 ai],.agg #[.int .i64 pt,.int .i64 pk,.int .i64 RL]] wb fun e w'=>e=.returned (.bool cb)/\Below wb.heap.size wb w':=by
       have:=mq ⟨at_,ak,ai⟩ ⟨pt,pk,RL⟩ wb;rw[hcb] at this;exact this
      have O9:=ah hcf;have hst:kI L k ⟨at_,ak,ai⟩ (jv L k) (q+1)=if cb then jT (kI L k ⟨at_,ak,ai⟩ (jv L k) q) at_ pt else kI L k ⟨at_,ak,ai⟩ (jv L k) q:=by
       rw[aaK.out];unfold ug;rw[hcb]
      have HST:=ah hst;have xw:Hid (dA (kI L k ⟨at_,ak,ai⟩ (jv L k) q)):=yF HR3.out (vB HR3.out k) q;have HWB:=ah hwb;have Vl:=ah hbb;clear Ku hgr hp Wu hcb hcf hst aaK hwb eo;have lq:(q:Int)< ((m- (k+1):Nat):Int):=by omega
      go_wp2_with fail
      rw[HWB.out];clear d0 d1 d2 e0 e1 e2;refine O9.out.mono ?_;rintro e w3 ⟨rfl,hb3⟩;have TM:Below wi.heap.size wi w3:=Vl.out.trans (hb3.mono Vl.out.size);have HI3:=ah (HI2.out.later TM);have HG3:Hid (wa.grownBy w3 (some w.heap.size)):=HGR.out.trans (fq TM);cases cb
      .clear f0 f1 f2 p0 p1 p2;go_wp2_with fail
       go_roundw
       case rel=>exact⟨q+1,by omega,by go_num,HG3.out,by rw[HST.out,if_neg (by simp)];exact HI3.out.more (by omega)⟩
       case measure=>simp[intOf];omega
      .have g0:=(hb3.cell (p:=⟨wo.heap.size,0,none⟩) (by simp;omega)).trans f0
       have g1:=(hb3.cell (p:=⟨wi.heap.size,0,none⟩) (by simp;omega)).trans p0
       obtain⟨D3,hown3,aaL⟩:=HI3.out.map;clear f0 f1 f2 p0 p1 p2;go_wp2_with (at_mapUpdate;refine wpList_mapUpdate_own _ rfl _ _ _ 184 rfl 186 4 Cg Tryz.underlying184 (plainElem (H:=Unit) Tryz.prog 4) w.heap.size (16*k+q) D3 rfl hown3 (by unfold maxLen;omega) _ _ (jR at_ pt) rfl rfl (Oq (jw har) (jw hpr)) (.lit (.bool true)) [] (plainElem_bool Tryz.underlying4 true) ?_;intro w4 iy hg4)
       have hn:oK w w.heap.size (some ⟨b,off,none⟩) m L (kI L k ⟨at_,ak,ai⟩ (jv L k) (q+1)) (16*k+(q+1)) w4:=by
        refine⟨HI3.out.below.grown hg4 HI3.out.below.size (fun k e=>by cases e;exact Nat.le_refl _),⟨_,iy,?_⟩,HI3.out.list.YW hg4 P8.out⟩
        rw[HST.out,if_pos (by trivial)]
        exact aaL.put xw.out har hpr _
       have HN:=ah hn;have HG4:=ah (HG3.out.trans hg4);clear hn hown3 aaL iy hg4 g0 g1;go_wp2_with fail
       go_roundw
       case rel=>exact⟨q+1,by omega,by go_num,HG4.out,HN.out⟩
       case measure=>simp[intOf];omega
     .have hfin:oK w w.heap.size (some ⟨b,off,none⟩) m L (jv L (k+1)) (16*(k+1)) wi:=by
       rw[Wl.out,HLEN.out];have:q=m- (k+1):=by omega
       subst this;exact HI2.out.more (by omega)
      have HN:=ah hfin;clear hfin Ku hgr;go_wp2_with fail
      go_roundw
      case rel=>exact⟨k+1,by omega,by go_num,HN.out⟩
      case measure=>simp[intOf];omega
  .obtain rfl:k=m:=by omega
   obtain⟨D,hown,OL⟩:=nQ.out.map;have RN:=ah OL;have hbs:=nQ.out.below.size;have zB:=nQ.out.lt;go_wp2_with (first|(at_make;refine wpList_make_full _ rfl _ _ 45 rfl wo.heap.size 3 i0 _ 1 Tryz.underlying45 hi hz0 hz1 .i64 .i64 _ _ 4 rfl rfl rfl rfl (by rw[hz2];omega) (by unfold maxLen;omega) aj ?_;intro w2 hown2 hg2)|(at_range;refine wpList_range_own _ rfl _ 184 rfl 186 4 Cg Tryz.underlying184 (plainElem (H:=Unit) Tryz.prog 4) w.heap.size (16*k) D rfl (mM hown (hg2.block w.heap.size zB (by simp))) ?_;intro w0 hrg0 hg0 hs0))
   have hbw2:Below wo.heap.size wo w2:=⟨hg2.os,hg2.tape,hg2.output,hg2.size,fun k hk=>hg2.block k hk (by simp)⟩
   have hrow:au w2 wo.heap.size 3 (intCells (dD [0,0,0,0])++ []):=by
    rcases hown2.2 with⟨h1,_⟩|⟨g,cap,cur,h1,h2,h3,h4,h5,h6,h7⟩
    .cases h1
    .injection h1 with ha hb hc;injection ha with ha;injection ha with ha;subst ha;subst hc;unfold au;rw[h3];congr 2
     apply Array.ext'
     rw[List.take_of_length_le (by simpa using Nat.le_of_eq h6)] at h7
     rw[h7,uZ];rfl
   have abU:=mM hown (hbw2.block w.heap.size zB);have jX:=ah hrow;have HB2:=ah (nQ.out.below.trans (hbw2.mono nQ.out.below.size));have hz2:=hbw2.size;have hgl:=hrow.lt;clear hown2 hg2 hbw2 hrow hown nQ;try go_frame
   have YZ:Below w2.heap.size w2 w0:=⟨hg0.os,hg0.tape,hg0.output,hg0.size,fun k hk=>hg0.block k hk (by simp)⟩
   have HST:Hid (sF w w.heap.size w2.heap.size wo.heap.size (16*k) (jv L k) (Maps.has D) (Maps.size D) w0):=by
    refine⟨HB2.out.trans (YZ.mono HB2.out.size),⟨D,hrg0,RN.out,fun _ h=>h⟩,⟨[0,0,0,0],Ot,jX.out.below YZ aj,fun t u ht hu=>?_⟩,by omega,by omega,hbs,by omega⟩
    have h1:=RN.out.has t u (jw (by omega)) (jw (by omega))
    rw[Int.toNat_natCast,Int.toNat_natCast] at h1;have h0:(([0,0,0,0] :List Nat).getD t 0).testBit u=false:=by
     rcases(by omega:t=0\/t=1\/t=2\/t=3) with rfl|rfl|rfl|rfl<;>simp
    rw[h0];cases hbt:((jv L k).getD t 0).testBit u
    .rfl
    .rw[h1.2 ⟨by omega,by omega,by omega,by omega,hbt⟩];rfl
   clear hrg0 hg0 hs0 YZ jX HB2 RN;go_loopw [10] (fun _ wr'=> ∃left cnt,sF w w.heap.size w2.heap.size wo.heap.size (16*k) (jv L k) left cnt wr') (fun _ wr'=>wr'.rangeLeft w.heap.size w2.heap.size)
   case atStart=>exact⟨_,_,HST.out⟩
   case round=>
    obtain⟨left,cnt,hF⟩:=hrel;obtain⟨wi,rfl⟩: ∃z:World,z=wr:=⟨_,rfl⟩;have HF:=ah hF;obtain⟨hbi,⟨D',hrg,OL,hlh⟩,⟨O,h4O,hrow,hbit⟩,hne⟩:=hF;have HRG:=ah hrg;have RN:=ah OL;have HLH:=ah hlh;have jX:=ah hrow;have Qf:=ah hbit;have H4O:=ah h4O;have hok:=vB HR3.out k;have xw:=ah hok;clear hrg OL hlh hrow hbit h4O hok HST;go_wp2_with (at_next;refine JW rfl _ rfl _ _ _ D' left cnt rfl HRG.out (fun hc0 hl0=>?_) (fun t u c w1 cnt1 hwt D8 hlx hat hrg1 hlt1 hg1 hs1 acA=>?_))
    .have hOR:O=jv L k:=DJ H4O.out xw.out fun t u ht hu=>by rw[Qf.out t u ht hu,hl0];simp
     have hrw:=jX.out;rw[hOR] at hrw;have hl4:(dD (jv L k)).length=4:=by simp[dD,xw.out.1]
     have HO:Hid (aT w (dD (qA (committed s))) (.returned (.slice (some ⟨wo.heap.size,0,none⟩) 4 4)) wi):=by
      show aT _ _ _ _
      rw[HGI.out];refine aT.mk hl4 aj ⟨hrw.ints hl4 (by omega),fun ad had=>?_⟩ hbi
      injection had with had;subst had;exact⟨_,_,rfl,hne.2.2.1,hrw,by simp[intCells,hl4]⟩
     clear hOR hrw hl0 HF HRG;go_ret;exact HO.out
    .obtain⟨ht0,ht3,hu0,hu3,hbt⟩:=(RN.out.has t u hwt D8).1 (HLH.out _ hlx);obtain⟨T,rfl⟩:=Int.eq_ofNat_of_zero_le ht0;obtain⟨U,rfl⟩:=Int.eq_ofNat_of_zero_le hu0;rw[Int.toNat_natCast,Int.toNat_natCast] at hbt;have Wm:T<4:=by omega
     have hU4:U<4:=by omega
     obtain⟨V,hV⟩: ∃V:World,V=w1.alloc (.cells #[.int .i64 (T:Int),.int .i64 (U:Int)] 186):=⟨_,rfl⟩;have qX:Below w1.heap.size w1 V:=by rw[hV];exact aG.alloc aj _
     have m_:Hid (∀v:Int,v=((O.getD T 0|||1<<<U:Nat):Int)->sF w w.heap.size w2.heap.size wo.heap.size (16*k) (jv L k) (fun z=>left z&& !z.sameKey (jR T U)) cnt1 (V.drew.setCell ⟨wo.heap.size,T,none⟩ (.int .i64 v))):=fun v hv=>
      sF.step hbi RN.out HLH.out H4O.out jX.out Qf.out hne Wm hU4 hbt hrg1 hg1 qX.drew v hv
     have XI:Hid (cnt1<cnt/\wi.rangeLeft w.heap.size w2.heap.size=cnt):=⟨hlt1,HRG.out.left_eq⟩;have v0:V.cell? ⟨w1.heap.size,0,none⟩=some (.int .i64 (T:Int)):=by rw[hV];exact aV _ _ _ _ _ rfl
     have v1:V.cell? ⟨w1.heap.size,1,none⟩=some (.int .i64 (U:Int)):=by rw[hV];exact aV _ _ _ _ _ rfl
     have Kt:au V wo.heap.size 3 (intCells (dD O)++ []):=au.below ((hg1.block wo.heap.size jX.out.lt (by intro e;injection e with e;exact hne.1 e.symm)).trans jX.out) qX aj
     have xH:=(yt H4O.out (T:=T) (by omega)).2
     have hcr:V.cell? ⟨wo.heap.size,T,none⟩=some (.int .i64 ((O.getD T 0:Nat):Int)):=by
      refine Kt.cell ?_;rw[List.append_nil];exact(yt H4O.out (T:=T) (by omega)).1
     have hfz:=Kt.frozen T;generalize O.getD T 0=x at*;have hVV:=ah hV;have e1:bits .or .i64 (x:Int) 1=((x|||1:Nat):Int):=jl x 1 (by omega) (by omega)
     have e2:bits .or .i64 (x:Int) 2=((x|||2:Nat):Int):=jl x 2 (by omega) (by omega)
     have e4:bits .or .i64 (x:Int) 4=((x|||4:Nat):Int):=jl x 4 (by omega) (by omega)
     have e8:bits .or .i64 (x:Int) 8=((x|||8:Nat):Int):=jl x 8 (by omega) (by omega)
     have l1:(T:Int)<4:=by omega
     have l2:(0:Int)<=(T:Int):=by omega
     rw[hs1] at v0 v1;obtain⟨wd,hwd⟩: ∃wd:World,wd=V.drew:=⟨_,rfl⟩;rw[<-hwd] at m_;have aay:wd.cell? ⟨wo.heap.size,T,none⟩=some (.int .i64 (x:Int)):=by rw[hwd];exact hcr
     have aaz:wd.frozen? ⟨wo.heap.size,T,none⟩=false:=by rw[hwd];exact hfz
     clear hrg1 hg1 hlx hat hV qX Kt hwt D8 hbt HF HRG;rw[<-hVV.out];rcases(by omega:U=0\/U=1\/U=2\/U=3) with rfl|rfl|rfl|rfl
     all_goals
      refine wp_region_still_tail 10 (by kernel_rfl) (by kernel_rfl) ?_
      simp only[List.take_succ_cons,List.take_zero,List.drop_succ_cons,List.drop_zero];repeat(first|still_step|fail)
      refine wpStill_nil ?_;change wpList _ _ _ _ _ V.drew;rw[<-hwd];go_wp2_with fail
      go_roundw
      case rel=>
       first|rw[e1] |rw[e2] |rw[e4] |rw[e8]
       have h:=m_.out _ rfl;rw[hwd] at h;exact⟨_,_,h⟩
      case measure=>
       first|rw[e1] |rw[e2] |rw[e4] |rw[e8]
       have h:=m_.out _ rfl;rw[hwd] at h;obtain⟨D9,Vn,_⟩:=h.rng;have h1:=Vn.left_eq;exact Nat.lt_of_lt_of_le (Nat.lt_of_le_of_lt (Nat.le_of_eq h1) XI.out.1) (Nat.le_of_eq XI.out.2.symm)
end Go.Proofs.YtddkjbibjjehjaaGreatDoor
