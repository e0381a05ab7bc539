/-
  Texts that the proof rests on, joined: part 37.
-/
import Derived.ScopeJumps
import Derived.Test.YtddkjbibjjehjaaGreatDoorSXr30
import Derived.Test.YtddkjbibjjehjaaGreatDoorSXr36
set_option maxHeartbeats 16000000
set_option maxRecDepth 100000
namespace Go.Proofs.YtddkjbibjjehjaaGreatDoor
open Go.RowKit Go.BigFrame
set_option linter.unusedVariables false
theorem Q5 {w:World}{g n c i:Nat}{xs:List ay}{rest:List Value}(hr:au w g 89 (aB xs++rest))(hx:xs.length=n)(hi:i<n):
 ∃ys,au (w.setCells g (i*3) (aB (xs.drop (i+1)))) g 89 (aB ys++rest)/\ys.length=n/\ys.take (n-1)=xs.take i++xs.drop (i+1):=by
 have hlen:=bQ xs;have hld:=bQ (xs.drop (i+1));have hdl:(xs.drop (i+1)).length=n- (i+1):=by rw[List.length_drop];omega
 have h1:=uM (aB (xs.drop (i+1))) (i*3) w _ hr (by rw[List.length_append];omega)
 refine⟨xs.take i++xs.drop (i+1)++xs.drop (n-1),?_,?_,?_⟩
 .have e:(aB xs++rest).take (i*3)++aB (xs.drop (i+1))++(aB xs++rest).drop (i*3+(aB (xs.drop (i+1))).length)=aB (xs.take i++xs.drop (i+1)++xs.drop (n-1))++rest:=by
   rw[List.take_append_of_le_length (by omega),List.drop_append_of_le_length (by omega),yU,show i*3+(aB (xs.drop (i+1))).length=(n-1)*3 by omega,yV]
   simp only[iC,List.append_assoc]
  rw[<-e];exact h1
 .simp only[List.length_append,List.length_take,List.length_drop];omega
 .rw[List.take_append_of_le_length (by simp only[List.length_append,List.length_take,List.length_drop];omega),List.take_of_length_le (by simp only[List.length_append,List.length_take,List.length_drop];omega)]
theorem drop_at {α:Type}{xs:List α}{k j:Nat} :(xs.drop k)[j]? =xs[k+j]? :=List.getElem?_drop
theorem EB (B:Nat)(A:Option Addr)(n c i:Nat)(xs:List ay)(w:World)(hown:w.ownsRow B 89 3 (.slice A n c) n (aB xs))(hn:n<=30000)(hi:i<n):
 Calls Tryz.prog 187 #[.slice A n c,.int .i64 (i:Int),.int .i64 ((i:Int)+1)] w (sM B A n c (xs.take i++xs.drop (i+1)) w):=by
 obtain⟨i0,hi0,hz0,hz1,hz2⟩:=info_parts CU;have hl:=g_ hown;obtain⟨g,rest,rfl,hBg,hrow,hnc,hcm,hfull⟩:=GK hown (by omega)
 have hlen:=bQ xs;have hdl:(aB (xs.drop (i+1))).length=(n- (i+1))*3:=by rw[bQ,List.length_drop,hl]
 obtain⟨Ad,hA,hsrc⟩: ∃Ad:Addr,(if c=i+1 then some (⟨g,0,none⟩:Addr) else some ⟨g,(i+1)*3,none⟩)=some Ad/\Hid (∀j u,(aB (xs.drop (i+1)))[j]? =some u->w.drew.cell? (Ad.add j)=some u):=by
  by_cases h:c=i+1
  .refine⟨⟨g,0,none⟩,by simp[h],fun j u hu=>?_⟩
   have:(aB (xs.drop (i+1))).length=0:=by rw[hdl];omega
   rw[List.length_eq_zero_iff.1 this] at hu;simp at hu
  .refine⟨⟨g,(i+1)*3,none⟩,by simp[h],fun j u hu=>?_⟩
   have hj:j< (n- (i+1))*3:=by
    have:=(List.getElem?_eq_some_iff.1 hu).1;omega
   rw[<-yV,drop_at] at hu;rw[Addr.add_lit];refine au.cell (w:=w.drew) hrow ?_;rw[List.getElem?_append_left (by omega)]
   exact hu
 have s1:Hid ((aB (xs.drop (i+1))).length=(n- (i+1))*3):=hdl;have s2:Hid (∀u∈aB (xs.drop (i+1)),u.oneCell'=true):=tV _;have s3:Hid (∀j,j< (aB (xs.drop (i+1))).length->(w.drew.cell? ⟨g,0+i*3+j,none⟩).isSome=true/\w.drew.frozen? ⟨g,0+i*3+j,none⟩=false):=fun j hj=>by
  rw[hdl] at hj;have hj2:0+i*3+j< (aB xs++rest).length:=by rw[List.length_append];omega
  exact⟨by rw[au.cell (w:=w.drew) hrow (List.getElem?_eq_getElem hj2)];rfl,au.frozen (w:=w.drew) hrow _⟩
 obtain⟨ys,hry,hyl,hyt⟩:=Q5 (w:=w.drew) (c:=c) hrow hl hi;obtain⟨W1,hW1⟩: ∃W1,W1=w.drew.setCells g (i*3) (aB (xs.drop (i+1))):=⟨_,rfl⟩;rw[<-hW1] at hry;have hg1:w.grownBy W1 (some g):=by rw[hW1];exact World.grownBy.trans (fq aG.drew) (uN _ _ _)
 have hyf:(aB ys++rest).length=c*3:=by
  have h1:=bQ ys;rw[List.length_append] at hfull ⊢;omega
 have hcl: ∀ty,(Builtin.clear_ #[47] ty #[.slice (some ⟨g,(i+(n- (i+1)))*3,none⟩) (n- (i+(n- (i+1)))) (c- (i+(n- (i+1))))]).run Tryz.prog W1=.ok (.tuple #[]) (W1.setCells g ((i+(n- (i+1)))*3) (List.replicate ((n- (i+(n- (i+1))))*3) (.int .i64 0))):=
  fun ty=>wS W1 ty hry (by omega) (by omega)
 have HF:Hid (sM B (some ⟨g,0,none⟩) n c (xs.take i++xs.drop (i+1)) w (.returned (.slice (some ⟨g,0,none⟩) (i+(n- (i+1))) c)) (W1.setCells g ((i+(n- (i+1)))*3) (List.replicate ((n- (i+(n- (i+1))))*3) (.int .i64 0)))):=
  OQ hry hBg hyl hcm hyf (by omega) hnc (by rw[<-hyt];congr 1;omega) hg1
 have HW:Hid (W1=w.drew.setCells g (0+i*3) (aB (xs.drop (i+1)))):=by show _=_;rw[Nat.zero_add];exact hW1
 have hii:(i:Int)<=(c:Int):=by omega
 have acK:(0:Int)<=(i:Int):=by omega
 have hi1:(i:Int)+1<=(n:Int):=by omega
 have acL:(i:Int)+1<=(c:Int):=by omega
 have hcut:((i:Int)+1).toNat=i+1:=by omega
 have hne:((i:Int)==(i:Int)+1)=false:=by rw[beq_eq_false_iff_ne];omega
 have acM:(0:Int)<=(i:Int)+1:=by omega
 have hcn: ¬ c=i+(n- (i+1)):=by omega
 have hnn:((i+(n- (i+1)):Nat):Int)<=(n:Int):=by omega
 have hcc:(n:Int)<=(c:Int):=by omega
 clear hown hrow hlen hdl hry hyl hyt hW1 hg1 hyf hfull;go_enter Tryz.func187,Tryz.ntmps187;go_wp2_with fail
 go_region_law (refine step_append_room rfl (.tmp 22) (.tmp 25) 47 rfl 89 i0 3 Tryz.underlying47 hi0 hz1 g 0 i c (by simp[Act.eval,Act.put]) Ad (n- (i+1)) (c- (i+1)) (aB (xs.drop (i+1))) (by simp[Act.eval,Act.put]) s1.out hsrc.out s2.out (by omega) s3.out ?_;rw[<-HW.out])
 go_wp2_with fail
 go_ret;exact HF.out
theorem Ny (r:dQ)(N:Nat)(hN:N<=1000)(B R tg:Nat)(V:DV)(D:bY)(w:World)(h:bO w B R tg (dR r) V D)(hg:Fair N D):
 Calls Tryz.prog 167 #[.pointer (some ⟨R,0,none⟩)] w fun e w'=>GJ B R tg (dR r) V w (b_ r D) e w'/\Fair N (b_ r D):=by
 go_enter Tryz.func167,Tryz.ntmps167;refine wp_scope_jumps 0 (fun a' w'=> ∃ (u1 u2 u3 u4 u5 u6 u7 u8 u9 u10 u11 u12 u13 u14 u15 u16 u17 u18 u19 u20 u21 u22 u23 u24 u25 u26 u27 u28 u29 u30 u31 u32 u33 u34 u35 u36 u37 u38 u39 u40 u41 u42 u43 u44 u45 u46 u47 u48 u49:Value) (V':DV) (D':bY),a'= { tmps:= #[.pointer (some ⟨R,0,none⟩),u1,u2,u3,u4,u5,u6,u7,u8,u9,u10,u11,u12,u13,u14,u15,u16,u17,u18,u19,u20,u21,u22,u23,u24,u25,u26,u27,u28,u29,u30,u31,u32,u33,u34,u35,u36,u37,u38,u39,u40,u41,u42,u43,u44,u45,u46,u47,u48,u49],defers:= [] } /\bO w' B R tg (dR r) V' D'/\lK R tg w V w' V'/\Fair N D'/\b_ r D'=b_ r D) (fun _ w'=>Zi R tg w') rfl ?_ ?_
 .obtain⟨Ad,Aw,Al,Ak,nd,n,nl,nk,cd,cw,cl,ck,MZ,hcs,f1,f2,f3,f4⟩:=h.forms;have HH:Hid (∀W,Below w.heap.size w W->bO W B R tg (dR r) ⟨.slice Ad nd cd,.slice Aw n cw,.slice Al nl cl,.slice Ak nk ck⟩ D):=fun W hW=>by rw[<-MZ];exact h.eZ hW
  have HX:Hid (∀W,Below w.heap.size w W->aC W Aw n D.wait):=fun W hW=>by
   have h1:=(h.eZ hW).aO.dh f2;rw[MZ] at h1;exact aC.aH h1 (by have:=hg.lens hN;omega)
  have HG:=ah hg;have HN0:Hid (D.wait.length=n):=f2;have Nz:=ah (hg.lens hN);have hn9:n<=1000:=by have:=hg.lens hN;omega
  have hcw:n<=cw:=hcs.2.1;have HS:Hid (lK R tg w V w ⟨.slice Ad nd cd,.slice Aw n cw,.slice Al nl cl,.slice Ak nk ck⟩):=by show lK _ _ _ _ _ _;rw[<-MZ];exact lK.refl _ _ _ _
  clear h hg MZ hcs f1 f2 f3 f4;go_wp2_with fail
  go_step3
  have hhd:=qN B R tg _ _ D w (HH.out w aG) HG.out.val (by have:=Nz.out;omega)
  have zS:=ah hhd;clear hhd;go_wp2_with fail
  refine zS.out.mono ?_;rintro e w2 ⟨HA,hac,rfl,Xa,hfr,hb2⟩;obtain⟨q,hq⟩: ∃q,(cZ D.wait).length=q:=⟨_,rfl⟩;have HQ:=ah hq;rw[hq] at Xa hfr ⊢;have VE:=hfr.1.2.1;have HST:Hid (Below w.heap.size w w2/\aM w2 HA q (cZ D.wait)):=⟨hb2,hfr.1⟩;clear zS hb2 hfr hq;go_wp2_with fail
  go_loopw [9] (fun i wr=> ∃k:Nat,k<=q/\i=.int .i64 k/\Below w.heap.size w wr/\aM wr HA q (cZ D.wait)/\ ∀j x,j<k->(cZ D.wait)[j]? =some x->dN D x.toNat=false) (fun i _=>q- (intOf i).toNat)
  case atStart=>exact⟨0,Nat.zero_le _,rfl,HST.out.1,HST.out.2,fun j x hj=>by omega⟩
  case round=>
   clear HST;obtain⟨wo,rfl⟩: ∃z:World,z=wr:=⟨_,rfl⟩;obtain⟨k,hk,rfl,nE,hH,hno⟩:=hrel;have hbs:=nE.size;by_cases zB:k<q
   .obtain⟨bh,BN,x0,Xb,hbl,hx,ch⟩:=hH.at_ zB;subst Xb;obtain⟨X,o,ho,hfx,rfl⟩:=iX.1 (List.mem_of_getElem? hx);have UH:X<n:=by have:=(List.getElem?_eq_some_iff.1 ho).1;have:=HN0.out;omega
    obtain⟨b,off,o',hA',UJ,ho',c0,c1,c2⟩:=(HX.out wo nE).at_ UH;rw[ho] at ho';injection ho' with ho';subst ho';subst hA';have Bj:=HG.out.val o (List.mem_of_getElem? ho);have hA:=HH.out wo nE;have r1:wo.cell? ⟨R,1,none⟩=some (.slice (some ⟨b,off,none⟩) n cw):=hA.cells.2.1;have bF:=(HH.out w aG).far hbs;obtain⟨W,hW⟩: ∃W:World,W=wo.alloc (.cells #[.int .i64 o.tx,.int .i64 o.kind,.int .i64 o.item] 89):=⟨_,rfl⟩;have hbW:Below wo.heap.size wo W:=by rw[hW];exact aG.alloc aj _
    have hbx:au W wo.heap.size 89 [.int .i64 o.tx,.int .i64 o.kind,.int .i64 o.item] :=by rw[hW];exact heap_alloc_new wo _
    have hbw:=nE.trans (hbW.mono hbs);have hiw:=iW B R tg _ _ D o W (HH.out W hbw) Bj HG.out.comp;have hfe:dN D X=(aW D.av o).isEmpty:=by rw[free_eq ho,hfx,Bool.true_and]
    have hnx:dN D X=true->bB r D=some (bK ⟨D.done,D.wait.take X++D.wait.drop (X+1),D.av,D.dead⟩ o):=fun hd=>kK r ho hd (fun j hj=>vU hx hj (hf:=fun p y hp hy=>hno p y hp hy) (fun hfj=>by unfold dN;cases D.wait[j]? with|none=>rfl|some p=>simp only;rw[hfj];rfl))
    have HW:=ah hW;have iD:=ah hbx;have nK:=ah hiw;have kJ:=ah hno;have nD:=ah hbw;have VF:=ah (hH.below hbW aj);have EA:=ah hnx;have Zp:=ah hx;have Dv:=ah Bj;have Zr:=ah hfe;obtain⟨L,hL⟩: ∃z,aW D.av o=z:=⟨_,rfl⟩;rw[hL] at nK Zr;obtain⟨tx,kd,it⟩:=o;unfold ay.val at nK;simp only at c0 c1 c2 HW iD nK;have hki:(k:Int)< (q:Int):=by omega
    have hk0:(0:Int)<=(k:Int):=by omega
    have hXi:(X:Int)< (n:Int):=by omega
    have hX0:(0:Int)<=(X:Int):=by omega
    clear nE hH hA hx ho hfx Bj hW hbx hbW hiw hno hnx hL hbw hfe;go_wp2_with fail
    rw[<-HW.out];refine nK.out.mono ?_;rintro e w4 ⟨WA,wc,rfl,hwc,hwf,hb4⟩;obtain⟨z,hz⟩: ∃z,L.length=z:=⟨_,rfl⟩;have HZ:=ah hz;rw[hz] at hwc ⊢;have xM:=nD.out.trans (hb4.mono nD.out.size);clear hwf hz c0 c1 c2 r1 ch;by_cases hz0:z=0
    .subst hz0;have gZ:=ah (EA.out (by rw[Zr.out,List.isEmpty_iff];exact List.length_eq_zero_iff.1 HZ.out))
     have UM:=HH.out w4 xM;have r1:w4.cell? ⟨R,1,none⟩=some (.slice (some ⟨b,off,none⟩) n cw):=UM.cells.2.1;have hde:=EB B (some ⟨b,off,none⟩) n cw X D.wait w4 (UM.aO.dh HN0.out) (by omega) UH
     have Q0:=ah hde;have HA4:=ah UM;have tT:=ah hb4;have Zt:=ah xM;have hXw:IntKind.i64.wrap ((X:Int)+1)=(X:Int)+1:=IntWalk.i64_in _ (by omega)
     clear hde UM hb4 xM;go_wp2_with fail
     refine Q0.out.mono ?_;rintro e w5 ⟨rfl,EY,hg5⟩;obtain⟨⟨e0,e1⟩,qZ,hS5⟩:=HA4.out.jC hg5 EY (.inl rfl);have tL:=((lK.of_below R tg _ tT.out).trans hS5).row iD.out bF.1 bF.2.1 bF.2.2;have hfc:=HG.out.next (HH.out w aG).ok gZ.out;have hms:=HG.out.less gZ.out;have hse:=HG.out.settle gZ.out;obtain⟨m2,hm2⟩: ∃z,(D.wait.take X++D.wait.drop (X+1)).length=z:=⟨_,rfl⟩;rw[hm2] at qZ hS5 tL ⊢;simp only at e0;obtain⟨w6,RZ⟩: ∃w6:World,w6=w5.setCell ⟨R,1,none⟩ (.slice (some ⟨b,off,none⟩) m2 cw):=⟨_,rfl⟩;rw[<-RZ] at qZ hS5 tL;have hdo:=Ae B R tg _ _ _ ⟨tx,kd,it⟩ w6 qZ Dv.out (by have:=Nz.out;simp only;omega) (by have:=Nz.out;simp only;omega)
     unfold ay.val at hdo;simp only at hdo;obtain⟨q0,q1,q2⟩:w6.cell? ⟨wo.heap.size,0,none⟩=some (.int .i64 tx)/\w6.cell? ⟨wo.heap.size,1,none⟩=some (.int .i64 kd)/\w6.cell? ⟨wo.heap.size,2,none⟩=some (.int .i64 it):=⟨au.cell tL rfl,au.cell tL rfl,au.cell tL rfl⟩;obtain⟨D2,hD2⟩: ∃z,bK ⟨D.done,D.wait.take X++D.wait.drop (X+1),D.av,D.dead⟩ ⟨tx,kd,it⟩=z:=⟨_,rfl⟩;rw[hD2] at hfc hms hse hdo;have Uo:=ah hdo;have M7:Hid (lK R tg w V w6 _):=(HS.out.trans (lK.of_below R tg _ Zt.out)).trans hS5;have MH:=ah hfc;have XI:=ah hms;have RY:=ah hse;have HW6:=ah RZ;rw[RZ] at q0 q1 q2;clear hdo qZ hS5 tL hfc hms hse hD2 RZ EY hg5 hm2 gZ;go_wp2_with fail
     rw[<-HW6.out];refine Uo.out.mono ?_;rintro e w7 ⟨rfl,V7,nH,lS⟩;have Xe:=ah nH;have M8:=ah (M7.out.trans lS);clear nH lS q0 q1 q2 e0 e1;go_wp2_with fail
     go_step3
     exact⟨rfl,_,_,_,_,_,_,_,_,_,_,_,_,_,_,_,_,_,_,_,_,_,_,_,_,_,_,_,_,_,_,_,_,_,_,_,_,_,_,_,_,_,_,_,_,_,_,_,_,_,V7,_,rfl,Xe.out,M8.out,MH.out,RY.out.symm⟩
    .have HNF:Hid (dN D X=false):=by
      show _=_
      rw[Zr.out];cases hq:L with
      |nil=>have:=HZ.out;rw[hq] at this;simp at this;omega
      |cons a r=>rfl
     have hzb:((z:Int)==0)=false:=by simp;omega
     have tT:=ah xM;have Zq:=ah (VF.out.below hb4 aj);clear hb4 xM;go_wp2_with fail
     go_roundw
     case rel=>exact⟨k+1,by omega,by go_num,tT.out,Zq.out,fun j y hj hy=>by
      by_cases e:j=k
      .subst e;rw[Zp.out] at hy;injection hy with hy;subst hy;rw[Int.toNat_natCast];exact HNF.out
      .exact kJ.out j y (by omega) hy⟩
     case measure=>simp[intOf];omega
   .obtain rfl:k=q:=by omega
    have hfa: ∀j,j<D.wait.length->dN D j=false:=fun j hj=>vV HQ.out (hf:=fun p y hp hy=>hno p y hp hy) hj (fun hfj=>by unfold dN;cases D.wait[j]? with|none=>rfl|some p=>simp only;rw[hfj];rfl)
    have Xy:=Ez r B R tg _ D wo (HH.out wo nE) HG.out.val HG.out.comp (by have:=Nz.out;omega) hfa
    have HVC:=ah Xy;have Nw:=ah nE;clear nE hH hno Xy hfa;go_wp2_with fail
    refine HVC.out.mono ?_;rintro e w3 ⟨v,rfl,hb3,GU⟩;have HB3:=ah (Nw.out.trans (hb3.mono Nw.out.size));have HVI:=ah GU;clear hb3 GU HVC;by_cases hv0:0<=v
    .have hvd:decide (0<=v)=true:=by simpa using hv0
     obtain⟨T,rfl⟩:=Int.eq_ofNat_of_zero_le hv0;have GU:(T:Int)<=3/\bB r D=some (bP D (T:Int)):=by
      rcases HVI.out with⟨h1,_⟩|⟨_,h2,h3⟩
      .omega
      .exact⟨h2,h3⟩
     have Bc:T<=3:=by omega
     have MH:=ah (HG.out.next (HH.out w aG).ok GU.2);have XI:=ah (HG.out.less GU.2);have RY:=ah (HG.out.settle GU.2);have hab:=vQ B R tg _ _ D T w3 (HH.out w3 HB3.out) Bc (by have:=Nz.out;omega) (by have:=Nz.out;omega)
     have Vi:=ah hab;clear hab GU;go_wp2_with fail
     refine Vi.out.mono ?_;rintro e w7 ⟨rfl,V7,nH,lS⟩;have Xe:=ah nH;have M8:=ah ((HS.out.trans (lK.of_below R tg _ HB3.out)).trans lS);clear nH lS;go_wp2_with fail
     go_step3
     exact⟨rfl,_,_,_,_,_,_,_,_,_,_,_,_,_,_,_,_,_,_,_,_,_,_,_,_,_,_,_,_,_,_,_,_,_,_,_,_,_,_,_,_,_,_,_,_,_,_,_,_,_,V7,_,rfl,Xe.out,M8.out,MH.out,RY.out.symm⟩
    .have hvd:decide (0<=v)=false:=by simpa using hv0
     have hnn:bB r D=none:=by
      rcases HVI.out with⟨_,h⟩|⟨h,_⟩
      .exact h
      .omega
     have Xd:=ah (iI hnn);have HAF:=ah (HH.out w3 HB3.out);have Q6:=ah (HS.out.trans (lK.of_below R tg _ HB3.out));clear hnn;go_wp2_with fail
     simp only[Exit.jump];go_end0
     exact⟨⟨rfl,_,by rw[Xd.out];exact HAF.out,Q6.out⟩,by rw[Xd.out];exact HG.out⟩
 .rintro a' wp ⟨u1,u2,u3,u4,u5,u6,u7,u8,u9,u10,u11,u12,u13,u14,u15,u16,u17,u18,u19,u20,u21,u22,u23,u24,u25,u26,u27,u28,u29,u30,u31,u32,u33,u34,u35,u36,u37,u38,u39,u40,u41,u42,u43,u44,u45,u46,u47,u48,u49,Vp,Dp,rfl,hAp,hSp,hg,hEp⟩;obtain⟨Ad,Aw,Al,Ak,nd,n,nl,nk,cd,cw,cl,ck,MZ,hcs,f1,f2,f3,f4⟩:=hAp.forms;have HH:Hid (∀W,Below wp.heap.size wp W->bO W B R tg (dR r) ⟨.slice Ad nd cd,.slice Aw n cw,.slice Al nl cl,.slice Ak nk ck⟩ Dp):=fun W hW=>by rw[<-MZ];exact hAp.eZ hW
  have HX:Hid (∀W,Below wp.heap.size wp W->aC W Aw n Dp.wait):=fun W hW=>by
   have h1:=(hAp.eZ hW).aO.dh f2;rw[MZ] at h1;exact aC.aH h1 (by have:=hg.lens hN;omega)
  have HG:=ah hg;have HN0:Hid (Dp.wait.length=n):=f2;have Nz:=ah (hg.lens hN);have hn9:n<=1000:=by have:=hg.lens hN;omega
  have hcw:n<=cw:=hcs.2.1;have HE:=ah hEp;have HMU:=ah hAp.mu;have HS:Hid (lK R tg w V wp ⟨.slice Ad nd cd,.slice Aw n cw,.slice Al nl cl,.slice Ak nk ck⟩):=by show lK _ _ _ _ _ _;rw[<-MZ];exact hSp
  clear h hg MZ hcs f1 f2 f3 f4 hAp hSp hEp;have hhd:=qN B R tg _ _ Dp wp (HH.out wp aG) HG.out.val (by have:=Nz.out;omega)
  have zS:=ah hhd;clear hhd;go_wp2_with fail
  refine zS.out.mono ?_;rintro e w2 ⟨HA,hac,rfl,Xa,hfr,hb2⟩;obtain⟨q,hq⟩: ∃q,(cZ Dp.wait).length=q:=⟨_,rfl⟩;have HQ:=ah hq;rw[hq] at Xa hfr ⊢;have VE:=hfr.1.2.1;have HST:Hid (Below wp.heap.size wp w2/\aM w2 HA q (cZ Dp.wait)):=⟨hb2,hfr.1⟩;clear zS hb2 hfr hq;go_wp2_with fail
  go_loopw [9] (fun i wr=> ∃k:Nat,k<=q/\i=.int .i64 k/\Below wp.heap.size wp wr/\aM wr HA q (cZ Dp.wait)/\ ∀j x,j<k->(cZ Dp.wait)[j]? =some x->dN Dp x.toNat=false) (fun i _=>q- (intOf i).toNat)
  case atStart=>exact⟨0,Nat.zero_le _,rfl,HST.out.1,HST.out.2,fun j x hj=>by omega⟩
  case round=>
   clear HST;obtain⟨wo,rfl⟩: ∃z:World,z=wr:=⟨_,rfl⟩;obtain⟨k,hk,rfl,nE,hH,hno⟩:=hrel;have hbs:=nE.size;by_cases zB:k<q
   .obtain⟨bh,BN,x0,Xb,hbl,hx,ch⟩:=hH.at_ zB;subst Xb;obtain⟨X,o,ho,hfx,rfl⟩:=iX.1 (List.mem_of_getElem? hx);have UH:X<n:=by have:=(List.getElem?_eq_some_iff.1 ho).1;have:=HN0.out;omega
    obtain⟨b,off,o',hA',UJ,ho',c0,c1,c2⟩:=(HX.out wo nE).at_ UH;rw[ho] at ho';injection ho' with ho';subst ho';subst hA';have Bj:=HG.out.val o (List.mem_of_getElem? ho);have hA:=HH.out wo nE;have r1:wo.cell? ⟨R,1,none⟩=some (.slice (some ⟨b,off,none⟩) n cw):=hA.cells.2.1;have bF:=(HH.out wp aG).far hbs;obtain⟨W,hW⟩: ∃W:World,W=wo.alloc (.cells #[.int .i64 o.tx,.int .i64 o.kind,.int .i64 o.item] 89):=⟨_,rfl⟩;have hbW:Below wo.heap.size wo W:=by rw[hW];exact aG.alloc aj _
    have hbx:au W wo.heap.size 89 [.int .i64 o.tx,.int .i64 o.kind,.int .i64 o.item] :=by rw[hW];exact heap_alloc_new wo _
    have hbw:=nE.trans (hbW.mono hbs);have hiw:=iW B R tg _ _ Dp o W (HH.out W hbw) Bj HG.out.comp;have hfe:dN Dp X=(aW Dp.av o).isEmpty:=by rw[free_eq ho,hfx,Bool.true_and]
    have hnx:dN Dp X=true->bB r Dp=some (bK ⟨Dp.done,Dp.wait.take X++Dp.wait.drop (X+1),Dp.av,Dp.dead⟩ o):=fun hd=>kK r ho hd (fun j hj=>vU hx hj (hf:=fun p y hp hy=>hno p y hp hy) (fun hfj=>by unfold dN;cases Dp.wait[j]? with|none=>rfl|some p=>simp only;rw[hfj];rfl))
    have HW:=ah hW;have iD:=ah hbx;have nK:=ah hiw;have kJ:=ah hno;have nD:=ah hbw;have VF:=ah (hH.below hbW aj);have EA:=ah hnx;have Zp:=ah hx;have Dv:=ah Bj;have Zr:=ah hfe;obtain⟨L,hL⟩: ∃z,aW Dp.av o=z:=⟨_,rfl⟩;rw[hL] at nK Zr;obtain⟨tx,kd,it⟩:=o;unfold ay.val at nK;simp only at c0 c1 c2 HW iD nK;have hki:(k:Int)< (q:Int):=by omega
    have hk0:(0:Int)<=(k:Int):=by omega
    have hXi:(X:Int)< (n:Int):=by omega
    have hX0:(0:Int)<=(X:Int):=by omega
    clear nE hH hA hx ho hfx Bj hW hbx hbW hiw hno hnx hL hbw hfe;go_wp2_with fail
    rw[<-HW.out];refine nK.out.mono ?_;rintro e w4 ⟨WA,wc,rfl,hwc,hwf,hb4⟩;obtain⟨z,hz⟩: ∃z,L.length=z:=⟨_,rfl⟩;have HZ:=ah hz;rw[hz] at hwc ⊢;have xM:=nD.out.trans (hb4.mono nD.out.size);clear hwf hz c0 c1 c2 r1 ch;by_cases hz0:z=0
    .subst hz0;have gZ:=ah (EA.out (by rw[Zr.out,List.isEmpty_iff];exact List.length_eq_zero_iff.1 HZ.out))
     have UM:=HH.out w4 xM;have r1:w4.cell? ⟨R,1,none⟩=some (.slice (some ⟨b,off,none⟩) n cw):=UM.cells.2.1;have hde:=EB B (some ⟨b,off,none⟩) n cw X Dp.wait w4 (UM.aO.dh HN0.out) (by omega) UH
     have Q0:=ah hde;have HA4:=ah UM;have tT:=ah hb4;have Zt:=ah xM;have hXw:IntKind.i64.wrap ((X:Int)+1)=(X:Int)+1:=IntWalk.i64_in _ (by omega)
     clear hde UM hb4 xM;go_wp2_with fail
     refine Q0.out.mono ?_;rintro e w5 ⟨rfl,EY,hg5⟩;obtain⟨⟨e0,e1⟩,qZ,hS5⟩:=HA4.out.jC hg5 EY (.inl rfl);have tL:=((lK.of_below R tg _ tT.out).trans hS5).row iD.out bF.1 bF.2.1 bF.2.2;have hfc:=HG.out.next (HH.out wp aG).ok gZ.out;have hms:=HG.out.less gZ.out;have hse:=HG.out.settle gZ.out;obtain⟨m2,hm2⟩: ∃z,(Dp.wait.take X++Dp.wait.drop (X+1)).length=z:=⟨_,rfl⟩;rw[hm2] at qZ hS5 tL ⊢;simp only at e0;obtain⟨w6,RZ⟩: ∃w6:World,w6=w5.setCell ⟨R,1,none⟩ (.slice (some ⟨b,off,none⟩) m2 cw):=⟨_,rfl⟩;rw[<-RZ] at qZ hS5 tL;have hdo:=Ae B R tg _ _ _ ⟨tx,kd,it⟩ w6 qZ Dv.out (by have:=Nz.out;simp only;omega) (by have:=Nz.out;simp only;omega)
     unfold ay.val at hdo;simp only at hdo;obtain⟨q0,q1,q2⟩:w6.cell? ⟨wo.heap.size,0,none⟩=some (.int .i64 tx)/\w6.cell? ⟨wo.heap.size,1,none⟩=some (.int .i64 kd)/\w6.cell? ⟨wo.heap.size,2,none⟩=some (.int .i64 it):=⟨au.cell tL rfl,au.cell tL rfl,au.cell tL rfl⟩;obtain⟨D2,hD2⟩: ∃z,bK ⟨Dp.done,Dp.wait.take X++Dp.wait.drop (X+1),Dp.av,Dp.dead⟩ ⟨tx,kd,it⟩=z:=⟨_,rfl⟩;rw[hD2] at hfc hms hse hdo;have Uo:=ah hdo;have M7:Hid (lK R tg w V w6 _):=(HS.out.trans (lK.of_below R tg _ Zt.out)).trans hS5;have MH:=ah hfc;have XI:=ah hms;have RY:=ah hse;have HW6:=ah RZ;rw[RZ] at q0 q1 q2;clear hdo qZ hS5 tL hfc hms hse hD2 RZ EY hg5 hm2 gZ;go_wp2_with fail
     rw[<-HW6.out];refine Uo.out.mono ?_;rintro e w7 ⟨rfl,V7,nH,lS⟩;have Xe:=ah nH;have M8:=ah (M7.out.trans lS);clear nH lS q0 q1 q2 e0 e1;go_wp2_with fail
     go_step3
     refine⟨rfl,⟨_,_,_,_,_,_,_,_,_,_,_,_,_,_,_,_,_,_,_,_,_,_,_,_,_,_,_,_,_,_,_,_,_,_,_,_,_,_,_,_,_,_,_,_,_,_,_,_,_,V7,_,rfl,Xe.out,M8.out,MH.out,RY.out.symm.trans HE.out⟩,?_⟩;show Zi R tg w7<Zi R tg wp
     rw[Xe.out.mu,HMU.out];exact XI.out
    .have HNF:Hid (dN Dp X=false):=by
      show _=_
      rw[Zr.out];cases hq:L with
      |nil=>have:=HZ.out;rw[hq] at this;simp at this;omega
      |cons a r=>rfl
     have hzb:((z:Int)==0)=false:=by simp;omega
     have tT:=ah xM;have Zq:=ah (VF.out.below hb4 aj);clear hb4 xM;go_wp2_with fail
     go_roundw
     case rel=>exact⟨k+1,by omega,by go_num,tT.out,Zq.out,fun j y hj hy=>by
      by_cases e:j=k
      .subst e;rw[Zp.out] at hy;injection hy with hy;subst hy;rw[Int.toNat_natCast];exact HNF.out
      .exact kJ.out j y (by omega) hy⟩
     case measure=>simp[intOf];omega
   .obtain rfl:k=q:=by omega
    have hfa: ∀j,j<Dp.wait.length->dN Dp j=false:=fun j hj=>vV HQ.out (hf:=fun p y hp hy=>hno p y hp hy) hj (fun hfj=>by unfold dN;cases Dp.wait[j]? with|none=>rfl|some p=>simp only;rw[hfj];rfl)
    have Xy:=Ez r B R tg _ Dp wo (HH.out wo nE) HG.out.val HG.out.comp (by have:=Nz.out;omega) hfa
    have HVC:=ah Xy;have Nw:=ah nE;clear nE hH hno Xy hfa;go_wp2_with fail
    refine HVC.out.mono ?_;rintro e w3 ⟨v,rfl,hb3,GU⟩;have HB3:=ah (Nw.out.trans (hb3.mono Nw.out.size));have HVI:=ah GU;clear hb3 GU HVC;by_cases hv0:0<=v
    .have hvd:decide (0<=v)=true:=by simpa using hv0
     obtain⟨T,rfl⟩:=Int.eq_ofNat_of_zero_le hv0;have GU:(T:Int)<=3/\bB r Dp=some (bP Dp (T:Int)):=by
      rcases HVI.out with⟨h1,_⟩|⟨_,h2,h3⟩
      .omega
      .exact⟨h2,h3⟩
     have Bc:T<=3:=by omega
     have MH:=ah (HG.out.next (HH.out wp aG).ok GU.2);have XI:=ah (HG.out.less GU.2);have RY:=ah (HG.out.settle GU.2);have hab:=vQ B R tg _ _ Dp T w3 (HH.out w3 HB3.out) Bc (by have:=Nz.out;omega) (by have:=Nz.out;omega)
     have Vi:=ah hab;clear hab GU;go_wp2_with fail
     refine Vi.out.mono ?_;rintro e w7 ⟨rfl,V7,nH,lS⟩;have Xe:=ah nH;have M8:=ah ((HS.out.trans (lK.of_below R tg _ HB3.out)).trans lS);clear nH lS;go_wp2_with fail
     go_step3
     refine⟨rfl,⟨_,_,_,_,_,_,_,_,_,_,_,_,_,_,_,_,_,_,_,_,_,_,_,_,_,_,_,_,_,_,_,_,_,_,_,_,_,_,_,_,_,_,_,_,_,_,_,_,_,V7,_,rfl,Xe.out,M8.out,MH.out,RY.out.symm.trans HE.out⟩,?_⟩;show Zi R tg w7<Zi R tg wp
     rw[Xe.out.mu,HMU.out];exact XI.out
    .have hvd:decide (0<=v)=false:=by simpa using hv0
     have hnn:bB r Dp=none:=by
      rcases HVI.out with⟨_,h⟩|⟨h,_⟩
      .exact h
      .omega
     have Xd:=ah (iI hnn);have HAF:=ah (HH.out w3 HB3.out);have Q6:=ah (HS.out.trans (lK.of_below R tg _ HB3.out));clear hnn;go_wp2_with fail
     simp only[Exit.jump];go_end0
     exact⟨⟨rfl,_,by rw[<-HE.out,Xd.out];exact HAF.out,Q6.out⟩,by rw[<-HE.out,Xd.out];exact HG.out⟩
section
variable {w u u':World} {tb ob tg Bx:Nat} {o:ay} {L:List ay}
end
theorem FC (A:Option Addr)(n c:Nat)(w:World)(hn:n<=1099511627776)(hnc:n<=c):
 Calls Tryz.prog 128 #[.slice A n c] w fun e w'=>e=.returned (.slice A n n)/\w=w':=by
 go_enter Tryz.func128,Tryz.ntmps128;go_wp2_with fail
 go_ret;exact⟨rfl,rfl⟩
theorem FD (A:Option Addr)(n c:Nat)(s:List ay)(w:World)(hx:aC w A n s)(hnc:n<=c):
 Calls Tryz.prog 164 #[.slice A n c] w fun e w'=>e=.returned (.bool (aF s&&decide (s.length<=12)))/\Below w.heap.size w w':=by
 have hl:=hx.1;have HX:=ah hx;obtain⟨rb,hrb⟩: ∃z,(aF s&&decide (s.length<=12))=z:=⟨_,rfl⟩;have hr:Hid (rb=(aF s&&decide (s.length<=12))):=hrb.symm;rw[hrb];clear hrb;clear hx;go_enter Tryz.func164,Tryz.ntmps164;go_wp2_with fail
 refine(dx A n c s w HX.out hnc).mono ?_;rintro e w1 ⟨rfl,hb1⟩;obtain⟨bv,hv⟩: ∃b,aF s=b:=⟨_,rfl⟩;rw[hv] at hr ⊢;clear hv;cases bv
 .go_wp2_with fail
  go_ret;exact⟨aI (by rw[hr.out];rfl),hb1⟩
 .go_wp2_with fail
  go_ret;exact⟨aI (by rw[hr.out,hl,Bool.true_and];exact decide_eq_decide.2 (by omega)),hb1⟩
def jH (b:ByteArray):Option dQ:=if b=dQ.wait.str then some .wait else if b=dQ.die.str then some .die else if b=dQ.bA.str then some .bA else none
def Zu:Option dQ->Value
 |some r=>dR r
 |none=>.nilIface
theorem gN {b c:ByteArray}(h:b≠c):(b.toList==c.data.toList)=false:=by
 rw[beq_eq_false_iff_ne];intro e;exact h (ByteArray.ext (Array.ext' (by rw[<-ByteArray.toList_eq,e])))
theorem Jc (b:ByteArray)(w:World):
 Calls Tryz.prog 163 #[.string b] w fun e w'=>e=.returned (.tuple #[Zu (jH b),.bool (jH b).isSome])/\w=w':=by
 have hu:jH b=if b=dQ.wait.str then some .wait else if b=dQ.die.str then some .die else if b=dQ.bA.str then some .bA else none:=rfl
 by_cases h1:b=dQ.wait.str
 .have hr:jH b=some .wait:=by rw[hu,if_pos h1]
  rw[hr];subst h1;unfold dQ.str;simp only;clear hu hr;go_enter Tryz.func163,Tryz.ntmps163;go_wp2_with fail
  go_ret2
  exact⟨rfl,rfl⟩
 .have b1:(b.toList== [119,97,105,116])=false:=gN h1;by_cases h2:b=dQ.die.str
  .have hr:jH b=some .die:=by rw[hu,if_neg h1,if_pos h2]
   rw[hr];subst h2;unfold dQ.str;simp only;clear hu hr h1 b1;go_enter Tryz.func163,Tryz.ntmps163;go_wp2_with fail
   go_ret2
   exact⟨rfl,rfl⟩
  .have b2:(b.toList== [100,105,101])=false:=gN h2;by_cases h3:b=dQ.bA.str
   .have hr:jH b=some .bA:=by rw[hu,if_neg h1,if_neg h2,if_pos h3]
    rw[hr];subst h3;unfold dQ.str;simp only;clear hu hr h1 h2 b1 b2;go_enter Tryz.func163,Tryz.ntmps163;go_wp2_with fail
    go_ret2
    exact⟨rfl,rfl⟩
   .have b3:(b.toList== [119,111,117,110,100])=false:=gN h3;have hr:jH b=none:=by rw[hu,if_neg h1,if_neg h2,if_neg h3]
    rw[hr];clear hu hr h1 h2 h3;go_enter Tryz.func163,Tryz.ntmps163;go_wp2_with fail
    go_ret2
    exact⟨rfl,rfl⟩
def uT (b:ByteArray)(s:List ay):Bool:=(jH b).isSome&& (aF s&&decide (s.length<=12))
def CJ (b:ByteArray)(s:List ay)(w:World)(e:Ending)(w':World):Prop:=
 Below w.heap.size w w'/\((uT b s=false/\e=.returned (.tuple #[.pointer none,.bool false]))\/
  ∃ (r:dQ) (R tg:Nat) (V:DV),uT b s=true/\jH b=some r/\e=.returned (.tuple #[.pointer (some ⟨R,0,none⟩),.bool true])/\bO w' w.heap.size R tg (dR r) V (dO r s)/\Fair 72 (dO r s)/\bB r (dO r s)=none)
theorem Q7 (r:dQ):bB r bY.zero=none:=by
 have h0: ∀p:Nat->Bool,∀j,j<bY.zero.wait.length->p j=false:=fun p j hj=>by cases hj
 cases r
 .exact nP (h0 _) (by decide)
 .exact pR (h0 _) (h0 _)
 .exact mG (h0 _) (h0 _)
theorem Q8:Fair 0 bY.zero:=⟨fun o h=>(by cases h),fun t u x _ h1=>(by have:aL [] t x= -1:=rfl;simp only[bY.zero] at h1;omega),⟨by decide,by decide,by decide⟩⟩
theorem UN {w w1 wt:World}{tg:Nat}{m:Value}(hb1:Below w.heap.size w w1)(hT:iK wt tg [])(htg:w1.heap.size<=tg)(hbt:Below w1.heap.size w1 wt):
 bO (wt.alloc (.cells #[.slice none 0 0,.slice none 0 0,.slice none 0 0,.slice none 0 0,.pointer (some ⟨tg,0,none⟩),m] 152)) w.heap.size wt.heap.size tg m DV.nil bY.zero/\Below w.heap.size w (wt.alloc (.cells #[.slice none 0 0,.slice none 0 0,.slice none 0 0,.slice none 0 0,.pointer (some ⟨tg,0,none⟩),m] 152)):=by
 have s1:=hb1.size;have s2:=hbt.size;have hb:=hb1.trans (hbt.mono s1);have hba:Below wt.heap.size wt (wt.alloc (.cells #[.slice none 0 0,.slice none 0 0,.slice none 0 0,.slice none 0 0,.pointer (some ⟨tg,0,none⟩),m] 152)):=aG.alloc aj _;exact⟨⟨heap_alloc_new wt _,aP.zero _ (by simp;omega),hT.below hba,fun s hs=>(by cases hs),by omega,by omega⟩,hb.alloc hb.size _⟩
theorem Q9 (b:ByteArray)(A:Option Addr)(n c:Nat)(s:List ay)(w:World)(hx:aC w A n s)(hnc:n<=c):
 Calls Tryz.prog 126 #[.string b,.slice A n c] w (CJ b s w):=by
 have hn:=hx.2.1;have hl:=hx.1;have HX:=ah hx;have HL:=ah hl;have hm:=Jc b w;have hra:=FD A n c s w hx hnc;obtain⟨bv,hbv⟩: ∃z,(aF s&&decide (s.length<=12))=z:=⟨_,rfl⟩;have hok:uT b s=((jH b).isSome&&bv):=by unfold uT;rw[hbv]
 rw[hbv] at hra;have HBV:=ah hbv;have Zv:=ah hra;clear hx hl hra hbv;cases hr:jH b with
 |none=>
  rw[hr] at hm hok;have HO:Hid (∀w',Below w.heap.size w w'->CJ b s w (.returned (.tuple #[.pointer none,.bool false])) w'):=fun w' hb=>⟨hb,.inl ⟨hok,rfl⟩⟩
  have HM:=ah hm;clear hm hok hr;unfold Zu at HM;simp only[Option.isSome] at HM;go_enter Tryz.func126,Tryz.ntmps126;go_wp2_with (go_at_call 163;go_loud (refine HM.out.mono ?_;rintro e w0 ⟨rfl,rfl⟩))
  go_ret2
  exact HO.out _ aG
 |some r=>
  rw[hr] at hm hok;unfold Zu at hm;simp only[Option.isSome] at hm;obtain⟨mt,hM⟩: ∃mt,dR r=.iface mt (.agg #[]):=by cases r<;>exact⟨_,rfl⟩
  rw[hM] at hm;have HMV:=ah hM;have HM:=ah hm;have HR:=ah hr;clear hm hr hM;cases bv
  .have HO:Hid (∀w',Below w.heap.size w w'->CJ b s w (.returned (.tuple #[.pointer none,.bool false])) w'):=fun w' hb=>⟨hb,.inl ⟨by rw[hok];simp,rfl⟩⟩
   clear hok;go_enter Tryz.func126,Tryz.ntmps126;go_wp2_with (first
    |(go_at_call 163;go_loud (refine HM.out.mono ?_;rintro e w0 ⟨rfl,rfl⟩))
    |(go_at_call 164;go_loud (refine Zv.out.mono ?_;rintro e w1 ⟨rfl,hb1⟩)))
   go_ret2
   exact HO.out _ hb1
  .have aa4:aF s=true/\s.length<=12:=by simpa using HBV.out
   have HVS:Hid (∀o∈s,aJ o=true):=((bn s).1 aa4.1).2.1;have acN:n<=12:=by have:=HL.out;omega
   have xw:Hid (uT b s=true):=by show _=_;rw[hok];rfl
   have HTO:Hid (∀W:World,Calls Tryz.prog 165 #[.slice none 0 0] W (IV W [])):=fun W=>KH none 0 0 [] W aC.nil (fun s hs=>by cases hs)
   clear hok aa4;go_enter Tryz.func126,Tryz.ntmps126;go_wp2_with (first
    |(go_at_call 163;go_loud (refine HM.out.mono ?_;rintro e w0 ⟨rfl,rfl⟩))
    |(go_at_call 164;go_loud (refine Zv.out.mono ?_;rintro e w1 ⟨rfl,hb1⟩;have HB1:=ah hb1;clear hb1))
    |(go_at_call 165;go_loud (refine(HTO.out _).mono ?_;rintro e wt ⟨tg,rfl,htg,hT,hbt⟩;have hrz:=UN (m:=.iface mt (.agg #[])) HB1.out hT htg hbt;have HRZ:=ah hrz;clear hT hbt hrz htg)))
   have HST:Hid (∃V,bO (wt.alloc (.cells #[.slice none 0 0,.slice none 0 0,.slice none 0 0,.slice none 0 0,.pointer (some ⟨tg,0,none⟩),.iface mt (.agg #[])] 152)) w.heap.size wt.heap.size tg (.iface mt (.agg #[])) V (dO r (s.take 0))):=⟨_,HRZ.out.1⟩;have ZP:=ah HRZ.out.2;clear HRZ HTO Zv HM HB1;go_loopw [29] (fun i wr=> ∃ (k:Nat) (V:DV),k<=n/\i=.int .i64 k/\bO wr w.heap.size wt.heap.size tg (.iface mt (.agg #[])) V (dO r (s.take k))/\Fair (6*k) (dO r (s.take k))/\bB r (dO r (s.take k))=none/\Below w.heap.size w wr) (fun i _=>n- (intOf i).toNat)
   case atStart=>
    obtain⟨V,hV⟩:=HST.out;exact⟨0,V,by omega,rfl,hV,Q8,Q7 r,ZP.out⟩
   case round=>
    clear HST ZP;obtain⟨wo,rfl⟩: ∃z:World,z=wr:=⟨_,rfl⟩;obtain⟨k,V,hk,rfl,hA,hF,hN,hb⟩:=hrel;have hs:=hb.size;by_cases hlt:k<n
    .obtain⟨bs,off,o,hAe,hbl,ho,c0,c1,c2⟩:=(HX.out.below hb aj).at_ hlt;subst hAe;have Bj:=HVS.out o (List.mem_of_getElem? ho);have hsc:=vG (r:=r) ho;rw[KQ hN] at hsc;obtain⟨D,hD⟩: ∃D,dO r (s.take k)=D:=⟨_,rfl⟩;rw[hD] at hA hF hsc;have hfa:=hF.ask (r:=r) hA.ok Bj;have hln:=hF.lens (by omega)
     obtain⟨W,hW⟩: ∃W:World,W=wo.alloc (.cells #[.int .i64 o.tx,.int .i64 o.kind,.int .i64 o.item] 89):=⟨_,rfl⟩;have hbW:Below wo.heap.size wo W:=by rw[hW];exact aG.alloc aj _
     have QH:=hA.eZ hbW;rw[<-HMV.out] at QH;have hak:=WI r w.heap.size wt.heap.size tg V D o W QH Bj hF.comp (by omega) (by omega)
     rw[HMV.out] at hak QH;have ZX:=ah hak;have HAW:=ah QH;have HFA:=ah hfa;have RV:=ah hsc;have HW:=ah hW;have nD:=ah (hb.trans (hbW.mono hs));have hki:(k:Int)< (n:Int):=by omega
     have hk0:(0:Int)<=(k:Int):=by omega
     clear hA hF hN hb ho Bj hsc hD hfa hln hW hbW QH hak;obtain⟨tx,kd,it⟩:=o;unfold ay.val at ZX;simp only at c0 c1 c2 ZX HW;go_wp2_with fail
     rw[<-HW.out];refine ZX.out.mono ?_;rintro e w5 ⟨rfl,V5,qZ,hS5⟩;have Qe:Hid (Below w.heap.size w w5):=nD.out.trans (HAW.out.below hS5);rw[<-HMV.out] at qZ;have hse:=Ny r (6*k+6) (by omega) w.heap.size wt.heap.size tg V5 _ w5 qZ HFA.out
     have hnx:=KR (r:=r) HFA.out;rw[HMV.out] at hse qZ;have RY:=ah hse;have gZ:=ah hnx;have HA5:=ah qZ;clear qZ hS5 hse hnx;go_wp2_with fail
     refine RY.out.mono ?_;rintro e w6 ⟨⟨rfl,V6,hA6,LK⟩,hF6⟩;have Fp:Hid (Below w.heap.size w w6):=Qe.out.trans (HA5.out.below LK);have HF6:=ah (And.intro hA6 hF6);clear hA6 LK hF6;go_wp2_with fail
     go_roundw
     case rel=>exact⟨k+1,V6,by omega,by go_num,by rw[RV.out];exact HF6.out.1,by rw[RV.out];exact HF6.out.2,by rw[RV.out];exact gZ.out,Fp.out⟩
     case measure=>simp[intOf];omega
    .obtain rfl:k=n:=by omega
     have hte:s.take k=s:=List.take_of_length_le (by have:=HL.out;omega)
     rw[hte] at hA hF hN;have HF:Hid (CJ b s w (.returned (.tuple #[.pointer (some ⟨wt.heap.size,0,none⟩),.bool true])) wo):=⟨hb,.inr ⟨r,wt.heap.size,tg,V,xw.out,HR.out,rfl,by rw[HMV.out];exact hA,⟨hF.val,hF.comp,hF.bnd.mono (by omega)⟩,hN⟩⟩
     clear hA hF hN hb;go_wp2_with fail
     go_ret2
     exact HF.out
end Go.Proofs.YtddkjbibjjehjaaGreatDoor
