/-
  Texts that the proof rests on, joined: part 39.
-/
import Derived.Test.YtddkjbibjjehjaaGreatDoorSXr21
set_option maxHeartbeats 16000000
set_option maxRecDepth 100000
namespace Go.Proofs.YtddkjbibjjehjaaGreatDoor
open Go.RowKit Go.BigFrame
set_option linter.unusedVariables false
theorem K6 (N:Nat)(hN:N<=1000): ∀ (n B:Nat) (V:DV) (D:bY) (w:World),aP w B V D->nN D N->qW D<n->
 Calls Tryz.prog 61 #[.string dQ.wait.str,V.val] w (yJ w B V (b_ .wait D)):=by
 have hX: ∀ {D:bY},dQ.wait=.bA->bZ D.wait:=fun h=>by cases h
 intro n;induction n with
 |zero=>intro B V D w _ _ h;omega
 |succ n ih=>
  intro B V D w hd hbn hmn;have hb1:=hbn.done;have hb2:=hbn.av;have hb3:=hbn.dead;have hb4:=hbn.wait;obtain⟨W,hW⟩: ∃W:World,W=(w.alloc (.cells V.list.toArray 67)).alloc (.cells DV.nil.list.toArray 67):=⟨_,rfl⟩;have Gm:=sG hd hW;obtain⟨Ad,Aw,Al,Ak,nd,nw,nl,nk,cd,cw,cl,ck,rfl,hcs,h1,h2,h3,h4⟩:=hd.forms;have hbd:nd<=1000/\nl<=3000/\nw<=1000/\nk<=1000:=by omega
  have H1:=ah h1;have H2:=ah h2;have H3:=ah h3;have H4:=ah h4;have tQ:=ah Gm;have ML:=ah hbn;unfold DV.list DV.nil at hW;simp only at hW;change W=(w.alloc (.cells #[.slice Ad nd cd,.slice Aw nw cw,.slice Al nl cl,.slice Ak nk ck] _)).alloc (.cells #[.slice none 0 0,.slice none 0 0,.slice none 0 0,.slice none 0 0] _) at hW;have HW3:=ah hW;clear Gm hd h1 h2 h3 h4 hW hbn hb1 hb2 hb3 hb4;unfold DV.val dQ.str;simp only;go_enter Tryz.func61,Tryz.ntmps61;go_wp2_with fail
  rw[<-HW3.out];clear HW3;go_loopw [5] (fun i wr=> ∃k:Nat,k<=nw/\i=.int .i64 k/\Pk w ⟨.slice Ad nd cd,.slice Aw nw cw,.slice Al nl cl,.slice Ak nk ck⟩ B w.heap.size (w.heap.size+1) wr ⟨.slice Ad nd cd,.slice Aw nw cw,.slice Al nl cl,.slice Ak nk ck⟩ D/\ ∀j,j<k->dN D j=false) (fun i _=>nw- (intOf i).toNat)
  case atStart=>exact⟨0,Nat.zero_le _,rfl,tQ.out,by omega⟩
  case round=>
   clear tQ;obtain⟨k,hk,rfl,hP,hno⟩:=hrel;have kJ:=ah hno;have HP:=ah hP;clear hno;obtain⟨b0,b1,b2,b3⟩:=hP.box.cells;simp only at b0 b1 b2 b3;have hgr:=hP.vY;by_cases hlt:k<nw
   .have hro:aC wr Aw nw D.wait:=aC.aH (hP.aO.dh H2.out) (by omega)
    obtain⟨bw,ow,o,hA,hbl,ho,c0,c1,c2⟩:=hro.at_ hlt;subst hA;have HO:=ah ho;obtain⟨bf,hbf⟩: ∃b,dV D.wait k=b:=⟨_,rfl⟩;have kW:=ah hbf;have qI:=OB.made hP.aO o;obtain⟨tx,kd,it⟩:=o;unfold ay.cells at qI;simp only at qI c0 c1 c2;obtain⟨W2,hW2⟩: ∃W2:World,W2=wr.alloc (.cells #[.int .i64 tx,.int .i64 kd,.int .i64 it] 89):=⟨_,rfl⟩;have hP2:=hP.alloc (.cells #[.int .i64 tx,.int .i64 kd,.int .i64 it] 89);change OB (wr.alloc (.cells #[.int .i64 tx,.int .i64 kd,.int .i64 it] 89)) _ _ _ at qI;rw[<-hW2] at qI hP2;have uL:aC W2 (some ⟨bw,ow,none⟩) nw D.wait:=aC.aH (hP2.aO.dh H2.out) (by omega)
    have jF:=ah (dn (some ⟨bw,ow,none⟩) nw cw D.wait k W2 uL hlt);have iA:=ah hP2;have qJ:=ah qI;have HW2:=ah hW2;obtain⟨be,hbe⟩: ∃b,aK ⟨tx,kd,it⟩=b:=⟨_,rfl⟩;have nW:=ah hbe;clear hP hro ho hbf qI hP2 uL hW2 hbe;cases bf
    .go_wp2_with (go_at_call 94;go_loud (rw[<-HW2.out];refine jF.out.mono ?_;rintro e w3 ⟨rfl,hb3⟩;rw[kW.out];have iB:=ah (iA.out.below hb3);have jg:=ah (qJ.out.below hb3);obtain⟨wK,wM,wN,wO⟩:=iB.out.box.cells;obtain⟨wP,wQ,wR⟩:=jg.out.box.cells;simp only at wK wM wN wO wP wQ wR;clear iA qJ jF HW2 hb3 b0 b1 b2 b3 c0 c1 c2))
     go_roundw
     case rel=>exact⟨k+1,by omega,by go_num,iB.out,mH kJ.out (by rw[free_eq HO.out,kW.out];rfl)⟩
     case measure=>simp[intOf];omega
    .cases be
     .obtain⟨XS,tK⟩: ∃XS,eP D.av tx it kd=XS:=⟨_,rfl⟩;obtain⟨m,hm⟩: ∃m,XS.length=m:=⟨_,rfl⟩;have xX:=ah tK;have HM:=ah hm;have BO:Hid (aW D.av ⟨tx,kd,it⟩=XS):=by show _=_;rw[r9 nW.out];exact tK
      clear tK hm;by_cases hm0:m=0
      .have GI:Hid ((aW D.av ⟨tx,kd,it⟩).isEmpty=true):=by show _=_;rw[BO.out,List.eq_nil_of_length_eq_zero (HM.out.trans hm0)];rfl
       subst hm0;go_wp2_with (first
        |(go_at_call 94;go_loud (rw[<-HW2.out];refine jF.out.mono ?_;rintro e w3 ⟨rfl,hb3⟩;rw[kW.out];have iB:=ah (iA.out.below hb3);have jg:=ah (qJ.out.below hb3);obtain⟨wK,wM,wN,wO⟩:=iB.out.box.cells;obtain⟨wP,wQ,wR⟩:=jg.out.box.cells;simp only at wK wM wN wO wP wQ wR;clear iA qJ jF HW2 hb3 b0 b1 b2 b3 c0 c1 c2))
        |(go_at_call 87;go_loud (refine(bJ ⟨tx,kd,it⟩ _).mono ?_;rintro e w4 ⟨rfl,hb4⟩;rw[nW.out];have eH:=ah (iB.out.below hb4);have jh:=ah (jg.out.below hb4);clear iB jg hb4 wK wM wN wO wP wQ wR;obtain⟨d0,d1,d2,d3⟩:=eH.out.box.cells;obtain⟨p0,p1,p2⟩:=jh.out.box.cells;simp only at d0 d1 d2 d3 p0 p1 p2))
        |(go_at_call 95;go_loud (refine(dU Al nl cl D.av tx it kd w4 (aC.aH (eH.out.aO.h_ (n:=nl) H3.out) (by omega))).mono ?_;rw[xX.out];rintro e w5 ⟨LA,lc,rfl,hlc,jV,hb5⟩;rw[HM.out] at hlc jV ⊢;have BH:=ah jV;have eY:=ah (eH.out.below hb5);have o_:=ah (jh.out.below hb5);clear jV hb5 eH jh d0 d1 d2 d3 p0 p1 p2;obtain⟨d0,d1,d2,d3⟩:=eY.out.box.cells;obtain⟨p0,p1,p2⟩:=o_.out.box.cells;simp only at d0 d1 d2 d3 p0 p1 p2)))
       have gZ:Hid (bB .wait D=some (bK ⟨D.done,D.wait.take k++D.wait.drop (k+1),D.av,D.dead⟩ ⟨tx,kd,it⟩)):=kK _ HO.out (by rw[free_eq HO.out,kW.out,GI.out];rfl) kJ.out
       have hcw:nw<=cw:=hcs.2.1;have oN:aC w5 (some ⟨bw,ow,none⟩) nw D.wait:=aC.aH (eY.out.aO.dh H2.out) (by omega)
       have T_:Hid (∀W,Below w5.heap.size w5 W->aC W (some ⟨bw,ow,none⟩) k (D.wait.take k)):=fun W hW=>(oN.take (by omega)).below hW aj
       have mJ:Hid (∀W,Below w5.heap.size w5 W->aC W (if cw=k+1 then some ⟨bw,ow,none⟩ else(some (⟨bw,ow,none⟩:Addr)).map (·.add ((k+1)*3))) (nw- (k+1)) (D.wait.drop (k+1))):=fun W hW=>(oN.drop (by omega) hcw).below hW aj
       have kV:Hid (Below w5.heap.size w5 (w5.alloc (.cells #[] 89)).drew):=((Below.refl _ w5).alloc aj _).drew;have Gx:Hid ((w5.alloc (.cells #[] 89)).drew.ownsRow w5.heap.size 89 3 (.slice (some ⟨w5.heap.size,0,none⟩) 0 0) 0 (aB [])):=World.ownsRow_made w5 #[] 0 aj (by decide) rfl
       obtain⟨a0,a1,a2,a3⟩:=eY.out.box.cells;simp only at a0 a1 a2 a3;have Ua:=(kV.out.cell (p:=⟨w.heap.size,1,none⟩) (show w.heap.size<w5.heap.size from eY.out.vY.1)).trans a1
       have hgx:w.heap.size<w5.heap.size:=eY.out.vY.1;have j1:IntKind.i64.wrap ((k:Int)+1)=(k:Int)+1:=IntWalk.i64_in _ (by omega)
       have j2:((k:Int)+1).toNat=k+1:=by omega
       have j3:(k:Int)<=(cw:Int):=by omega
       have j4:(k:Int)+1<=(nw:Int):=by omega
       have j5:(0:Int)<=(k:Int):=by omega
       have j6:(nw:Int)<=(cw:Int):=by omega
       have j7:(0:Int)<=(k:Int)+1:=by omega
       clear oN;try go_wp2_with fail
       go_region_law (first
        |(refine aS (.tmp 46) (.tmp 50) (c:=cw) (Gx.out) (kV.out.size) (T_.out _ kV.out) ?_ ?_ ?_ ?_ ?_ ?_; (· omega); (· rfl); (· rfl); (· rfl); (· rfl);intro v1 w1' hown1 hg1 jN;rw[List.nil_append,Nat.zero_add] at hown1;have hb1':=Below.own kV.out Gx.out aj hg1;have z1:=(hb1'.cell (p:=⟨w.heap.size,1,none⟩) hgx).trans a1)
        |(refine aS (.tmp 51) (.tmp 56) (c:=cw- (k+1)) (hown1) (hb1'.size) (mJ.out _ hb1') ?_ ?_ ?_ ?_ ?_ ?_; (· omega); (· rfl); (· rfl); (· rfl); (· rfl);intro v2 w2' hown2 hg2 yO;have hb2':=Below.own hb1' hown1 aj hg2;obtain⟨A7,c7,rfl,ZY⟩:=aD hown2;have z2:=(hb2'.cell (p:=⟨w.heap.size,1,none⟩) hgx).trans a1;have z3:=(eY.out.below hb2').box.soft 1))
       all_goals
        have hpa:=eY.out.below hb2';have hoa:=o_.out.below hb2';obtain⟨d0,d1,d2,d3⟩:=hpa.box.cells;obtain⟨p0,p1,p2⟩:=hoa.box.cells;simp only at d0 d1 d2 d3 p0 p1 p2;have Ed:=hpa.vJ hown2 eY.out.aO.base eY.out.size (fun b hb=>eY.out.aO.far hb)
        have tZ:=fT B _ _ ⟨tx,kd,it⟩ _ Ed.aO (show D.av.length<=9000 by have:=H3.out;omega) (show D.done.length<=9000 by have:=H1.out;omega)
        simp only[DV.val,ay.val] at tZ;have Ub:=ah tZ;have KA:=ah Ed;have hlx:=o_.out.lt;have Uc:w.heap.size≠wr.heap.size:=by omega
        clear hpa hoa Ed tZ hown1 hg1 jN hb1' hown2 hg2 yO hb2' z1 z2 z3 a0 a1 a2 a3 Ua;go_wp2_with (first
         |(go_at_call 96;go_loud (refine Ub.out.mono ?_;rintro e w8 ⟨V8,rfl,qp,nZ⟩;have sJ:=dS (hX) gZ.out;have lF:=nN.next (hX) ML.out gZ.out;have hih:=ih B V8 _ w8 qp lF (by omega);obtain⟨Vo,Vq,Vr,Vs,Vt,Vu,Vv,Vw,Vx,Vy,Vz,VA,rfl,_⟩:=qp.forms;simp only[DV.val] at hih;have xZ:=ah hih;have BP:=ah nZ;clear hih nZ qp sJ lF;unfold DV.val;simp only))
         |(go_at_call 61;go_loud (refine xZ.out.mono ?_;rintro e w9 ⟨V9,rfl,sK,yT⟩;obtain⟨mO,l7,qB,pW,kX,lG,qC,pz,mP,mQ,qD,pX,rfl,_⟩:=sK.forms;have iP:=BP.out.trans yT;obtain⟨_,jQ,_⟩:=KA.out.mid iP;obtain⟨y0,y1,y2,y3⟩:=jQ.cells;unfold DV.nil at y0 y1 y2 y3;simp only at y0 y1 y2 y3;have s0:=jQ.soft 0;have s1:=jQ.soft 1;have s2:=jQ.soft 2;have s3:=jQ.soft 3;have hF:=KA.out.out sK iP;simp only[bI] at hF;have HF:=ah hF;clear hF yT iP sK jQ;unfold DV.val;simp only)))
        all_goals
         try(have hck:cw=k+1:=(by assumption);subst hck)
         obtain⟨d0,d1,d2,d3⟩:=HF.out.2.2.cells;simp only at d0 d1 d2 d3;refine bodyPost_ret (v:=.agg #[.slice mO kX mP,.slice l7 lG mQ,.slice qB qC qD,.slice pW pz pX]) (by simp[results,Tryz.results61,go_sem,d0,d1,d2,d3]) rfl ?_
         refine⟨⟨.slice mO kX mP,.slice l7 lG mQ,.slice qB qC qD,.slice pW pz pX⟩,rfl,?_,HF.out.2.1⟩;have e2:b_ .wait D=_:=fu (hX) gZ.out;rw[e2];exact HF.out.1
      .have GI:Hid ((aW D.av ⟨tx,kd,it⟩).isEmpty=false):=by
        show _=_
        rw[BO.out];cases XS with
        |nil=>exact absurd HM.out.symm hm0
        |cons _ _=>rfl
       go_wp2_with (first
        |(go_at_call 94;go_loud (rw[<-HW2.out];refine jF.out.mono ?_;rintro e w3 ⟨rfl,hb3⟩;rw[kW.out];have iB:=ah (iA.out.below hb3);have jg:=ah (qJ.out.below hb3);obtain⟨wK,wM,wN,wO⟩:=iB.out.box.cells;obtain⟨wP,wQ,wR⟩:=jg.out.box.cells;simp only at wK wM wN wO wP wQ wR;clear iA qJ jF HW2 hb3 b0 b1 b2 b3 c0 c1 c2))
        |(go_at_call 87;go_loud (refine(bJ ⟨tx,kd,it⟩ _).mono ?_;rintro e w4 ⟨rfl,hb4⟩;rw[nW.out];have eH:=ah (iB.out.below hb4);have jh:=ah (jg.out.below hb4);clear iB jg hb4 wK wM wN wO wP wQ wR;obtain⟨d0,d1,d2,d3⟩:=eH.out.box.cells;obtain⟨p0,p1,p2⟩:=jh.out.box.cells;simp only at d0 d1 d2 d3 p0 p1 p2))
        |(go_at_call 95;go_loud (refine(dU Al nl cl D.av tx it kd w4 (aC.aH (eH.out.aO.h_ (n:=nl) H3.out) (by omega))).mono ?_;rw[xX.out];rintro e w5 ⟨LA,lc,rfl,hlc,jV,hb5⟩;rw[HM.out] at hlc jV ⊢;have BH:=ah jV;have eY:=ah (eH.out.below hb5);have o_:=ah (jh.out.below hb5);clear jV hb5 eH jh d0 d1 d2 d3 p0 p1 p2;obtain⟨d0,d1,d2,d3⟩:=eY.out.box.cells;obtain⟨p0,p1,p2⟩:=o_.out.box.cells;simp only at d0 d1 d2 d3 p0 p1 p2)))
       go_roundw
       case rel=>exact⟨k+1,by omega,by go_num,eY.out,mH kJ.out (by rw[free_eq HO.out,kW.out,GI.out];rfl)⟩
       case measure=>simp[intOf];omega
     .have GI:Hid ((aW D.av ⟨tx,kd,it⟩).isEmpty=true):=by show _=_;rw[vK nW.out];rfl
      go_wp2_with (first
       |(go_at_call 94;go_loud (rw[<-HW2.out];refine jF.out.mono ?_;rintro e w3 ⟨rfl,hb3⟩;rw[kW.out];have iB:=ah (iA.out.below hb3);have jg:=ah (qJ.out.below hb3);obtain⟨wK,wM,wN,wO⟩:=iB.out.box.cells;obtain⟨wP,wQ,wR⟩:=jg.out.box.cells;simp only at wK wM wN wO wP wQ wR;clear iA qJ jF HW2 hb3 b0 b1 b2 b3 c0 c1 c2))
       |(go_at_call 87;go_loud (refine(bJ ⟨tx,kd,it⟩ _).mono ?_;rintro e w4 ⟨rfl,hb4⟩;rw[nW.out];have eH:=ah (iB.out.below hb4);have jh:=ah (jg.out.below hb4);clear iB jg hb4 wK wM wN wO wP wQ wR;obtain⟨d0,d1,d2,d3⟩:=eH.out.box.cells;obtain⟨p0,p1,p2⟩:=jh.out.box.cells;simp only at d0 d1 d2 d3 p0 p1 p2)))
      have gZ:Hid (bB .wait D=some (bK ⟨D.done,D.wait.take k++D.wait.drop (k+1),D.av,D.dead⟩ ⟨tx,kd,it⟩)):=kK _ HO.out (by rw[free_eq HO.out,kW.out,GI.out];rfl) kJ.out
      have hcw:nw<=cw:=hcs.2.1;have oN:aC w4 (some ⟨bw,ow,none⟩) nw D.wait:=aC.aH (eH.out.aO.dh H2.out) (by omega)
      have T_:Hid (∀W,Below w4.heap.size w4 W->aC W (some ⟨bw,ow,none⟩) k (D.wait.take k)):=fun W hW=>(oN.take (by omega)).below hW aj
      have mJ:Hid (∀W,Below w4.heap.size w4 W->aC W (if cw=k+1 then some ⟨bw,ow,none⟩ else(some (⟨bw,ow,none⟩:Addr)).map (·.add ((k+1)*3))) (nw- (k+1)) (D.wait.drop (k+1))):=fun W hW=>(oN.drop (by omega) hcw).below hW aj
      have kV:Hid (Below w4.heap.size w4 (w4.alloc (.cells #[] 89)).drew):=((Below.refl _ w4).alloc aj _).drew;have Gx:Hid ((w4.alloc (.cells #[] 89)).drew.ownsRow w4.heap.size 89 3 (.slice (some ⟨w4.heap.size,0,none⟩) 0 0) 0 (aB [])):=World.ownsRow_made w4 #[] 0 aj (by decide) rfl
      obtain⟨a0,a1,a2,a3⟩:=eH.out.box.cells;simp only at a0 a1 a2 a3;have Ua:=(kV.out.cell (p:=⟨w.heap.size,1,none⟩) (show w.heap.size<w4.heap.size from eH.out.vY.1)).trans a1
      have hgx:w.heap.size<w4.heap.size:=eH.out.vY.1;have j1:IntKind.i64.wrap ((k:Int)+1)=(k:Int)+1:=IntWalk.i64_in _ (by omega)
      have j2:((k:Int)+1).toNat=k+1:=by omega
      have j3:(k:Int)<=(cw:Int):=by omega
      have j4:(k:Int)+1<=(nw:Int):=by omega
      have j5:(0:Int)<=(k:Int):=by omega
      have j6:(nw:Int)<=(cw:Int):=by omega
      have j7:(0:Int)<=(k:Int)+1:=by omega
      clear oN;try go_wp2_with fail
      go_region_law (first
       |(refine aS (.tmp 46) (.tmp 50) (c:=cw) (Gx.out) (kV.out.size) (T_.out _ kV.out) ?_ ?_ ?_ ?_ ?_ ?_; (· omega); (· rfl); (· rfl); (· rfl); (· rfl);intro v1 w1' hown1 hg1 jN;rw[List.nil_append,Nat.zero_add] at hown1;have hb1':=Below.own kV.out Gx.out aj hg1;have z1:=(hb1'.cell (p:=⟨w.heap.size,1,none⟩) hgx).trans a1)
       |(refine aS (.tmp 51) (.tmp 56) (c:=cw- (k+1)) (hown1) (hb1'.size) (mJ.out _ hb1') ?_ ?_ ?_ ?_ ?_ ?_; (· omega); (· rfl); (· rfl); (· rfl); (· rfl);intro v2 w2' hown2 hg2 yO;have hb2':=Below.own hb1' hown1 aj hg2;obtain⟨A7,c7,rfl,ZY⟩:=aD hown2;have z2:=(hb2'.cell (p:=⟨w.heap.size,1,none⟩) hgx).trans a1;have z3:=(eH.out.below hb2').box.soft 1))
      all_goals
       have hpa:=eH.out.below hb2';have hoa:=jh.out.below hb2';obtain⟨d0,d1,d2,d3⟩:=hpa.box.cells;obtain⟨p0,p1,p2⟩:=hoa.box.cells;simp only at d0 d1 d2 d3 p0 p1 p2;have Ed:=hpa.vJ hown2 eH.out.aO.base eH.out.size (fun b hb=>eH.out.aO.far hb)
       have tZ:=fT B _ _ ⟨tx,kd,it⟩ _ Ed.aO (show D.av.length<=9000 by have:=H3.out;omega) (show D.done.length<=9000 by have:=H1.out;omega)
       simp only[DV.val,ay.val] at tZ;have Ub:=ah tZ;have KA:=ah Ed;have hlx:=jh.out.lt;have Uc:w.heap.size≠wr.heap.size:=by omega
       clear hpa hoa Ed tZ hown1 hg1 jN hb1' hown2 hg2 yO hb2' z1 z2 z3 a0 a1 a2 a3 Ua;go_wp2_with (first
        |(go_at_call 96;go_loud (refine Ub.out.mono ?_;rintro e w8 ⟨V8,rfl,qp,nZ⟩;have sJ:=dS (hX) gZ.out;have lF:=nN.next (hX) ML.out gZ.out;have hih:=ih B V8 _ w8 qp lF (by omega);obtain⟨Vo,Vq,Vr,Vs,Vt,Vu,Vv,Vw,Vx,Vy,Vz,VA,rfl,_⟩:=qp.forms;simp only[DV.val] at hih;have xZ:=ah hih;have BP:=ah nZ;clear hih nZ qp sJ lF;unfold DV.val;simp only))
        |(go_at_call 61;go_loud (refine xZ.out.mono ?_;rintro e w9 ⟨V9,rfl,sK,yT⟩;obtain⟨mO,l7,qB,pW,kX,lG,qC,pz,mP,mQ,qD,pX,rfl,_⟩:=sK.forms;have iP:=BP.out.trans yT;obtain⟨_,jQ,_⟩:=KA.out.mid iP;obtain⟨y0,y1,y2,y3⟩:=jQ.cells;unfold DV.nil at y0 y1 y2 y3;simp only at y0 y1 y2 y3;have s0:=jQ.soft 0;have s1:=jQ.soft 1;have s2:=jQ.soft 2;have s3:=jQ.soft 3;have hF:=KA.out.out sK iP;simp only[bI] at hF;have HF:=ah hF;clear hF yT iP sK jQ;unfold DV.val;simp only)))
       all_goals
        try(have hck:cw=k+1:=(by assumption);subst hck)
        obtain⟨d0,d1,d2,d3⟩:=HF.out.2.2.cells;simp only at d0 d1 d2 d3;refine bodyPost_ret (v:=.agg #[.slice mO kX mP,.slice l7 lG mQ,.slice qB qC qD,.slice pW pz pX]) (by simp[results,Tryz.results61,go_sem,d0,d1,d2,d3]) rfl ?_
        refine⟨⟨.slice mO kX mP,.slice l7 lG mQ,.slice qB qC qD,.slice pW pz pX⟩,rfl,?_,HF.out.2.1⟩;have e2:b_ .wait D=_:=fu (hX) gZ.out;rw[e2];exact HF.out.1
   .have hfr: ∀j,j<D.wait.length->dN D j=false:=fun j hj=>kJ.out j (by have:=H2.out;omega)
    have zy:=ah hfr;clear hP hfr kJ;go_wp2_with fail
    go_loopw [7] (fun i wr=> ∃k:Nat,k<=nw/\i=.int .i64 k/\Pk w ⟨.slice Ad nd cd,.slice Aw nw cw,.slice Al nl cl,.slice Ak nk ck⟩ B w.heap.size (w.heap.size+1) wr ⟨.slice Ad nd cd,.slice Aw nw cw,.slice Al nl cl,.slice Ak nk ck⟩ D/\True) (fun i _=>nw- (intOf i).toNat)
    case atStart=>exact⟨0,Nat.zero_le _,rfl,HP.out,trivial⟩
    case round=>
     clear HP hgr b0 b1 b2 b3 hlt;rename_i k0 _ _ _ _
     obtain⟨k,hk,rfl,hP,_⟩:=hrel;have HP:=ah hP;obtain⟨b0,b1,b2,b3⟩:=hP.box.cells;simp only at b0 b1 b2 b3;have hgr:=hP.vY;by_cases hlt:k<nw
     .have hro:aC wr Aw nw D.wait:=aC.aH (hP.aO.dh H2.out) (by omega)
      obtain⟨bw,ow,o,hA,hbl,ho,c0,c1,c2⟩:=hro.at_ hlt;subst hA;have HO:=ah ho;obtain⟨bf,hbf⟩: ∃b,dV D.wait k=b:=⟨_,rfl⟩;have kW:=ah hbf;have qI:=OB.made hP.aO o;obtain⟨tx,kd,it⟩:=o;unfold ay.cells at qI;simp only at qI c0 c1 c2;obtain⟨W2,hW2⟩: ∃W2:World,W2=wr.alloc (.cells #[.int .i64 tx,.int .i64 kd,.int .i64 it] 89):=⟨_,rfl⟩;have hP2:=hP.alloc (.cells #[.int .i64 tx,.int .i64 kd,.int .i64 it] 89);change OB (wr.alloc (.cells #[.int .i64 tx,.int .i64 kd,.int .i64 it] 89)) _ _ _ at qI;rw[<-hW2] at qI hP2;have uL:aC W2 (some ⟨bw,ow,none⟩) nw D.wait:=aC.aH (hP2.aO.dh H2.out) (by omega)
      have iA:=ah hP2;have qJ:=ah qI;have HW2:=ah hW2;have KC:=ah uL;clear hP hro ho hbf qI hP2 uL hW2;obtain⟨XS,tK⟩: ∃XS,eP D.av tx it kd=XS:=⟨_,rfl⟩;obtain⟨m,hm⟩: ∃m,XS.length=m:=⟨_,rfl⟩;have xX:=ah tK;have HM:=ah hm;clear tK hm;cases bf
      .go_wp2_with (go_at_call 95;go_loud (rw[<-HW2.out];refine(dU Al nl cl D.av tx it kd W2 (aC.aH (iA.out.aO.h_ (n:=nl) H3.out) (by omega))).mono ?_;rw[xX.out];rintro e w3 ⟨LA,lc,rfl,hlc,jV,hb3⟩;rw[HM.out] at hlc jV ⊢;have BH:=ah jV;have iB:=ah (iA.out.below hb3);have jg:=ah (qJ.out.below hb3);clear jV hb3 iA qJ HW2 KC b0 b1 b2 b3 c0 c1 c2))
       obtain⟨d0,d1,d2,d3⟩:=iB.out.box.cells;obtain⟨p0,p1,p2⟩:=jg.out.box.cells;simp only at d0 d1 d2 d3 p0 p1 p2;have L1:=Later.cell d1;have P0:=Later.cell p0;have oO:aC w3 (some ⟨bw,ow,none⟩) nw D.wait:=aC.aH (iB.out.aO.dh H2.out) (by omega)
       have oP:=ah oO;have hfo: ∀u:Later w3,Calls Tryz.prog 94 #[.slice (some ⟨bw,ow,none⟩) nw cw,.int .i64 (k:Int)] u.1 fun e w'=>e=.returned (.bool false)/\Below u.1.heap.size u.1 w':=fun u=>by
        have:=dn (some ⟨bw,ow,none⟩) nw cw D.wait k u.1 (oP.out.later u) hlt;rw[kW.out] at this;exact this
       have jF:=ah hfo;clear hfo oO d0 d1 d2 d3 p0 p1 p2;try go_wp2_with fail
       refine aQ ?_;repeat(go_big_quiet_step ((go_at_call 94;exact aA _ (jF.out _))))
       refine wpQuiet_nil ?_;rintro _ ⟨u,rfl⟩;have eH:=ah (iB.out.below u.2);have jh:=ah (jg.out.below u.2);obtain⟨w4,pY⟩: ∃w4:World,u.1=w4:=⟨_,rfl⟩;rw[pY] at eH jh ⊢;clear pY L1 P0 jF oP iB jg;obtain⟨d0,d1,d2,d3⟩:=eH.out.box.cells;obtain⟨p0,p1,p2⟩:=jh.out.box.cells;simp only at d0 d1 d2 d3 p0 p1 p2;have L1:=Later.cell d1;have P0:=Later.cell p0;have qK:aC w4 (some ⟨bw,ow,none⟩) nw D.wait:=aC.aH (eH.out.aO.dh H2.out) (by omega)
       have qL:=ah qK;have hfo: ∀u:Later w4,Calls Tryz.prog 94 #[.slice (some ⟨bw,ow,none⟩) nw cw,.int .i64 (k:Int)] u.1 fun e w'=>e=.returned (.bool false)/\Below u.1.heap.size u.1 w':=fun u=>by
        have:=dn (some ⟨bw,ow,none⟩) nw cw D.wait k u.1 (qL.out.later u) hlt;rw[kW.out] at this;exact this
       have jF:=ah hfo;clear hfo qK d0 d1 d2 d3 p0 p1 p2;try go_wp2_with fail
       refine aQ ?_;repeat(go_big_quiet_step ((go_at_call 94;exact aA _ (jF.out _))))
       refine wpQuiet_nil ?_;rintro _ ⟨u,rfl⟩;have eY:=ah (eH.out.below u.2);have o_:=ah (jh.out.below u.2);obtain⟨w5,pY⟩: ∃w5:World,u.1=w5:=⟨_,rfl⟩;rw[pY] at eY o_ ⊢;clear pY L1 P0 jF qL eH jh;go_wp2_with fail
       go_roundw
       case rel=>exact⟨k+1,by omega,by go_num,eY.out,trivial⟩
       case measure=>simp[intOf];omega
      .go_wp2_with (go_at_call 95;go_loud (rw[<-HW2.out];refine(dU Al nl cl D.av tx it kd W2 (aC.aH (iA.out.aO.h_ (n:=nl) H3.out) (by omega))).mono ?_;rw[xX.out];rintro e w3 ⟨LA,lc,rfl,hlc,jV,hb3⟩;rw[HM.out] at hlc jV ⊢;have BH:=ah jV;have iB:=ah (iA.out.below hb3);have jg:=ah (qJ.out.below hb3);clear jV hb3 iA qJ HW2 KC b0 b1 b2 b3 c0 c1 c2))
       obtain⟨d0,d1,d2,d3⟩:=iB.out.box.cells;obtain⟨p0,p1,p2⟩:=jg.out.box.cells;simp only at d0 d1 d2 d3 p0 p1 p2;have L1:=Later.cell d1;have P0:=Later.cell p0;have oO:aC w3 (some ⟨bw,ow,none⟩) nw D.wait:=aC.aH (iB.out.aO.dh H2.out) (by omega)
       have oP:=ah oO;have hfo: ∀u:Later w3,Calls Tryz.prog 94 #[.slice (some ⟨bw,ow,none⟩) nw cw,.int .i64 (k:Int)] u.1 fun e w'=>e=.returned (.bool true)/\Below u.1.heap.size u.1 w':=fun u=>by
        have:=dn (some ⟨bw,ow,none⟩) nw cw D.wait k u.1 (oP.out.later u) hlt;rw[kW.out] at this;exact this
       have jF:=ah hfo;clear hfo oO d0 d1 d2 d3 p0 p1 p2;try go_wp2_with fail
       refine aQ ?_;repeat(go_big_quiet_step ((go_at_call 94;exact aA _ (jF.out _))))
       refine wpQuiet_nil ?_;rintro _ ⟨u,rfl⟩;have eH:=ah (iB.out.below u.2);have jh:=ah (jg.out.below u.2);obtain⟨w4,pY⟩: ∃w4:World,u.1=w4:=⟨_,rfl⟩;rw[pY] at eH jh ⊢;clear pY L1 P0 jF oP iB jg;obtain⟨d0,d1,d2,d3⟩:=eH.out.box.cells;obtain⟨p0,p1,p2⟩:=jh.out.box.cells;simp only at d0 d1 d2 d3 p0 p1 p2;have L1:=Later.cell d1;have P0:=Later.cell p0;have qK:aC w4 (some ⟨bw,ow,none⟩) nw D.wait:=aC.aH (eH.out.aO.dh H2.out) (by omega)
       have qL:=ah qK;have hfo: ∀u:Later w4,Calls Tryz.prog 94 #[.slice (some ⟨bw,ow,none⟩) nw cw,.int .i64 (k:Int)] u.1 fun e w'=>e=.returned (.bool true)/\Below u.1.heap.size u.1 w':=fun u=>by
        have:=dn (some ⟨bw,ow,none⟩) nw cw D.wait k u.1 (qL.out.later u) hlt;rw[kW.out] at this;exact this
       have jF:=ah hfo;clear hfo qK d0 d1 d2 d3 p0 p1 p2;try go_wp2_with fail
       refine aQ ?_;repeat(go_big_quiet_step ((go_at_call 94;exact aA _ (jF.out _))))
       refine wpQuiet_nil ?_;rintro _ ⟨u,rfl⟩;have eY:=ah (eH.out.below u.2);have o_:=ah (jh.out.below u.2);obtain⟨w5,pY⟩: ∃w5:World,u.1=w5:=⟨_,rfl⟩;rw[pY] at eY o_ ⊢;clear pY L1 P0 jF qL eH jh;go_wp2_with fail
       go_roundw
       case rel=>exact⟨k+1,by omega,by go_num,eY.out,trivial⟩
       case measure=>simp[intOf];omega
     .have hwt:=zU B _ D wr hP.aO (show D.av.length<=9000 by have:=H3.out;omega) (show D.wait.length<=9000 by have:=H2.out;omega)
      simp only[DV.val] at hwt;have VB:=ah hwt;obtain⟨CS,hCS⟩: ∃C,fI (bW D)=C:=⟨_,rfl⟩;obtain⟨q,hq⟩: ∃q,CS.length=q:=⟨_,rfl⟩;have MC:=ah hCS;have HQ:=ah hq;have hq4:q<=4:=by rw[<-hq,<-hCS];exact vC (eX D) (oH D)
      clear hwt hCS hq hP;by_cases hq0:q=0
      .have hc0:fI (bW D)= [] :=MC.out.trans (List.eq_nil_of_length_eq_zero (HQ.out.trans hq0));subst hq0;have HC0:=ah hc0;clear hc0;go_wp2_with (first
        |(go_at_call 98;go_loud (refine VB.out.mono ?_;rintro e w4 ⟨G,gc,rfl,hG,hb4⟩;have eH:=ah (HP.out.below hb4);have hcy:=qF (bW D) (eX D) G gc w4 hG;rw[MC.out] at hcy;have Qk:=ah hcy;clear hcy hG hb4 HP VB))
        |(go_at_call 32;go_loud (refine Qk.out.mono ?_;rintro e w5 ⟨CA,cc,rfl,hcc,hrc,hb5⟩;rw[HQ.out] at hcc hrc ⊢;have eY:=ah (eH.out.below hb5);have XU:=ah hrc;clear hrc hb5 eH b0 b1 b2 b3;obtain⟨d0,d1,d2,d3⟩:=eY.out.box.cells;simp only at d0 d1 d2 d3;have hR0:=eY.out.res;obtain⟨y0,y1,y2,y3⟩:=hR0.cells;unfold DV.nil at y0 y1 y2 y3;simp only at y0 y1 y2 y3;have s0:=hR0.soft 0;have s1:=hR0.soft 1;have s2:=hR0.soft 2;have s3:=hR0.soft 3;have hF:=eY.out.pO;simp only[bI] at hF;have HF:=ah hF;clear hF hR0)))
       obtain⟨d0,d1,d2,d3⟩:=HF.out.2.2.cells;simp only at d0 d1 d2 d3;refine bodyPost_ret (v:=.agg #[.slice Ad nd cd,.slice Aw nw cw,.slice Al nl cl,.slice Ak nk ck]) (by simp[results,Tryz.results61,go_sem,d0,d1,d2,d3]) rfl ?_
       refine⟨⟨.slice Ad nd cd,.slice Aw nw cw,.slice Al nl cl,.slice Ak nk ck⟩,rfl,?_,HF.out.2.1⟩;have e2:b_ .wait D=D:=iI (nP zy.out HC0.out);rw[e2];exact HF.out.1
      .have hcn:fI (bW D)≠ [] :=by rw[MC.out];intro e;have:=HQ.out;rw[e] at this;exact hq0 this.symm
       have gZ:Hid (bB .wait D=some (bP D (vX CS))):=by
        show _=_
        have:=Gu zy.out hcn;rw[MC.out] at this;exact this
       clear hcn;go_wp2_with (first
        |(go_at_call 98;go_loud (refine VB.out.mono ?_;rintro e w4 ⟨G,gc,rfl,hG,hb4⟩;have eH:=ah (HP.out.below hb4);have hcy:=qF (bW D) (eX D) G gc w4 hG;rw[MC.out] at hcy;have Qk:=ah hcy;clear hcy hG hb4 HP VB))
        |(go_at_call 32;go_loud (refine Qk.out.mono ?_;rintro e w5 ⟨CA,cc,rfl,hcc,hrc,hb5⟩;rw[HQ.out] at hcc hrc ⊢;obtain⟨bC,oC,X,hCA,hbC,KD,z0⟩:=hrc.at_ (k:=0) (by omega);subst hCA;rw[Nat.add_zero] at z0;have eY:=ah (eH.out.below hb5);have XU:=ah hrc;clear hrc hb5 eH b0 b1 b2 b3;obtain⟨d0,d1,d2,d3⟩:=eY.out.box.cells;simp only at d0 d1 d2 d3;have hR0:=eY.out.res;obtain⟨y0,y1,y2,y3⟩:=hR0.cells;unfold DV.nil at y0 y1 y2 y3;simp only at y0 y1 y2 y3;have s0:=hR0.soft 0;have s1:=hR0.soft 1;have s2:=hR0.soft 2;have s3:=hR0.soft 3;have hF:=eY.out.pO;simp only[bI] at hF;have HF:=ah hF;clear hF hR0)))
       have hhd:CS.headD 0=X:=by
        cases CS with
        |nil=>cases KD
        |cons a r=>simp at KD;exact KD
       have hst:(CS.take 1).foldl max X=X:=by
        cases CS with
        |nil=>cases KD
        |cons a r=>simp at KD;subst KD;simp
       have zS:=ah hhd;have HST:=ah hst;clear KD hhd hst HF y0 y1 y2 y3 s0 s1 s2 s3 d0 d1 d2 d3 z0;go_loopw [11,12] (fun v i wr=> ∃p:Nat,1<=p/\p<=q/\i=.int .i64 p/\v=.int .i64 ((CS.take p).foldl max X)/\Pk w ⟨.slice Ad nd cd,.slice Aw nw cw,.slice Al nl cl,.slice Ak nk ck⟩ B w.heap.size (w.heap.size+1) wr ⟨.slice Ad nd cd,.slice Aw nw cw,.slice Al nl cl,.slice Ak nk ck⟩ D/\aM wr (some ⟨bC,oC,none⟩) q CS) (fun _ i _=>q- (intOf i).toNat)
       case atStart=>exact⟨1,Nat.le_refl _,by omega,rfl,by rw[HST.out],eY.out,XU.out⟩
       case round=>
        clear eY XU HST;obtain⟨p,hp1,hpq,rfl,rfl,hP,hRC⟩:=hrel;have eY:=ah hP;have XU:=ah hRC;by_cases YJ:p<q
        .obtain⟨bC',oC',Y,hCA,_,hY,z1⟩:=hRC.at_ YJ;injection hCA with hCA;injection hCA with e1 e2 _;subst e1;subst e2;have hsn:(CS.take (p+1)).foldl max X=max ((CS.take p).foldl max X) Y:=by
          rw[List.take_add_one,hY,Option.toList_some,List.foldl_append,List.foldl_cons,List.foldl_nil]
         obtain⟨M,hM⟩: ∃M,(CS.take p).foldl max X=M:=⟨_,rfl⟩;rw[hM] at hsn ⊢;have XF:=ah hsn;clear hsn hM hY hP hRC;go_wp2_with fail
         go_roundw
         case rel=>exact⟨p+1,by omega,by omega,by go_num,by rw[XF.out],eY.out,XU.out⟩
         case measure=>simp[intOf];omega
        .have hM:(CS.take p).foldl max X=vX CS:=by
          unfold vX;rw[zS.out,List.take_of_length_le (by have:=HQ.out;omega)]
         rw[hM];obtain⟨d0,d1,d2,d3⟩:=hP.box.cells;simp only at d0 d1 d2 d3;clear hM hP hRC XU;have MR:=uw B _ _ (vX CS) wr eY.out.aO (show D.av.length<=9000 by have:=H3.out;omega) (show D.done.length<=9000/\D.wait.length<=9000/\D.dead.length<=9000 by have:=H1.out;have:=H2.out;have:=H4.out;omega)
         simp only[DV.val] at MR;have XT:=ah MR;clear MR;go_wp2_with (first
          |(go_at_call 97;go_loud (refine XT.out.mono ?_;rintro e w8 ⟨V8,rfl,qp,nZ⟩;have sJ:=dS (hX) gZ.out;have lF:=nN.next (hX) ML.out gZ.out;have hih:=ih B V8 _ w8 qp lF (by omega);obtain⟨Vo,Vq,Vr,Vs,Vt,Vu,Vv,Vw,Vx,Vy,Vz,VA,rfl,_⟩:=qp.forms;simp only[DV.val] at hih;have xZ:=ah hih;have BP:=ah nZ;clear hih nZ qp sJ lF;unfold DV.val;simp only))
          |(go_at_call 61;go_loud (refine xZ.out.mono ?_;rintro e w9 ⟨V9,rfl,sK,yT⟩;obtain⟨mO,l7,qB,pW,kX,lG,qC,pz,mP,mQ,qD,pX,rfl,_⟩:=sK.forms;have iP:=BP.out.trans yT;obtain⟨_,jQ,_⟩:=eY.out.mid iP;obtain⟨y0,y1,y2,y3⟩:=jQ.cells;unfold DV.nil at y0 y1 y2 y3;simp only at y0 y1 y2 y3;have s0:=jQ.soft 0;have s1:=jQ.soft 1;have s2:=jQ.soft 2;have s3:=jQ.soft 3;have hF:=eY.out.out sK iP;simp only[bI] at hF;have HF:=ah hF;clear hF yT iP sK jQ;unfold DV.val;simp only)))
         obtain⟨d0,d1,d2,d3⟩:=HF.out.2.2.cells;simp only at d0 d1 d2 d3;refine bodyPost_ret (v:=.agg #[.slice mO kX mP,.slice l7 lG mQ,.slice qB qC qD,.slice pW pz pX]) (by simp[results,Tryz.results61,go_sem,d0,d1,d2,d3]) rfl ?_
         refine⟨⟨.slice mO kX mP,.slice l7 lG mQ,.slice qB qC qD,.slice pW pz pX⟩,rfl,?_,HF.out.2.1⟩;have e2:b_ .wait D=_:=fu (hX) gZ.out;rw[e2];exact HF.out.1
end Go.Proofs.YtddkjbibjjehjaaGreatDoor
