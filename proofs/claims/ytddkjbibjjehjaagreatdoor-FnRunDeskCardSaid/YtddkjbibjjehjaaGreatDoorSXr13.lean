/-
  Texts that the proof rests on, joined: part 13.
-/
import Derived.Test.YtddkjbibjjehjaaGreatDoorSXr12
set_option maxHeartbeats 16000000
set_option maxRecDepth 100000
namespace Go.Proofs.YtddkjbibjjehjaaGreatDoor
open Go.RowKit Go.BigFrame
set_option linter.unusedVariables false
def dQ.str:dQ->ByteArray
 | .wait=> { data:= #[119,97,105,116] }
 | .die=> { data:= #[100,105,101] }
 | .bA=> { data:= #[119,111,117,110,100] }
theorem zR {B:Nat}{V:DV}{D:bY}{o:ay}{w W:World}(hd:aP w B V D)(hW:W=((w.alloc (.cells V.list.toArray 67)).alloc (.cells o.cells.toArray 89)).alloc (.cells DV.nil.list.toArray 67)):
 Pk w V B w.heap.size (w.heap.size+1+1) W V D/\OB W V (w.heap.size+1) o/\W.heap.size=w.heap.size+1+1+1:=by
 have hD0:aP W B V D:=by rw[hW];exact((hd.alloc _).alloc _).alloc _
 have hS0:DStep w V W V:=by rw[hW];exact(((DStep.refl w V).alloc _).alloc _).alloc _
 have hB0:Boxed W w.heap.size V:=by rw[hW];exact((Boxed.new w V).alloc _).alloc _
 have J7:nC W (w.heap.size+1) o:=by
  rw[hW];have:=nC.new (w.alloc (.cells V.list.toArray 67)) o;rw[show(w.alloc (.cells V.list.toArray 67)).heap.size=w.heap.size+1 by simp] at this
  exact this.alloc _
 have hR0:Boxed W (w.heap.size+1+1) DV.nil:=by
  rw[hW];have:=Boxed.new ((w.alloc (.cells V.list.toArray 67)).alloc (.cells o.cells.toArray 89)) DV.nil;rw[show((w.alloc (.cells V.list.toArray 67)).alloc (.cells o.cells.toArray 89)).heap.size=w.heap.size+1+1 by simp] at this
  exact this
 exact⟨⟨hD0,hS0,hB0,hR0,by omega,Nat.le_refl _,by omega⟩,⟨J7,hd.far (by omega)⟩,by rw[hW];simp⟩
theorem Tf (B:Nat)(V:DV)(D:bY)(o:ay)(w:World)(hd:aP w B V D)(hL:D.av.length<=9000)(hN:D.done.length<=9000)(hWt:D.wait.length<=9000)(Ta:D.dead.length<=9000):
 Calls Tryz.prog 62 #[.string dQ.wait.str,V.val,o.val] w (yJ w B V (gP .wait D o)):=by
 obtain⟨W,hW⟩: ∃W:World,W=((w.alloc (.cells V.list.toArray 67)).alloc (.cells o.cells.toArray 89)).alloc (.cells DV.nil.list.toArray 67):=⟨_,rfl⟩;obtain⟨Gm,J7,hszW⟩:=zR hd hW;obtain⟨tx,kd,it⟩:=o;obtain⟨Ad,Aw,Al,Ak,nd,nw,nl,nk,cd,cw,cl,ck,rfl,hcs,h1,h2,h3,h4⟩:=hd.forms;have H1:=ah h1;have H2:=ah h2;have H3:=ah h3;have H4:=ah h4;have tQ:=ah Gm;have xD:=ah J7;have Oy:=ah hszW;have hbd:nd<=9000/\nl<=9000/\nw<=9000:=by omega
 unfold ay.cells DV.list DV.nil at hW;simp only at hW;change W=((w.alloc (.cells #[.slice Ad nd cd,.slice Aw nw cw,.slice Al nl cl,.slice Ak nk ck] _)).alloc (.cells #[.int .i64 tx,.int .i64 kd,.int .i64 it] _)).alloc (.cells #[.slice none 0 0,.slice none 0 0,.slice none 0 0,.slice none 0 0] _) at hW;have HW3:=ah hW;clear Gm J7 hszW hd h1 h2 h3 h4 hW;unfold DV.val ay.val dQ.str;simp only;obtain⟨be,hbe⟩: ∃b,aK ⟨tx,kd,it⟩=b:=⟨_,rfl⟩;have nW:=ah hbe;clear hbe;cases be
 .have nO:aW D.av ⟨tx,kd,it⟩=eP D.av tx it kd:=by unfold aW;rw[if_neg (by rw[nW.out];simp)]
  obtain⟨XS,tK⟩: ∃XS,eP D.av tx it kd=XS:=⟨_,rfl⟩;rw[tK] at nO;obtain⟨m,hm⟩: ∃m,XS.length=m:=⟨_,rfl⟩;have xX:=ah tK;have HM:=ah hm;have BG:=ah nO;clear tK hm nO;by_cases hm0:m=0
  .subst hm0;go_enter Tryz.func62,Tryz.ntmps62;go_wp2_with (first
    |(go_at_call 87;go_loud (rw[<-HW3.out];refine(bJ ⟨tx,kd,it⟩ _).mono ?_;rintro e w1 ⟨rfl,hb1⟩;rw[nW.out];have mZ:=ah ((tQ.out.alloc (.cells #[] 3)).below hb1);have xE:=ah ((xD.out.below (aG.alloc aj (.cells #[] 3))).below hb1);have xG:=mZ.out.aO.base;have hlt1:=mZ.out.vY;obtain⟨d0,d1,d2,d3⟩:=mZ.out.box.cells;obtain⟨p0,p1,p2⟩:=xE.out.box.cells;simp only at d0 d1 d2 d3 p0 p1 p2;clear tQ xD HW3 hb1))
    |(go_at_call 95;go_loud (refine(dU Al nl cl D.av tx it kd w1 (aC.aH (mZ.out.aO.h_ (n:=nl) H3.out) (by omega))).mono ?_;rw[xX.out];rintro e w2 ⟨LA,lc,rfl,hlc,jV,hb2⟩;rw[HM.out] at hlc jV ⊢;have BH:=ah jV;have iA:=ah (mZ.out.below hb2);have Iw:=ah (xE.out.below hb2);have Mq:=iA.out.aO.base;have hlt2:=iA.out.vY;have hg2:=fT B _ _ ⟨tx,kd,it⟩ w2 iA.out.aO (show D.av.length<=9000 by omega) (show D.done.length<=9000 by omega);simp only[DV.val,ay.val] at hg2;have HG2:=ah hg2;have HB2:=ah hb2;clear jV hg2 hb2 d0 d1 d2 d3 p0 p1 p2;obtain⟨d0,d1,d2,d3⟩:=iA.out.box.cells;obtain⟨p0,p1,p2⟩:=Iw.out.box.cells;simp only at d0 d1 d2 d3 p0 p1 p2))
    |(go_at_call 96;go_loud (refine HG2.out.mono ?_;rintro e w5 ⟨V5,rfl,hD5,hS5⟩;obtain⟨Cj,Ck,Cm,Cn,Co,Cq,Cr,Ct,Cu,Cv,Cw,Cx,rfl,_⟩:=hD5.forms;obtain⟨_,qm,_⟩:=iA.out.mid hS5;obtain⟨y0,y1,y2,y3⟩:=qm.cells;unfold DV.nil at y0 y1 y2 y3;simp only at y0 y1 y2 y3;have s0:=qm.soft 0;have s1:=qm.soft 1;have s2:=qm.soft 2;have s3:=qm.soft 3;have hF:=iA.out.out hD5 hS5;simp only[bI] at hF;have HF:=ah hF;clear hF hS5 hD5 qm;unfold DV.val;simp only)))
   obtain⟨d0,d1,d2,d3⟩:=HF.out.2.2.cells;simp only at d0 d1 d2 d3;refine bodyPost_ret (v:=.agg #[.slice Cj Co Cu,.slice Ck Cq Cv,.slice Cm Cr Cw,.slice Cn Ct Cx]) (by simp[results,Tryz.results62,go_sem,d0,d1,d2,d3]) rfl ?_
   refine⟨⟨.slice Cj Co Cu,.slice Ck Cq Cv,.slice Cm Cr Cw,.slice Cn Ct Cx⟩,rfl,?_,HF.out.2.1⟩;have e:gP .wait D ⟨tx,kd,it⟩=bK D ⟨tx,kd,it⟩:=by
    unfold gP;simp only;rw[BG.out,if_pos (by first|rfl|(rw[List.eq_nil_of_length_eq_zero HM.out];rfl))]
   rw[e];exact HF.out.1
  .go_enter Tryz.func62,Tryz.ntmps62;go_wp2_with (first
    |(go_at_call 87;go_loud (rw[<-HW3.out];refine(bJ ⟨tx,kd,it⟩ _).mono ?_;rintro e w1 ⟨rfl,hb1⟩;rw[nW.out];have mZ:=ah ((tQ.out.alloc (.cells #[] 3)).below hb1);have xE:=ah ((xD.out.below (aG.alloc aj (.cells #[] 3))).below hb1);have xG:=mZ.out.aO.base;have hlt1:=mZ.out.vY;obtain⟨d0,d1,d2,d3⟩:=mZ.out.box.cells;obtain⟨p0,p1,p2⟩:=xE.out.box.cells;simp only at d0 d1 d2 d3 p0 p1 p2;clear tQ xD HW3 hb1))
    |(go_at_call 95;go_loud (refine(dU Al nl cl D.av tx it kd w1 (aC.aH (mZ.out.aO.h_ (n:=nl) H3.out) (by omega))).mono ?_;rw[xX.out];rintro e w2 ⟨LA,lc,rfl,hlc,jV,hb2⟩;rw[HM.out] at hlc jV ⊢;have BH:=ah jV;have iA:=ah (mZ.out.below hb2);have Iw:=ah (xE.out.below hb2);have Mq:=iA.out.aO.base;have hlt2:=iA.out.vY;have hg2:=fT B _ _ ⟨tx,kd,it⟩ w2 iA.out.aO (show D.av.length<=9000 by omega) (show D.done.length<=9000 by omega);simp only[DV.val,ay.val] at hg2;have HG2:=ah hg2;have HB2:=ah hb2;clear jV hg2 hb2 d0 d1 d2 d3 p0 p1 p2;obtain⟨d0,d1,d2,d3⟩:=iA.out.box.cells;obtain⟨p0,p1,p2⟩:=Iw.out.box.cells;simp only at d0 d1 d2 d3 p0 p1 p2)))
   have e:XS.isEmpty=false:=by
    cases XS with
    |nil=>exact absurd HM.out.symm hm0
    |cons _ _=>rfl
   obtain⟨bL,oL,X,Tg,hbL,hX,z0⟩:=BH.out.1.at_ (k:=0) (by omega)
   subst Tg;have hhd:XS.headD 0=X:=by
    cases XS with
    |nil=>cases hX
    |cons a r=>simp at hX;exact hX
   have zS:=ah hhd;rw[Nat.add_zero] at z0;have L0:=Later.cell p0;have Z0:=Later.cell z0;clear d0 d1 d2 d3 p0 p1 p2 z0 hX hhd;refine aQ ?_;repeat(go_big_quiet_step (fail))
   refine wpQuiet_nil ?_;rintro _ ⟨u,rfl⟩;have eY:=ah (iA.out.below u.2);have o_:=ah (Iw.out.below u.2);obtain⟨w5,Gl⟩: ∃w5:World,u.1=w5:=⟨_,rfl⟩;rw[Gl] at eY o_ ⊢;clear Gl L0 Z0;have Mr:=eY.out.aO.base;obtain⟨d0,d1,d2,d3⟩:=eY.out.box.cells;obtain⟨p0,p1,p2⟩:=o_.out.box.cells;simp only at d0 d1 d2 d3 p0 p1 p2;go_wp2_with (at_builtin;go_loud (refine gX (.tmp 74) (.tmp 76) ((eY.out.aO.dh (n:=nw) H2.out).alloc _) (Nat.le_trans eY.out.aO.base (by simp)) (aC.dB _ ⟨_,_,_⟩ _) (by omega) rfl rfl rfl rfl ?_;intro v8 w8 jD DW uz;obtain⟨A8,c8,rfl,hc8⟩:=aD jD;obtain⟨xY,Gn,J8⟩:=(eY.out.alloc (.cells #[.int .i64 tx,.int .i64 kd,.int .i64 it] 89)).nY DW jD uz;obtain⟨q0,q1,q2,q3⟩:=xY.cells;obtain⟨y0,y1,y2,y3⟩:=Gn.cells;unfold DV.nil at y0 y1 y2 y3;simp only at q0 q1 q2 q3 y0 y1 y2 y3;have f1:=xY.soft 1;have s0:=Gn.soft 0;have s1:=Gn.soft 1;have s2:=Gn.soft 2;have s3:=Gn.soft 3;have hF:=J8.pO;simp only[bI] at hF;have HF:=ah hF;clear hF xY Gn J8 DW jD uz))
   obtain⟨d0,d1,d2,d3⟩:=HF.out.2.2.cells;simp only at d0 d1 d2 d3;refine bodyPost_ret (v:=.agg #[.slice Ad nd cd,.slice A8 (nw+1) c8,.slice Al nl cl,.slice Ak nk ck]) (by simp[results,Tryz.results62,go_sem,d0,d1,d2,d3]) rfl ?_
   refine⟨⟨.slice Ad nd cd,.slice A8 (nw+1) c8,.slice Al nl cl,.slice Ak nk ck⟩,rfl,?_,HF.out.2.1⟩;have e2:gP .wait D ⟨tx,kd,it⟩=⟨D.done,D.wait++ [⟨tx,kd,it⟩],D.av,D.dead⟩:=by
    unfold gP fQ;simp only;rw[BG.out,if_neg (by rw[e];simp)]
   rw[e2];exact HF.out.1
 .have nO:aW D.av ⟨tx,kd,it⟩= [] :=by unfold aW;rw[if_pos nW.out]
  have BG:=ah nO;have HM:Hid (([] :List Int).length=0):=rfl;clear nO;go_enter Tryz.func62,Tryz.ntmps62;go_wp2_with (first
   |(go_at_call 87;go_loud (rw[<-HW3.out];refine(bJ ⟨tx,kd,it⟩ _).mono ?_;rintro e w1 ⟨rfl,hb1⟩;rw[nW.out];have mZ:=ah ((tQ.out.alloc (.cells #[] 3)).below hb1);have xE:=ah ((xD.out.below (aG.alloc aj (.cells #[] 3))).below hb1);have xG:=mZ.out.aO.base;have hlt1:=mZ.out.vY;obtain⟨d0,d1,d2,d3⟩:=mZ.out.box.cells;obtain⟨p0,p1,p2⟩:=xE.out.box.cells;simp only at d0 d1 d2 d3 p0 p1 p2;clear tQ xD HW3 hb1;have hg2:=fT B _ _ ⟨tx,kd,it⟩ w1 mZ.out.aO (show D.av.length<=9000 by omega) (show D.done.length<=9000 by omega);simp only[DV.val,ay.val] at hg2;have HG2:=ah hg2;clear hg2))
   |(go_at_call 96;go_loud (refine HG2.out.mono ?_;rintro e w5 ⟨V5,rfl,hD5,hS5⟩;obtain⟨Cj,Ck,Cm,Cn,Co,Cq,Cr,Ct,Cu,Cv,Cw,Cx,rfl,_⟩:=hD5.forms;obtain⟨_,qm,_⟩:=mZ.out.mid hS5;obtain⟨y0,y1,y2,y3⟩:=qm.cells;unfold DV.nil at y0 y1 y2 y3;simp only at y0 y1 y2 y3;have s0:=qm.soft 0;have s1:=qm.soft 1;have s2:=qm.soft 2;have s3:=qm.soft 3;have hF:=mZ.out.out hD5 hS5;simp only[bI] at hF;have HF:=ah hF;clear hF hS5 hD5 qm;unfold DV.val;simp only)))
  obtain⟨d0,d1,d2,d3⟩:=HF.out.2.2.cells;simp only at d0 d1 d2 d3;refine bodyPost_ret (v:=.agg #[.slice Cj Co Cu,.slice Ck Cq Cv,.slice Cm Cr Cw,.slice Cn Ct Cx]) (by simp[results,Tryz.results62,go_sem,d0,d1,d2,d3]) rfl ?_
  refine⟨⟨.slice Cj Co Cu,.slice Ck Cq Cv,.slice Cm Cr Cw,.slice Cn Ct Cx⟩,rfl,?_,HF.out.2.1⟩;have e:gP .wait D ⟨tx,kd,it⟩=bK D ⟨tx,kd,it⟩:=by
   unfold gP;simp only;rw[BG.out,if_pos (by first|rfl|(rw[List.eq_nil_of_length_eq_zero HM.out];rfl))]
  rw[e];exact HF.out.1
theorem Wh (B:Nat)(V:DV)(D:bY)(o:ay)(w:World)(hd:aP w B V D)(hL:D.av.length<=9000)(hN:D.done.length<=9000)(hWt:D.wait.length<=9000)(Ta:D.dead.length<=9000):
 Calls Tryz.prog 62 #[.string dQ.die.str,V.val,o.val] w (yJ w B V (gP .die D o)):=by
 obtain⟨W,hW⟩: ∃W:World,W=((w.alloc (.cells V.list.toArray 67)).alloc (.cells o.cells.toArray 89)).alloc (.cells DV.nil.list.toArray 67):=⟨_,rfl⟩;obtain⟨Gm,J7,hszW⟩:=zR hd hW;obtain⟨tx,kd,it⟩:=o;obtain⟨Ad,Aw,Al,Ak,nd,nw,nl,nk,cd,cw,cl,ck,rfl,hcs,h1,h2,h3,h4⟩:=hd.forms;have H1:=ah h1;have H2:=ah h2;have H3:=ah h3;have H4:=ah h4;have tQ:=ah Gm;have xD:=ah J7;have Oy:=ah hszW;have hbd:nd<=9000/\nl<=9000/\nw<=9000:=by omega
 unfold ay.cells DV.list DV.nil at hW;simp only at hW;change W=((w.alloc (.cells #[.slice Ad nd cd,.slice Aw nw cw,.slice Al nl cl,.slice Ak nk ck] _)).alloc (.cells #[.int .i64 tx,.int .i64 kd,.int .i64 it] _)).alloc (.cells #[.slice none 0 0,.slice none 0 0,.slice none 0 0,.slice none 0 0] _) at hW;have HW3:=ah hW;clear Gm J7 hszW hd h1 h2 h3 h4 hW;unfold DV.val ay.val dQ.str;simp only;obtain⟨be,hbe⟩: ∃b,aK ⟨tx,kd,it⟩=b:=⟨_,rfl⟩;have nW:=ah hbe;clear hbe;cases be
 .have nO:aW D.av ⟨tx,kd,it⟩=eP D.av tx it kd:=by unfold aW;rw[if_neg (by rw[nW.out];simp)]
  obtain⟨XS,tK⟩: ∃XS,eP D.av tx it kd=XS:=⟨_,rfl⟩;rw[tK] at nO;obtain⟨m,hm⟩: ∃m,XS.length=m:=⟨_,rfl⟩;have xX:=ah tK;have HM:=ah hm;have BG:=ah nO;clear tK hm nO;by_cases hm0:m=0
  .subst hm0;go_enter Tryz.func62,Tryz.ntmps62;go_wp2_with (first
    |(go_at_call 87;go_loud (rw[<-HW3.out];refine(bJ ⟨tx,kd,it⟩ _).mono ?_;rintro e w1 ⟨rfl,hb1⟩;rw[nW.out];have mZ:=ah ((tQ.out.alloc (.cells #[] 3)).below hb1);have xE:=ah ((xD.out.below (aG.alloc aj (.cells #[] 3))).below hb1);have xG:=mZ.out.aO.base;have hlt1:=mZ.out.vY;obtain⟨d0,d1,d2,d3⟩:=mZ.out.box.cells;obtain⟨p0,p1,p2⟩:=xE.out.box.cells;simp only at d0 d1 d2 d3 p0 p1 p2;clear tQ xD HW3 hb1))
    |(go_at_call 95;go_loud (refine(dU Al nl cl D.av tx it kd w1 (aC.aH (mZ.out.aO.h_ (n:=nl) H3.out) (by omega))).mono ?_;rw[xX.out];rintro e w2 ⟨LA,lc,rfl,hlc,jV,hb2⟩;rw[HM.out] at hlc jV ⊢;have BH:=ah jV;have iA:=ah (mZ.out.below hb2);have Iw:=ah (xE.out.below hb2);have Mq:=iA.out.aO.base;have hlt2:=iA.out.vY;have hg2:=fT B _ _ ⟨tx,kd,it⟩ w2 iA.out.aO (show D.av.length<=9000 by omega) (show D.done.length<=9000 by omega);simp only[DV.val,ay.val] at hg2;have HG2:=ah hg2;have HB2:=ah hb2;clear jV hg2 hb2 d0 d1 d2 d3 p0 p1 p2;obtain⟨d0,d1,d2,d3⟩:=iA.out.box.cells;obtain⟨p0,p1,p2⟩:=Iw.out.box.cells;simp only at d0 d1 d2 d3 p0 p1 p2))
    |(go_at_call 96;go_loud (refine HG2.out.mono ?_;rintro e w5 ⟨V5,rfl,hD5,hS5⟩;obtain⟨Cj,Ck,Cm,Cn,Co,Cq,Cr,Ct,Cu,Cv,Cw,Cx,rfl,_⟩:=hD5.forms;obtain⟨_,qm,_⟩:=iA.out.mid hS5;obtain⟨y0,y1,y2,y3⟩:=qm.cells;unfold DV.nil at y0 y1 y2 y3;simp only at y0 y1 y2 y3;have s0:=qm.soft 0;have s1:=qm.soft 1;have s2:=qm.soft 2;have s3:=qm.soft 3;have hF:=iA.out.out hD5 hS5;simp only[bI] at hF;have HF:=ah hF;clear hF hS5 hD5 qm;unfold DV.val;simp only)))
   obtain⟨d0,d1,d2,d3⟩:=HF.out.2.2.cells;simp only at d0 d1 d2 d3;refine bodyPost_ret (v:=.agg #[.slice Cj Co Cu,.slice Ck Cq Cv,.slice Cm Cr Cw,.slice Cn Ct Cx]) (by simp[results,Tryz.results62,go_sem,d0,d1,d2,d3]) rfl ?_
   refine⟨⟨.slice Cj Co Cu,.slice Ck Cq Cv,.slice Cm Cr Cw,.slice Cn Ct Cx⟩,rfl,?_,HF.out.2.1⟩;have e:gP .die D ⟨tx,kd,it⟩=bK D ⟨tx,kd,it⟩:=by
    unfold gP;simp only;rw[BG.out,if_pos (by first|rfl|(rw[List.eq_nil_of_length_eq_zero HM.out];rfl))]
   rw[e];exact HF.out.1
  .go_enter Tryz.func62,Tryz.ntmps62;go_wp2_with (first
    |(go_at_call 87;go_loud (rw[<-HW3.out];refine(bJ ⟨tx,kd,it⟩ _).mono ?_;rintro e w1 ⟨rfl,hb1⟩;rw[nW.out];have mZ:=ah ((tQ.out.alloc (.cells #[] 3)).below hb1);have xE:=ah ((xD.out.below (aG.alloc aj (.cells #[] 3))).below hb1);have xG:=mZ.out.aO.base;have hlt1:=mZ.out.vY;obtain⟨d0,d1,d2,d3⟩:=mZ.out.box.cells;obtain⟨p0,p1,p2⟩:=xE.out.box.cells;simp only at d0 d1 d2 d3 p0 p1 p2;clear tQ xD HW3 hb1))
    |(go_at_call 95;go_loud (refine(dU Al nl cl D.av tx it kd w1 (aC.aH (mZ.out.aO.h_ (n:=nl) H3.out) (by omega))).mono ?_;rw[xX.out];rintro e w2 ⟨LA,lc,rfl,hlc,jV,hb2⟩;rw[HM.out] at hlc jV ⊢;have BH:=ah jV;have iA:=ah (mZ.out.below hb2);have Iw:=ah (xE.out.below hb2);have Mq:=iA.out.aO.base;have hlt2:=iA.out.vY;have hg2:=fT B _ _ ⟨tx,kd,it⟩ w2 iA.out.aO (show D.av.length<=9000 by omega) (show D.done.length<=9000 by omega);simp only[DV.val,ay.val] at hg2;have HG2:=ah hg2;have HB2:=ah hb2;clear jV hg2 hb2 d0 d1 d2 d3 p0 p1 p2;obtain⟨d0,d1,d2,d3⟩:=iA.out.box.cells;obtain⟨p0,p1,p2⟩:=Iw.out.box.cells;simp only at d0 d1 d2 d3 p0 p1 p2)))
   have e:XS.isEmpty=false:=by
    cases XS with
    |nil=>exact absurd HM.out.symm hm0
    |cons _ _=>rfl
   obtain⟨bL,oL,X,Tg,hbL,hX,z0⟩:=BH.out.1.at_ (k:=0) (by omega)
   subst Tg;have hhd:XS.headD 0=X:=by
    cases XS with
    |nil=>cases hX
    |cons a r=>simp at hX;exact hX
   have zS:=ah hhd;rw[Nat.add_zero] at z0;have L0:=Later.cell p0;have Z0:=Later.cell z0;clear d0 d1 d2 d3 p0 p1 p2 z0 hX hhd;by_cases hx:X<tx
   .have hxb:decide (X<tx)=true:=by simp[hx]
    refine aQ ?_;repeat(go_big_quiet_step (fail))
    refine wpQuiet_nil ?_;rintro _ ⟨u,rfl⟩;have eY:=ah (iA.out.below u.2);have o_:=ah (Iw.out.below u.2);obtain⟨w5,Gl⟩: ∃w5:World,u.1=w5:=⟨_,rfl⟩;rw[Gl] at eY o_ ⊢;clear Gl L0 Z0;have Mr:=eY.out.aO.base;obtain⟨d0,d1,d2,d3⟩:=eY.out.box.cells;obtain⟨p0,p1,p2⟩:=o_.out.box.cells;simp only at d0 d1 d2 d3 p0 p1 p2;have hk2:=uw B _ _ tx w5 eY.out.aO (show D.av.length<=9000 by omega) (show D.done.length<=9000/\D.wait.length<=9000/\D.dead.length<=9000 by omega)
    simp only[DV.val] at hk2;have HK2:=ah hk2;clear hk2;go_wp2_with (go_at_call 97;go_loud (refine HK2.out.mono ?_;rintro e w5 ⟨V5,rfl,hD5,hS5⟩;obtain⟨Cj,Ck,Cm,Cn,Co,Cq,Cr,Ct,Cu,Cv,Cw,Cx,rfl,_⟩:=hD5.forms;obtain⟨_,qm,_⟩:=eY.out.mid hS5;obtain⟨y0,y1,y2,y3⟩:=qm.cells;unfold DV.nil at y0 y1 y2 y3;simp only at y0 y1 y2 y3;have s0:=qm.soft 0;have s1:=qm.soft 1;have s2:=qm.soft 2;have s3:=qm.soft 3;have hF:=eY.out.out hD5 hS5;simp only[bI] at hF;have HF:=ah hF;clear hF hS5 hD5 qm;unfold DV.val;simp only))
    obtain⟨d0,d1,d2,d3⟩:=HF.out.2.2.cells;simp only at d0 d1 d2 d3;refine bodyPost_ret (v:=.agg #[.slice Cj Co Cu,.slice Ck Cq Cv,.slice Cm Cr Cw,.slice Cn Ct Cx]) (by simp[results,Tryz.results62,go_sem,d0,d1,d2,d3]) rfl ?_
    refine⟨⟨.slice Cj Co Cu,.slice Ck Cq Cv,.slice Cm Cr Cw,.slice Cn Ct Cx⟩,rfl,?_,HF.out.2.1⟩;have e2:gP .die D ⟨tx,kd,it⟩=bP D tx:=by
     unfold gP;simp only;rw[BG.out,if_neg (by rw[e];simp),zS.out,if_pos hx]
    rw[e2];exact HF.out.1
   .have hxb:decide (X<tx)=false:=by simp;omega
    refine aQ ?_;repeat(go_big_quiet_step (fail))
    refine wpQuiet_nil ?_;rintro _ ⟨u,rfl⟩;have eY:=ah (iA.out.below u.2);have o_:=ah (Iw.out.below u.2);obtain⟨w5,Gl⟩: ∃w5:World,u.1=w5:=⟨_,rfl⟩;rw[Gl] at eY o_ ⊢;clear Gl L0 Z0;have Mr:=eY.out.aO.base;obtain⟨d0,d1,d2,d3⟩:=eY.out.box.cells;obtain⟨p0,p1,p2⟩:=o_.out.box.cells;simp only at d0 d1 d2 d3 p0 p1 p2;go_wp2_with (at_builtin;go_loud (refine gX (.tmp 74) (.tmp 76) ((eY.out.aO.dh (n:=nw) H2.out).alloc _) (Nat.le_trans eY.out.aO.base (by simp)) (aC.dB _ ⟨_,_,_⟩ _) (by omega) rfl rfl rfl rfl ?_;intro v8 w8 jD DW uz;obtain⟨A8,c8,rfl,hc8⟩:=aD jD;obtain⟨xY,Gn,J8⟩:=(eY.out.alloc (.cells #[.int .i64 tx,.int .i64 kd,.int .i64 it] 89)).nY DW jD uz;obtain⟨q0,q1,q2,q3⟩:=xY.cells;obtain⟨y0,y1,y2,y3⟩:=Gn.cells;unfold DV.nil at y0 y1 y2 y3;simp only at q0 q1 q2 q3 y0 y1 y2 y3;have f1:=xY.soft 1;have s0:=Gn.soft 0;have s1:=Gn.soft 1;have s2:=Gn.soft 2;have s3:=Gn.soft 3;have hF:=J8.pO;simp only[bI] at hF;have HF:=ah hF;clear hF xY Gn J8 DW jD uz))
    obtain⟨d0,d1,d2,d3⟩:=HF.out.2.2.cells;simp only at d0 d1 d2 d3;refine bodyPost_ret (v:=.agg #[.slice Ad nd cd,.slice A8 (nw+1) c8,.slice Al nl cl,.slice Ak nk ck]) (by simp[results,Tryz.results62,go_sem,d0,d1,d2,d3]) rfl ?_
    refine⟨⟨.slice Ad nd cd,.slice A8 (nw+1) c8,.slice Al nl cl,.slice Ak nk ck⟩,rfl,?_,HF.out.2.1⟩;have e2:gP .die D ⟨tx,kd,it⟩=⟨D.done,D.wait++ [⟨tx,kd,it⟩],D.av,D.dead⟩:=by
     unfold gP fQ;simp only;rw[BG.out,if_neg (by rw[e];simp),zS.out,if_neg (by omega)]
    rw[e2];exact HF.out.1
 .have nO:aW D.av ⟨tx,kd,it⟩= [] :=by unfold aW;rw[if_pos nW.out]
  have BG:=ah nO;have HM:Hid (([] :List Int).length=0):=rfl;clear nO;go_enter Tryz.func62,Tryz.ntmps62;go_wp2_with (first
   |(go_at_call 87;go_loud (rw[<-HW3.out];refine(bJ ⟨tx,kd,it⟩ _).mono ?_;rintro e w1 ⟨rfl,hb1⟩;rw[nW.out];have mZ:=ah ((tQ.out.alloc (.cells #[] 3)).below hb1);have xE:=ah ((xD.out.below (aG.alloc aj (.cells #[] 3))).below hb1);have xG:=mZ.out.aO.base;have hlt1:=mZ.out.vY;obtain⟨d0,d1,d2,d3⟩:=mZ.out.box.cells;obtain⟨p0,p1,p2⟩:=xE.out.box.cells;simp only at d0 d1 d2 d3 p0 p1 p2;clear tQ xD HW3 hb1;have hg2:=fT B _ _ ⟨tx,kd,it⟩ w1 mZ.out.aO (show D.av.length<=9000 by omega) (show D.done.length<=9000 by omega);simp only[DV.val,ay.val] at hg2;have HG2:=ah hg2;clear hg2))
   |(go_at_call 96;go_loud (refine HG2.out.mono ?_;rintro e w5 ⟨V5,rfl,hD5,hS5⟩;obtain⟨Cj,Ck,Cm,Cn,Co,Cq,Cr,Ct,Cu,Cv,Cw,Cx,rfl,_⟩:=hD5.forms;obtain⟨_,qm,_⟩:=mZ.out.mid hS5;obtain⟨y0,y1,y2,y3⟩:=qm.cells;unfold DV.nil at y0 y1 y2 y3;simp only at y0 y1 y2 y3;have s0:=qm.soft 0;have s1:=qm.soft 1;have s2:=qm.soft 2;have s3:=qm.soft 3;have hF:=mZ.out.out hD5 hS5;simp only[bI] at hF;have HF:=ah hF;clear hF hS5 hD5 qm;unfold DV.val;simp only)))
  obtain⟨d0,d1,d2,d3⟩:=HF.out.2.2.cells;simp only at d0 d1 d2 d3;refine bodyPost_ret (v:=.agg #[.slice Cj Co Cu,.slice Ck Cq Cv,.slice Cm Cr Cw,.slice Cn Ct Cx]) (by simp[results,Tryz.results62,go_sem,d0,d1,d2,d3]) rfl ?_
  refine⟨⟨.slice Cj Co Cu,.slice Ck Cq Cv,.slice Cm Cr Cw,.slice Cn Ct Cx⟩,rfl,?_,HF.out.2.1⟩;have e:gP .die D ⟨tx,kd,it⟩=bK D ⟨tx,kd,it⟩:=by
   unfold gP;simp only;rw[BG.out,if_pos (by first|rfl|(rw[List.eq_nil_of_length_eq_zero HM.out];rfl))]
  rw[e];exact HF.out.1
theorem Ms (A:Option Addr)(n c:Nat)(xs:List Int)(x:Int)(w:World)(hx:aM w A n xs):
 Calls Tryz.prog 176 #[.slice A n c,.int .i64 x] w fun e w'=>e=.returned (.int .i64 (ET xs x))/\Below w.heap.size w w':=by
 have hn:=hx.2.1;have hl:=hx.1;have HX:=ah hx;clear hx;go_enter Tryz.func176,Tryz.ntmps176;go_wp2_with fail
 go_loopw [8] (fun i wr=> ∃k:Nat,k<=n/\i=.int .i64 k/\Below w.heap.size w wr/\(∀j,j<k-> ∀y,xs[j]? =some y->(y==x)=false)) (fun i _=>n- (intOf i).toNat)
 case atStart=>exact⟨0,Nat.zero_le _,rfl,Below.refl _ _,by omega⟩
 case round=>
  obtain⟨k,hk,rfl,hb,hno⟩:=hrel;by_cases hlt:k<n
  .obtain⟨b,off,y,rfl,hbl,ho,c0⟩:=(HX.out.below hb aj).at_ hlt;have HN:Hid ((y==x)=false-> ∀j,j<k+1-> ∀y,xs[j]? =some y->(y==x)=false):=fun h=>mh ho hno h
   have HT:Hid ((y==x)=true->ET xs x=(k:Int)):=fun h=>R7 ho h hno
   have L0:=Later.cell c0;clear hno ho;by_cases h1:y=x
   .have hs:=ah (HT.out (by simpa using h1))
    have h1':(x==y)=true:=by simpa using h1.symm
    go_wp2_with fail
    try(refine aQ ?_;repeat(go_big_quiet_step (fail));refine wpQuiet_nil ?_;rintro _ ⟨u,rfl⟩;go_wp2_with fail)
    go_ret;exact⟨gW hs.out.symm,by first|exact hb|exact hb.trans (u.2.mono hb.size)⟩
   .have hs:=ah (HN.out (by simpa using h1))
    have h1':(x==y)=false:=by simpa using fun h=>h1 h.symm
    go_wp2_with fail
    try(refine aQ ?_;repeat(go_big_quiet_step (fail));refine wpQuiet_nil ?_;rintro _ ⟨u,rfl⟩;go_wp2_with fail)
    go_roundw
    case rel=>exact⟨k+1,by omega,by go_num,by first|exact hb|exact hb.trans (u.2.mono hb.size),hs.out⟩
    case measure=>simp[intOf];omega
  .have HE:=ah (O_ (xs:=xs) (x:=x) (fun j hj=>hno j (by omega)))
   clear hno;go_wp2_with fail
   go_ret;exact⟨gW HE.out.symm,hb⟩
theorem iV (A:Option Addr)(n c:Nat)(xs:List Int)(x:Int)(w:World)(hx:aM w A n xs):
 Calls Tryz.prog 155 #[.slice A n c,.int .i64 x] w fun e w'=>e=.returned (.bool (xs.any fun y=>y==x))/\Below w.heap.size w w':=by
 have HI:=ah (Ms A n c xs x w hx);have hz:=R8 xs x;clear hx;go_enter Tryz.func155,Tryz.ntmps155;go_wp2_with fail
 refine HI.out.mono ?_;rintro e w1 ⟨rfl,hb⟩;generalize ET xs x=z at*;cases ha:(xs.any fun y=>y==x)
 .rw[ha] at hz;have hz2:z= -1:=by simpa using hz
  subst hz2;have HA:=ah ha;clear ha hz;go_wp2_with fail
  go_ret;exact⟨aI HA.out.symm,hb⟩
 .rw[ha] at hz;have hz2:0<=z:=by simpa using hz
  have HA:=ah ha;clear ha hz;go_wp2_with fail
  go_ret;exact⟨aI HA.out.symm,hb⟩
theorem Mt {s:List ay}{k:Nat}{o:ay}{t:Int}(h:s[k]? =some o):opsOf (s.take (k+1)) t=opsOf (s.take k) t++if o.tx=t then [o] else [] :=by
 unfold opsOf;rw[aR h,List.filter_append];by_cases e:o.tx=t<;>simp[e]
theorem Mv {s:List ay}{k:Nat}{o:ay}{t:Int}(h:s[k]? =some o):lQ (s.take (k+1)) t=(lQ (s.take k) t||o.tx==t):=by
 unfold lQ;rw[aR h,List.any_append];simp
theorem Fa {s:List ay}{k:Nat}{t:Int}(h:lQ (s.take k) t=true):lQ s t=true:=by
 unfold lQ at*;rw[List.any_eq_true] at*;obtain⟨o,ho,e⟩:=h;exact⟨o,List.mem_of_mem_take ho,e⟩
theorem DX (A:Option Addr)(n c:Nat)(s:List ay)(t:Int)(w:World)(hx:aC w A n s):
 Calls Tryz.prog 60 #[.slice A n c,.int .i64 t] w (kD w (opsOf s t)):=by
 have hn:=hx.2.1;have hl:=hx.1;have HX:=ah hx;clear hx;have HST:Hid ((w.alloc (.cells #[] 89)).ownsRow w.heap.size 89 3 (.slice (some ⟨w.heap.size,0,none⟩) 0 0) 0 (aB (opsOf (s.take 0) t))):=
  World.ownsRow_made w #[] 0 aj (by decide) rfl
 go_enter Tryz.func60,Tryz.ntmps60;go_wp2_with fail
 go_loopw [5,6] (fun ov i wr=> ∃ (k m:Nat),k<=n/\m<=k/\i=.int .i64 k/\Below w.heap.size w wr/\wr.ownsRow w.heap.size 89 3 ov m (aB (opsOf (s.take k) t))) (fun _ i _=>n- (intOf i).toNat)
 case atStart=>exact⟨0,0,Nat.zero_le _,Nat.le_refl _,rfl,aG.alloc aj _,HST.out⟩
 case round=>
  clear HST;obtain⟨k,m,hk,hmk,rfl,hb,hown⟩:=hrel;obtain⟨Ao,co,rfl,hmc⟩:=aD hown;by_cases hlt:k<n
  .obtain⟨b,off,o,rfl,hbl,ho,c0,c1,c2⟩:=(HX.out.below hb aj).at_ hlt;have hs:=hb.size;have HT:=ah (Mt (t:=t) ho);clear ho;obtain⟨tx,kd,it⟩:=o;simp only at HT c0 c1 c2;by_cases h1:tx=t
   .rw[if_pos h1] at HT;subst h1;go_wp2_with (at_builtin;refine gX (.tmp 21) (.tmp 26) (hown.alloc _) (by simp;omega) (aC.dB _ ⟨_,_,_⟩ _) (by omega) rfl rfl rfl rfl ?_;intro v3 w3 hown3 hg3 aU)
    have hb3:=Below.own hb hown aj (World.grownBy.trans (World.grownBy_alloc wr _ _) hg3);go_wp2_with fail
    go_roundw
    case rel=>exact⟨k+1,m+1,by omega,by omega,by go_num,hb3,by rw[HT.out];simpa using hown3⟩
    case measure=>simp[intOf];omega
   .rw[if_neg h1,List.append_nil] at HT;go_wp2_with fail
    go_roundw
    case rel=>exact⟨k+1,m,by omega,by omega,by go_num,hb,by rw[HT.out];exact hown⟩
    case measure=>simp[intOf];omega
  .have e:s.take k=s:=List.take_of_length_le (by omega)
   rw[e] at hown;have HO:=ah (kD.mk (c:=co) (g_ hown) hmc (bR.aH hown aj (by omega)) hb)
   clear hown e;go_wp2_with fail
   go_ret;exact HO.out
theorem Ti (A:Option Addr)(n c:Nat)(s:List ay)(w:World)(hx:aC w A n s):
 Calls Tryz.prog 51 #[.slice A n c] w (aT w (ji s)):=by
 have hn:=hx.2.1;have hl:=hx.1;have HX:=ah hx;clear hx;have HST:Hid ((w.alloc (.cells #[] 3)).ownsRow w.heap.size 3 1 (.slice (some ⟨w.heap.size,0,none⟩) 0 0) 0 (intCells (AP s 0))):=
  World.ownsRow_made w #[] 0 aj (by decide) rfl
 go_enter Tryz.func51,Tryz.ntmps51;go_wp2_with fail
 go_loopw [3,4] (fun ov i wr=> ∃ (k m:Nat),k<=4/\m<=k/\i=.int .i64 k/\Below w.heap.size w wr/\wr.ownsRow w.heap.size 3 1 ov m (intCells (AP s k))) (fun _ i _=>4- (intOf i).toNat)
 case atStart=>exact⟨0,0,Nat.zero_le _,Nat.le_refl _,rfl,aG.alloc aj _,HST.out⟩
 case round=>
  clear HST;obtain⟨wo,rfl⟩: ∃wo:World,wo=wr:=⟨_,rfl⟩;obtain⟨k,m,hk,hmk,rfl,hb,hown⟩:=hrel;obtain⟨Ao,co,rfl,hmc⟩:=aD hown;by_cases hlt:k<4
  .have HT:=ah (C8 s k);have hk4:(k:Int)<4:=by omega
   go_wp2_with fail
   go_loopw [3,5] (fun Gp i' wr'=> ∃j:Nat,j<=n/\i'=.int .i64 j/\lQ (s.take j) (k:Int)=false/\Hid (wo=wr'/\Value.slice Ao m co=Gp)) (fun _ i' _=>n- (intOf i').toNat)
   case atStart=>exact⟨0,Nat.zero_le _,rfl,rfl,ah (And.intro rfl rfl)⟩
   case round=>
    obtain⟨j,hj,rfl,hno,hw⟩:=hrel;obtain⟨e1,e2⟩:=hw.out;subst e1;subst e2;clear hw;by_cases hlt2:j<n
    .obtain⟨b,off,o,rfl,hbl,ho,c0,c1,c2⟩:=(HX.out.below hb aj).at_ hlt2;have HS:=ah (Mv (t:=(k:Int)) ho);rw[hno,Bool.false_or] at HS;clear ho hno;obtain⟨tx,kd,it⟩:=o;simp only at HS c0 c1 c2;have hs:=hb.size;by_cases h1:tx=(k:Int)
     .have ht:=Fa (t:=(k:Int)) (by rw[HS.out];simpa using h1)
      rw[ht,if_pos rfl] at HT;clear ht HS;go_wp2_with (at_builtin;refine gI (.tmp 24) (.tmp 26) (hown.alloc _) (by simp;omega) (dB rfl _) (by omega) rfl rfl rfl rfl ?_;intro v5 w5 hown5 hg5 Dy)
      have hb5:=Below.own hb hown aj (World.grownBy.trans (World.grownBy_alloc wo _ _) hg5);go_wp2_with fail
      go_roundw
      case rel=>exact⟨k+1,m+1,by omega,by omega,by go_num,hb5,by rw[HT.out];exact hown5⟩
      case measure=>simp[intOf];omega
     .have h1':(tx==(k:Int))=false:=by simpa using h1
      rw[h1'] at HS;go_wp2_with fail
      go_roundw
      case rel=>exact⟨j+1,by omega,by go_num,HS.out,by first|trivial|exact ah (And.intro rfl rfl)|exact ah (And.intro rfl trivial)|simp⟩
      case measure=>simp[intOf];omega
    .have e:s.take j=s:=List.take_of_length_le (by omega)
     rw[e] at hno;rw[hno,if_neg (by simp),List.append_nil] at HT
     clear hno e;go_wp2_with fail
     go_roundw
     case rel=>exact⟨k+1,m,by omega,by omega,by go_num,hb,by rw[HT.out];exact hown⟩
     case measure=>simp[intOf];omega
  .obtain rfl:k=4:=by omega
   rw[C9] at hown;have HO:=ah (aT.mk (c:=co) (gY hown) hmc (aN.aH hown aj (by omega)) hb)
   clear hown;go_wp2_with fail
   go_ret;exact HO.out
def rfB (s:List ay)(i:Nat)(x:Int)(q:ay):Bool:=q.kind==1&&q.item==x&&dz (s.take i) q.tx !=3
def yK (s:List ay)(i:Nat)(x:Int):Nat->Int
 |0=> -1
 |k+1=>match s[k]? with|some q=>if rfB s i x q then q.tx else yK s i x k|none=>yK s i x k
theorem Gq {s:List ay}{i:Nat}{x:Int}{k:Nat}{q:ay}(h:s[k]? =some q):yK s i x (k+1)=if rfB s i x q then q.tx else yK s i x k:=by simp only[yK,h]
theorem Iy (A:Option Addr)(n c k:Nat)(s:List ay)(o:ay)(w:World)(hx:aC w A n s)(ho:s[k]? =some o)(hnc:n<=c):
 Calls Tryz.prog 159 #[.slice A n c,.int .i64 (k:Int)] w fun e w'=>e=.returned (.int .i64 (yK s k o.item k))/\Below w.heap.size w w':=by
 have hn:=hx.2.1;have hl:=hx.1;have hk:k<n:=by have:=(List.getElem?_eq_some_iff.1 ho).1;omega
 have HX:=ah hx;have HO:=ah ho;clear hx ho;have hkc:(k:Int)<=(c:Int):=by omega
 have hkn:(k:Int)< (n:Int):=by omega
 have hk0:(0:Int)<=(k:Int):=by omega
 go_enter Tryz.func159,Tryz.ntmps159;go_wp2_with fail
 go_loopw [5] (fun i wr=> ∃j:Nat,j<=k/\i=.int .i64 ((j:Int) -1)/\Below w.heap.size w wr/\yK s k o.item k=yK s k o.item j) (fun i _=>(intOf i+1).toNat)
 case atStart=>exact⟨k,Nat.le_refl _,by go_num,Below.refl _ _,rfl⟩
 case round=>
  obtain⟨j,hj,rfl,hb,he⟩:=hrel;by_cases hz:0<j
  .obtain⟨q,rfl⟩: ∃q,j=q+1:=⟨j-1,by omega⟩
   have e1:(((q+1:Nat):Int) -1)=(q:Int):=by omega
   rw[e1];have iM:=HX.out.below hb aj;obtain⟨b,off,p,hA,hbl,hp,c0,c1,c2⟩:=iM.at_ (k:=q) (by omega)
   obtain⟨b',off',o',hA',_,ho',d0,d1,d2⟩:=iM.at_ hk;subst hA;injection hA' with hA';injection hA' with q1 q2 _;subst q1;subst q2;rw[HO.out] at ho';injection ho' with ho';subst ho';obtain⟨E,hE⟩: ∃E,dz (s.take k) p.tx=E:=⟨_,rfl⟩;have hC: ∀u:Later wr,Calls Tryz.prog 124 #[.slice (some ⟨b,off,none⟩) k c,.int .i64 p.tx] u.1 fun e w'=>e=.returned (.int .i64 E)/\Below u.1.heap.size u.1 w':=fun u=>by
    have:=lW (some ⟨b,off,none⟩) k c (s.take k) p.tx u.1 ((iM.take (by omega)).later u);rw[hE] at this;exact this
   have hrs:=Gq (i:=k) (x:=o.item) hp;unfold rfB at hrs;rw[hE] at hrs;obtain⟨ptx,pk,RL⟩:=p;simp only at c0 c1 c2 hC hrs;obtain⟨b1,hb1⟩: ∃z,(pk==1)=z:=⟨_,rfl⟩;obtain⟨b2,hb2⟩: ∃z,(RL==o.item)=z:=⟨_,rfl⟩;obtain⟨b3,hb3⟩: ∃z,(E !=3)=z:=⟨_,rfl⟩;rw[hb1,hb2,hb3] at hrs;have HC:=ah hC;have Wi:=ah hrs;have HE:=ah he;have L0:=Later.cell c0;have L1:=Later.cell c1;have L2:=Later.cell c2;have M2:=Later.cell d2;have hqn:(q:Int)< (n:Int):=by omega
   have hq0:(0:Int)<=(q:Int):=by omega
   clear hC hrs he hp c0 c1 c2 d0 d1 d2 iM e1 hE;cases b1
   .go_wp2_with fail
    refine aQ ?_;repeat(go_big_quiet_step ((go_at_call 124;exact aA _ (HC.out _))))
    refine wpQuiet_nil ?_;rintro _ ⟨u,rfl⟩;have hbu:=hb.trans (u.2.mono hb.size);go_wp2_with fail
    go_roundw
    case rel=>exact⟨q,by omega,by go_num,hbu,by rw[HE.out,Wi.out];rfl⟩
    case measure=>simp[intOf] <;>omega
   .cases b2
    .go_wp2_with fail
     refine aQ ?_;repeat(go_big_quiet_step ((go_at_call 124;exact aA _ (HC.out _))))
     refine wpQuiet_nil ?_;rintro _ ⟨u,rfl⟩;have hbu:=hb.trans (u.2.mono hb.size);go_wp2_with fail
     go_roundw
     case rel=>exact⟨q,by omega,by go_num,hbu,by rw[HE.out,Wi.out];rfl⟩
     case measure=>simp[intOf] <;>omega
    .cases b3
     .go_wp2_with fail
      refine aQ ?_;repeat(go_big_quiet_step ((go_at_call 124;exact aA _ (HC.out _))))
      refine wpQuiet_nil ?_;rintro _ ⟨u,rfl⟩;have hbu:=hb.trans (u.2.mono hb.size);go_wp2_with fail
      go_roundw
      case rel=>exact⟨q,by omega,by go_num,hbu,by rw[HE.out,Wi.out];rfl⟩
      case measure=>simp[intOf] <;>omega
     .go_wp2_with fail
      refine aQ ?_;repeat(go_big_quiet_step ((go_at_call 124;exact aA _ (HC.out _))))
      refine wpQuiet_nil ?_;rintro _ ⟨u,rfl⟩;have hbu:=hb.trans (u.2.mono hb.size);have l0:=L0 u;go_wp2_with fail
      go_ret;exact⟨gW (by rw[HE.out,Wi.out];rfl),hbu⟩
  .obtain rfl:j=0:=by omega
   have HE:=ah he;clear he;go_wp2_with fail
   go_ret;exact⟨gW (by rw[HE.out];rfl),hb⟩
end Go.Proofs.YtddkjbibjjehjaaGreatDoor
