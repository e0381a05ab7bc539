/-
  Texts that the proof rests on, joined: part 12.
-/
import Derived.Test.YtddkjbibjjehjaaGreatDoorSXr11
set_option maxHeartbeats 16000000
set_option maxRecDepth 100000
namespace Go.Proofs.YtddkjbibjjehjaaGreatDoor
open Go.RowKit Go.BigFrame
set_option linter.unusedVariables false
def nC (w:World)(g:Nat)(o:ay):Prop:=au w g 89 o.cells
section
variable {w w':World} {g:Nat} {o:ay}
theorem nC.cells (h:nC w g o):w.cell? ⟨g,0,none⟩=some (.int .i64 o.tx)/\w.cell? ⟨g,1,none⟩=some (.int .i64 o.kind)/\w.cell? ⟨g,2,none⟩=some (.int .i64 o.item):=
 ⟨au.cell h rfl,au.cell h rfl,au.cell h rfl⟩
theorem nC.below (h:nC w g o)(hb:Below w.heap.size w w'):nC w' g o:=au.below h hb aj
theorem nC.alloc (h:nC w g o)(x:Obj):nC (w.alloc x) g o:=au.alloc h x
theorem nC.step {V0 V1:DV}(h:nC w g o)(hs:DStep w V0 w' V1)(hn:eT V0 g):nC w' g o:=hs.row h hn
theorem nC.other (h:nC w g o){g':Nat}(hne:g'≠g)(i:Nat)(u:Value):nC (w.setCell ⟨g',i,none⟩ u) g o:=
 (Below.heap_setCell w ⟨g',i,none⟩ u g (by simpa using hne.symm)).trans h
theorem nC.new (w:World)(o:ay):nC (w.alloc (.cells o.cells.toArray 89)) w.heap.size o:=heap_alloc_new w _
theorem nC.grown (h:nC w g o){row:Option Nat}(hg:w.grownBy w' row)(hne:row≠some g):nC w' g o:=au.grown h hg hne
end
theorem fT (B:Nat)(V:DV)(D:bY)(o:ay)(w:World)(hd:aP w B V D)(hL:D.av.length<=9000)(hN:D.done.length<=9000):
 Calls Tryz.prog 96 #[V.val,o.val] w (yJ w B V (bK D o)):=by
 obtain⟨W,hW⟩: ∃W:World,W=((w.alloc (.cells V.list.toArray 67)).alloc (.cells o.cells.toArray 89)).alloc (.cells DV.nil.list.toArray 67):=⟨_,rfl⟩;have hD0:aP W B V D:=by rw[hW];exact((hd.alloc _).alloc _).alloc _
 have hS0:DStep w V W V:=by rw[hW];exact(((DStep.refl w V).alloc _).alloc _).alloc _
 have hB0:Boxed W w.heap.size V:=by rw[hW];exact((Boxed.new w V).alloc _).alloc _
 have J7:nC W (w.heap.size+1) o:=by
  rw[hW];have:=nC.new (w.alloc (.cells V.list.toArray 67)) o;rw[show(w.alloc (.cells V.list.toArray 67)).heap.size=w.heap.size+1 by simp] at this
  exact this.alloc _
 have hR0:Boxed W (w.heap.size+1+1) DV.nil:=by
  rw[hW];have:=Boxed.new ((w.alloc (.cells V.list.toArray 67)).alloc (.cells o.cells.toArray 89)) DV.nil;rw[show((w.alloc (.cells V.list.toArray 67)).alloc (.cells o.cells.toArray 89)).heap.size=w.heap.size+1+1 by simp] at this
  exact this
 have hszW:W.heap.size=w.heap.size+1+1+1:=by rw[hW];simp
 have hnO:eT V (w.heap.size+1):=hd.far (by omega)
 have kJ:=ah hnO;have HB:=ah hd.base;obtain⟨tx,kd,it⟩:=o;obtain⟨Ad,Aw,Al,Ak,nd,nw,nl,nk,cd,cw,cl,ck,rfl,hcs,h1,h2,h3,h4⟩:=hd.forms;have H1:=ah h1;have H3:=ah h3;have hbd:nd<=9000/\nl<=9000:=by omega
 have HST:=ah (And.intro hD0 (And.intro hS0 (And.intro hB0 (And.intro J7 hR0))));have HW:=ah hW;have Oy:=ah hszW;clear hD0 hS0 hB0 J7 hR0 hW hd h1 h2 h3 h4 hszW hnO;unfold DV.val ay.val;simp only;have HW2:=HW.out;unfold ay.cells DV.list DV.nil at HW2;simp only at HW2;change W=((w.alloc (.cells #[.slice Ad nd cd,.slice Aw nw cw,.slice Al nl cl,.slice Ak nk ck] _)).alloc (.cells #[.int .i64 tx,.int .i64 kd,.int .i64 it] _)).alloc (.cells #[.slice none 0 0,.slice none 0 0,.slice none 0 0,.slice none 0 0] _) at HW2;have HW3:=ah HW2;clear HW HW2;obtain⟨be,hbe⟩: ∃b,aK ⟨tx,kd,it⟩=b:=⟨_,rfl⟩;have nW:=ah hbe;clear hbe;cases be
 .obtain⟨h,hh⟩: ∃h,aL D.av tx it=h:=⟨_,rfl⟩;have HE:Hid (aL (D.av.take nl) tx it=h):=by show _=_;rw[List.take_of_length_le (by have:=H3.out;omega)];exact hh
  have HH:=ah hh;clear hh;go_enter Tryz.func96,Tryz.ntmps96;go_wp2_with (first
   |(at_builtin;go_loud (rw[<-HW3.out];refine gX (.tmp 6) (.tmp 8) ((HST.out.1.doneN H1.out).alloc _) (Nat.le_trans HST.out.1.base (by simp)) (aC.Yw Oy.out ⟨_,_,_⟩ _) (by omega) rfl rfl rfl rfl ?_;intro v3 w3 hown3 hg3 aU;obtain⟨A3,c3,rfl,hc3⟩:=aD hown3;have hB3:=(HST.out.2.2.1.alloc (.cells #[.int .i64 tx,.int .i64 kd,.int .i64 it] 89)).grown hg3 (HST.out.2.2.1.cO HST.out.1).1;have SV:=(HST.out.2.2.2.2.alloc (.cells #[.int .i64 tx,.int .i64 kd,.int .i64 it] 89)).grown hg3 (HST.out.2.2.2.2.cO HST.out.1).1;have hO3:=(HST.out.2.2.2.1.alloc (.cells #[.int .i64 tx,.int .i64 kd,.int .i64 it] 89)).grown hg3 kJ.out.1;have hD3:=(HST.out.1.alloc _).iF (L:=D.done++ [⟨tx,kd,it⟩]) hg3 hown3 aU;have eu:=(HST.out.2.1.alloc _).iF hg3 aU;obtain⟨c0,c1,c2,c3'⟩:=hB3.cells;obtain⟨o0,o1,o2⟩:=hO3.cells;simp only at c0 c1 c2 c3' o0 o1 o2;have g0:=hB3.soft 0;have XB:=hB3.cO hD3;obtain⟨Wc,hWc⟩: ∃u:World,u=w3.setCell ⟨w.heap.size,0,none⟩ (.slice A3 (nd+1) c3):=⟨_,rfl⟩;have SX:=hD3.set XB 0 (.slice A3 (nd+1) c3);rw[<-hWc] at SX;have SY:=eu.set aj 0 (.slice A3 (nd+1) c3);rw[<-hWc] at SY;have S9:=hB3.VZ (.slice A3 (nd+1) c3);rw[<-hWc] at S9;have S_:=SV.other (show w.heap.size≠w.heap.size+2 by omega) 0 (.slice A3 (nd+1) c3);rw[<-hWc] at S_;have YA:=hO3.other (show w.heap.size≠w.heap.size+1 by omega) 0 (.slice A3 (nd+1) c3);rw[<-hWc] at YA;have HC:=ah (And.intro SX (And.intro SY (And.intro S9 (And.intro YA S_))));have XC:=ah hWc;clear hB3 SV hO3 hD3 eu XB SX SY S9 S_ YA hWc HST HW3 hg3 aU hown3))
   |(go_at_call 87;go_loud (rw[<-XC.out];refine(bJ ⟨tx,kd,it⟩ _).mono ?_;rintro e w4 ⟨rfl,hb4⟩;rw[nW.out];have Ci:=ah (And.intro (HC.out.1.below hb4) (And.intro (HC.out.2.1.below hb4) (And.intro (HC.out.2.2.1.below hb4) (And.intro (HC.out.2.2.2.1.below hb4) (HC.out.2.2.2.2.below hb4)))));obtain⟨d0,d1,d2,d3⟩:=Ci.out.2.2.1.cells;obtain⟨p0,p1,p2⟩:=Ci.out.2.2.2.1.cells;simp only at d0 d1 d2 d3 p0 p1 p2;have hdr:=DU B _ _ tx w4 Ci.out.1 (show D.av.length<=10000 by omega);simp only[DV.val] at hdr;have HDR:=ah hdr;clear hdr HC XC hb4 c0 c1 c2 c3' o0 o1 o2 g0)))
  have hlo:=Ci.out.1.h_ (n:=nl) H3.out;have hro:=aC.aH hlo (by omega)
  have L0:=Later.cell d0;have L1:=Later.cell d1;have L2:=Later.cell d2;have L3:=Later.cell d3;have P0:=Later.cell p0;have P1:=Later.cell p1;have P2:=Later.cell p2;have PN:Hid (aC w4 Al nl D.av):=hro;have hcall: ∀u:Later w4,Calls Tryz.prog 138 #[.slice Al nl cl,.int .i64 (nl:Int),.int .i64 tx,.int .i64 it] u.1 fun e w'=>e=.returned (.int .i64 h)/\Below u.1.heap.size u.1 w':=fun u=>by
   have:=mY Al nl cl D.av nl tx it u.1 (PN.out.later u) aj;rw[HE.out] at this;exact this
  have JF:=ah hcall;clear hcall hlo hro HDR d0 d1 d2 d3 p0 p1 p2;by_cases hp:h<kd
  .have hpb:decide (h<kd)=true:=by simp[hp]
   refine aQ ?_;repeat(go_big_quiet_step ((go_at_call 138;exact aA _ (JF.out _))))
   refine wpQuiet_nil ?_;rintro _ ⟨u,rfl⟩;have d0:=L0 u;have d1:=L1 u;have d2:=L2 u;have d3:=L3 u;have p0:=P0 u;have p1:=P1 u;have p2:=P2 u;have HU:=ah (And.intro (Ci.out.1.below u.2) (And.intro (Ci.out.2.1.below u.2) (And.intro (Ci.out.2.2.1.below u.2) (And.intro (Ci.out.2.2.2.1.below u.2) (Ci.out.2.2.2.2.below u.2)))));obtain⟨w5,Gl⟩: ∃w5:World,u.1=w5:=⟨_,rfl⟩;rw[Gl] at d0 d1 d2 d3 p0 p1 p2 HU ⊢;clear L0 L1 L2 L3 P0 P1 P2 Gl JF Ci;go_wp2_with (at_builtin;go_loud (refine Gi (.tmp 31) (.tmp 39) ((HU.out.1.h_ (n:=nl) H3.out).alloc _) (Nat.le_trans HU.out.1.base (by simp)) (aC.dB _ ⟨_,_,_⟩ _) (by omega) rfl rfl rfl rfl ?_;intro v6 w6 hown6 vv EZ;obtain⟨A6,c6,rfl,hc6⟩:=aD hown6;have Ir:=(HU.out.2.2.1.alloc (.cells #[.int .i64 tx,.int .i64 kd,.int .i64 it] 154)).grown vv (HU.out.2.2.1.cO HU.out.1).2.2.1;have uy:=(HU.out.2.2.2.2.alloc (.cells #[.int .i64 tx,.int .i64 kd,.int .i64 it] 154)).grown vv (HU.out.2.2.2.2.cO HU.out.1).2.2.1;have hD6:=(HU.out.1.alloc _).Gj (L:=D.av++ [⟨tx,kd,it⟩]) vv hown6;have LK:=(HU.out.2.1.alloc _).Gj vv EZ;obtain⟨q0,q1,q2,q3⟩:=Ir.cells;obtain⟨y0,y1,y2,y3⟩:=uy.cells;unfold DV.nil at y0 y1 y2 y3;simp only at q0 q1 q2 q3 y0 y1 y2 y3;have f2:=Ir.soft 2;have s0:=uy.soft 0;have s1:=uy.soft 1;have s2:=uy.soft 2;have s3:=uy.soft 3;have nB6:=Ir.cO hD6;have nR6:=uy.cO hD6;have hD7:=(hD6.set nB6 2 (.slice A6 (nl+1) c6)).fU nR6 (.slice A3 (nd+1) c3) (.slice Aw nw cw) (.slice A6 (nl+1) c6) (.slice Ak nk ck);have lS:=(LK.set aj 2 (.slice A6 (nl+1) c6)).fU (show w.heap.size<=w.heap.size+1+1 by omega) (.slice A3 (nd+1) c3) (.slice Aw nw cw) (.slice A6 (nl+1) c6) (.slice Ak nk ck);have hR7:=uy.other (show w.heap.size≠w.heap.size+1+1 by omega) 2 (.slice A6 (nl+1) c6);have HF:=ah (And.intro hD7 (And.intro lS hR7));clear Ir uy hD6 LK nB6 nR6 hD7 lS hR7 hown6 vv EZ d0 d1 d2 d3 p0 p1 p2))
   have hF:=(HF.out.2.2).fU ⟨.slice A3 (nd+1) c3,.slice Aw nw cw,.slice A6 (nl+1) c6,.slice Ak nk ck⟩;obtain⟨d0,d1,d2,d3⟩:=hF.cells;simp only at d0 d1 d2 d3;refine bodyPost_ret (v:=.agg #[.slice A3 (nd+1) c3,.slice Aw nw cw,.slice A6 (nl+1) c6,.slice Ak nk ck]) (by simp[results,Tryz.results96,go_sem,d0,d1,d2,d3]) rfl ?_
   refine⟨⟨.slice A3 (nd+1) c3,.slice Aw nw cw,.slice A6 (nl+1) c6,.slice Ak nk ck⟩,rfl,?_,?_⟩
   .have e:bK D ⟨tx,kd,it⟩=⟨D.done++ [⟨tx,kd,it⟩],D.wait,D.av++ [⟨tx,kd,it⟩],D.dead⟩:=by
     unfold bK dM;rw[if_neg (by rw[nW.out];simp)]
     simp only;rw[HH.out,if_pos hp]
    rw[e];exact HF.out.1
   .exact HF.out.2.1
  .have hpb:decide (h<kd)=false:=by simp;omega
   refine aQ ?_;repeat(go_big_quiet_step ((go_at_call 138;exact aA _ (JF.out _))))
   refine wpQuiet_nil ?_;rintro _ ⟨u,rfl⟩;have d0:=L0 u;have d1:=L1 u;have d2:=L2 u;have d3:=L3 u;have p0:=P0 u;have p1:=P1 u;have p2:=P2 u;have HU:=ah (And.intro (Ci.out.1.below u.2) (And.intro (Ci.out.2.1.below u.2) (And.intro (Ci.out.2.2.1.below u.2) (And.intro (Ci.out.2.2.2.1.below u.2) (Ci.out.2.2.2.2.below u.2)))));obtain⟨w5,Gl⟩: ∃w5:World,u.1=w5:=⟨_,rfl⟩;rw[Gl] at d0 d1 d2 d3 p0 p1 p2 HU ⊢;clear L0 L1 L2 L3 P0 P1 P2 Gl JF Ci;have uy:=HU.out.2.2.2.2;have nR6:=uy.cO HU.out.1;obtain⟨y0,y1,y2,y3⟩:=uy.cells;unfold DV.nil at y0 y1 y2 y3;simp only at y0 y1 y2 y3;have s0:=uy.soft 0;have s1:=uy.soft 1;have s2:=uy.soft 2;have s3:=uy.soft 3;have hD7:=HU.out.1.fU nR6 (.slice A3 (nd+1) c3) (.slice Aw nw cw) (.slice Al nl cl) (.slice Ak nk ck);have lS:=HU.out.2.1.fU (show w.heap.size<=w.heap.size+1+1 by omega) (.slice A3 (nd+1) c3) (.slice Aw nw cw) (.slice Al nl cl) (.slice Ak nk ck)
   have HF:=ah (And.intro hD7 (And.intro lS uy));clear uy nR6 hD7 lS;go_wp2_with fail
   have hF:=(HF.out.2.2).fU ⟨.slice A3 (nd+1) c3,.slice Aw nw cw,.slice Al nl cl,.slice Ak nk ck⟩;obtain⟨d0,d1,d2,d3⟩:=hF.cells;simp only at d0 d1 d2 d3;refine bodyPost_ret (v:=.agg #[.slice A3 (nd+1) c3,.slice Aw nw cw,.slice Al nl cl,.slice Ak nk ck]) (by simp[results,Tryz.results96,go_sem,d0,d1,d2,d3]) rfl ?_
   refine⟨⟨.slice A3 (nd+1) c3,.slice Aw nw cw,.slice Al nl cl,.slice Ak nk ck⟩,rfl,?_,?_⟩
   .have e:bK D ⟨tx,kd,it⟩=⟨D.done++ [⟨tx,kd,it⟩],D.wait,D.av,D.dead⟩:=by
     unfold bK dM;rw[if_neg (by rw[nW.out];simp)]
     simp only;rw[HH.out,if_neg (by omega)]
    rw[e];exact HF.out.1
   .exact HF.out.2.1
 .go_enter Tryz.func96,Tryz.ntmps96;go_wp2_with (first
   |(at_builtin;go_loud (rw[<-HW3.out];refine gX (.tmp 6) (.tmp 8) ((HST.out.1.doneN H1.out).alloc _) (Nat.le_trans HST.out.1.base (by simp)) (aC.Yw Oy.out ⟨_,_,_⟩ _) (by omega) rfl rfl rfl rfl ?_;intro v3 w3 hown3 hg3 aU;obtain⟨A3,c3,rfl,hc3⟩:=aD hown3;have hB3:=(HST.out.2.2.1.alloc (.cells #[.int .i64 tx,.int .i64 kd,.int .i64 it] 89)).grown hg3 (HST.out.2.2.1.cO HST.out.1).1;have SV:=(HST.out.2.2.2.2.alloc (.cells #[.int .i64 tx,.int .i64 kd,.int .i64 it] 89)).grown hg3 (HST.out.2.2.2.2.cO HST.out.1).1;have hO3:=(HST.out.2.2.2.1.alloc (.cells #[.int .i64 tx,.int .i64 kd,.int .i64 it] 89)).grown hg3 kJ.out.1;have hD3:=(HST.out.1.alloc _).iF (L:=D.done++ [⟨tx,kd,it⟩]) hg3 hown3 aU;have eu:=(HST.out.2.1.alloc _).iF hg3 aU;obtain⟨c0,c1,c2,c3'⟩:=hB3.cells;obtain⟨o0,o1,o2⟩:=hO3.cells;simp only at c0 c1 c2 c3' o0 o1 o2;have g0:=hB3.soft 0;have XB:=hB3.cO hD3;obtain⟨Wc,hWc⟩: ∃u:World,u=w3.setCell ⟨w.heap.size,0,none⟩ (.slice A3 (nd+1) c3):=⟨_,rfl⟩;have SX:=hD3.set XB 0 (.slice A3 (nd+1) c3);rw[<-hWc] at SX;have SY:=eu.set aj 0 (.slice A3 (nd+1) c3);rw[<-hWc] at SY;have S9:=hB3.VZ (.slice A3 (nd+1) c3);rw[<-hWc] at S9;have S_:=SV.other (show w.heap.size≠w.heap.size+2 by omega) 0 (.slice A3 (nd+1) c3);rw[<-hWc] at S_;have YA:=hO3.other (show w.heap.size≠w.heap.size+1 by omega) 0 (.slice A3 (nd+1) c3);rw[<-hWc] at YA;have HC:=ah (And.intro SX (And.intro SY (And.intro S9 (And.intro YA S_))));have XC:=ah hWc;clear hB3 SV hO3 hD3 eu XB SX SY S9 S_ YA hWc HST HW3 hg3 aU hown3))
   |(go_at_call 87;go_loud (rw[<-XC.out];refine(bJ ⟨tx,kd,it⟩ _).mono ?_;rintro e w4 ⟨rfl,hb4⟩;rw[nW.out];have Ci:=ah (And.intro (HC.out.1.below hb4) (And.intro (HC.out.2.1.below hb4) (And.intro (HC.out.2.2.1.below hb4) (And.intro (HC.out.2.2.2.1.below hb4) (HC.out.2.2.2.2.below hb4)))));obtain⟨d0,d1,d2,d3⟩:=Ci.out.2.2.1.cells;obtain⟨p0,p1,p2⟩:=Ci.out.2.2.2.1.cells;simp only at d0 d1 d2 d3 p0 p1 p2;have hdr:=DU B _ _ tx w4 Ci.out.1 (show D.av.length<=10000 by omega);simp only[DV.val] at hdr;have HDR:=ah hdr;clear hdr HC XC hb4 c0 c1 c2 c3' o0 o1 o2 g0))
   |(go_at_call 139;go_loud (refine HDR.out.mono ?_;rintro e w5 ⟨V5,rfl,hD5,hS5⟩;have ZQ:=hD5.forms;obtain⟨Cj,Ck,Cm,Cn,Co,Cq,Cr,Ct,Cu,Cv,Cw,Cx,rfl,_⟩:=ZQ;have qm:=Ci.out.2.2.2.2.step hS5 (Ci.out.2.2.2.2.cO Ci.out.1);have nR5:=qm.cO hD5;obtain⟨y0,y1,y2,y3⟩:=qm.cells;unfold DV.nil at y0 y1 y2 y3;simp only at y0 y1 y2 y3;have s0:=qm.soft 0;have s1:=qm.soft 1;have s2:=qm.soft 2;have s3:=qm.soft 3;have HF:=ah (And.intro (hD5.fU nR5 (.slice Cj Co Cu) (.slice Ck Cq Cv) (.slice Cm Cr Cw) (.slice Cn Ct Cx)) (And.intro ((Ci.out.2.1.trans hS5).fU (show w.heap.size<=w.heap.size+1+1 by omega) (.slice Cj Co Cu) (.slice Ck Cq Cv) (.slice Cm Cr Cw) (.slice Cn Ct Cx)) qm));clear hS5 hD5 qm nR5;unfold DV.val;simp only)))
  have hF:=(HF.out.2.2).fU ⟨.slice Cj Co Cu,.slice Ck Cq Cv,.slice Cm Cr Cw,.slice Cn Ct Cx⟩;obtain⟨d0,d1,d2,d3⟩:=hF.cells;simp only at d0 d1 d2 d3;refine bodyPost_ret (v:=.agg #[.slice Cj Co Cu,.slice Ck Cq Cv,.slice Cm Cr Cw,.slice Cn Ct Cx]) (by simp[results,Tryz.results96,go_sem,d0,d1,d2,d3]) rfl ?_
  refine⟨⟨.slice Cj Co Cu,.slice Ck Cq Cv,.slice Cm Cr Cw,.slice Cn Ct Cx⟩,rfl,?_,?_⟩
  .have e:bK D ⟨tx,kd,it⟩=⟨D.done++ [⟨tx,kd,it⟩],D.wait,iT D.av tx,D.dead⟩:=by unfold bK dM;rw[if_pos nW.out]
   rw[e];exact HF.out.1
  .exact HF.out.2.1
def bI (w:World)(g:Nat)(V:DV):World:=(((w.setCell ⟨g,0,none⟩ V.d).setCell ⟨g,1,none⟩ V.w).setCell ⟨g,2,none⟩ V.l).setCell ⟨g,3,none⟩ V.k
theorem Iu (w:World)(g:Nat)(V:DV):(bI w g V).heap.size=w.heap.size:=Bb _ _ _ _ _ _
structure Pk (w0:World)(V0:DV)(B g gr:Nat)(w:World)(U:DV)(D:bY):Prop where
 aO:aP w B U D
 step:DStep w0 V0 w U
 box:Boxed w g U
 res:Boxed w gr DV.nil
 ne:g≠gr
 gl:w0.heap.size<=g
 ZT:w0.heap.size<=gr
section
variable {w0 w w1 w':World} {V0 U:DV} {B g gr:Nat} {D:bY}
theorem Pk.below (h:Pk w0 V0 B g gr w U D)(hb:Below w.heap.size w w'):Pk w0 V0 B g gr w' U D:=⟨h.aO.below hb,h.step.below hb,h.box.below hb,h.res.below hb,h.ne,h.gl,h.ZT⟩
theorem Pk.alloc (h:Pk w0 V0 B g gr w U D)(o:Obj):Pk w0 V0 B g gr (w.alloc o) U D:=h.below (aG.alloc aj _)
theorem Pk.drew (h:Pk w0 V0 B g gr w U D):Pk w0 V0 B g gr w.drew U D:=h.below aG.drew
theorem Pk.aar (h:Pk w0 V0 B g gr w U D):eT U g:=h.box.cO h.aO
theorem Pk.aas (h:Pk w0 V0 B g gr w U D):eT U gr:=h.res.cO h.aO
theorem Pk.size (h:Pk w0 V0 B g gr w U D):w0.heap.size<=w.heap.size:=h.step.size
theorem Pk.vY (h:Pk w0 V0 B g gr w U D):g<w.heap.size/\gr<w.heap.size:=⟨au.lt h.box,au.lt h.res⟩
theorem Pk.mid (h:Pk w0 V0 B g gr w U D){U':DV}(hs:DStep w U w' U'):Boxed w' g U/\Boxed w' gr DV.nil/\DStep w0 V0 w' U':=⟨h.box.step hs h.aar,h.res.step hs h.aas,h.step.trans hs⟩
theorem Pk.put (h:Pk w0 V0 B g gr w U D){U':DV}{D':bY}(hd:aP w' B U' D')(hs:DStep w U w' U'):Pk w0 V0 B g gr (bI w' g U') U' D':=by
 obtain⟨h1,h2,h3⟩:=h.mid hs;have hn:=h1.cO hd;exact⟨hd.fU hn _ _ _ _,h3.fU h.gl _ _ _ _,h1.fU U',h2.J5 h.ne _ _ _ _,h.ne,h.gl,h.ZT⟩
theorem Pk.out (h:Pk w0 V0 B g gr w U D){U':DV}{D':bY}(hd:aP w' B U' D')(hs:DStep w U w' U'):aP (bI w' gr U') B U' D'/\DStep w0 V0 (bI w' gr U') U'/\Boxed (bI w' gr U') gr U':=by
 obtain⟨h1,h2,h3⟩:=h.mid hs;have hn:=h2.cO hd;exact⟨hd.fU hn _ _ _ _,h3.fU h.ZT _ _ _ _,h2.fU U'⟩
theorem Pk.pO (h:Pk w0 V0 B g gr w U D):aP (bI w gr U) B U D/\DStep w0 V0 (bI w gr U) U/\Boxed (bI w gr U) gr U:=h.out h.aO (DStep.refl _ _)
theorem Pk.nY (h:Pk w0 V0 B g gr w U D){v:Value}{L:List ay}{n:Nat}(hg:w.grownBy w' U.w.ownBlock)(ho:w'.ownsRow B 89 3 v n (aB L))(hat:v.ownBlock=U.w.ownBlock\/v.ownBlock=some w.heap.size):
 Boxed w' g U/\Boxed w' gr DV.nil/\Pk w0 V0 B g gr (w'.setCell ⟨g,1,none⟩ v) ⟨U.d,v,U.l,U.k⟩ ⟨D.done,L,D.av,D.dead⟩:=by
 have hb:=h.box.grown hg h.aar.2.1;have hr:=h.res.grown hg h.aas.2.1;have hd:=h.aO.jC hg ho hat;exact⟨hb,hr,hd.set (hb.cO hd) 1 v,(h.step.jC hg hat).set h.gl 1 v,hb.setW v,hr.other h.ne 1 v,h.ne,h.gl,h.ZT⟩
theorem Pk.vJ (h:Pk w0 V0 B g gr w U D){v:Value}{L:List ay}{n H:Nat}(ho:w.ownsRow H 89 3 v n (aB L))(hB:B<=H)(h0:w0.heap.size<=H)(hU: ∀b,H<=b->eT U b):
 Pk w0 V0 B g gr (w.setCell ⟨g,1,none⟩ v) ⟨U.d,v,U.l,U.k⟩ ⟨D.done,L,D.av,D.dead⟩:=by
 have hlt: ∀b,v.ownBlock=some b->H<=b:=fun b hb=>(World.ownsRow.lt ho b hb).1
 have hd:=h.aO.SQ (Dt ho hB) fun b hb e=>(hU b (hlt b e)).1 hb
 have hs:=h.step.SQ (v:=v) fun b hb=>Nat.le_trans h0 (hlt b hb)
 exact⟨hd.set (h.box.cO hd) 1 v,hs.set h.gl 1 v,h.box.setW v,h.res.other h.ne 1 v,h.ne,h.gl,h.ZT⟩
end
structure OB (w:World)(U:DV)(g:Nat)(o:ay):Prop where
 box:nC w g o
 no:eT U g
section
variable {w w':World} {U U':DV} {g:Nat} {o:ay}
theorem OB.lt (h:OB w U g o):g<w.heap.size:=au.lt h.box
theorem OB.below (h:OB w U g o)(hb:Below w.heap.size w w'):OB w' U g o:=⟨h.box.below hb,h.no⟩
theorem OB.step (h:OB w U g o)(hs:DStep w U w' U'):OB w' U' g o:=⟨h.box.step hs h.no,hs.cO h.lt h.no⟩
theorem OB.put (h:OB w U g o){g':Nat}(hne:g'≠g)(V:DV):OB (bI w g' V) U g o:=⟨(((h.box.other hne 0 V.d).other hne 1 V.w).other hne 2 V.l).other hne 3 V.k,h.no⟩
end
end Go.Proofs.YtddkjbibjjehjaaGreatDoor
