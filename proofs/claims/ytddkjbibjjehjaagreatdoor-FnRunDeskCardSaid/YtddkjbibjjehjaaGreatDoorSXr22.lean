/-
  Texts that the proof rests on, joined: part 22.
-/
import Derived.Deep.CutRange
import Derived.Test.YtddkjbibjjehjaaGreatDoorSXr21
set_option maxHeartbeats 16000000
set_option maxRecDepth 100000
namespace Go.Proofs.YtddkjbibjjehjaaGreatDoor
open Go.RowKit Go.BigFrame
set_option linter.unusedVariables false
def yR (w:World)(D:bY)(e:Ending)(w':World):Prop:= ∃V:DV,e=.returned V.val/\aP w' w.heap.size V D/\Below w.heap.size w w'
theorem aP.zero (w:World){B:Nat}(hB:B<=w.heap.size):aP w B DV.nil bY.zero:=
 ⟨hB,World.ownsRow_nil w B _ 3,World.ownsRow_nil w B _ 3,World.ownsRow_nil w B _ 3,World.ownsRow_nil w B _ 1,fun b h=>by cases h⟩
theorem Ql {w W:World}(hW:W=(w.alloc (.cells DV.nil.list.toArray 67)).alloc (.cells DV.nil.list.toArray 67)):
 Pk w DV.nil w.heap.size (w.heap.size+1) w.heap.size W DV.nil bY.zero:=by
 have hR0:Boxed W (w.heap.size+1) DV.nil:=by
  rw[hW];have:=Boxed.new (w.alloc (.cells DV.nil.list.toArray 67)) DV.nil;rw[show(w.alloc (.cells DV.nil.list.toArray 67)).heap.size=w.heap.size+1 by simp] at this
  exact this
 exact⟨aP.zero W (by rw[hW];simp;omega),by rw[hW];exact((DStep.refl w DV.nil).alloc _).alloc _,hR0,by rw[hW];exact(Boxed.new w DV.nil).alloc _,by omega,by omega,Nat.le_refl _⟩
theorem Qm (k:Nat):eT DV.nil k:=by
 refine⟨?_,?_,?_,?_⟩<;>(intro e;cases e)
theorem DStep.Qn {w w':World}{V:DV}(h:DStep w DV.nil w' V):Below w.heap.size w w':=
 ⟨h.fr.os,h.fr.tape,h.fr.output,h.fr.size,fun k hk=>h.fr.block k hk (Qm k)⟩
theorem OM {w:World}{H b off n:Nat}{s:List ay}(h:aC w (some ⟨b,off,none⟩) n s)(hb:b<H)(V:DV):aC (bI w (H+1) V) (some ⟨b,off,none⟩) n s:=by
 unfold bI;have key: ∀ {w:World} (i:Nat) (v:Value),aC w (some ⟨b,off,none⟩) n s->aC (w.setCell ⟨H+1,i,none⟩ v) (some ⟨b,off,none⟩) n s:=fun i v h=>
  h.grown fA fun ad had e=>by injection had with had;subst had;injection e with e;simp at e;omega
 exact key _ _ (key _ _ (key _ _ (key _ _ h)))
theorem sH (r:dQ)(A:Option Addr)(n c:Nat)(s:List ay)(w:World)(hx:aC w A n s)(hn:n<=100)
 (hit:r=.bA->bZ s)
 (Kw: ∀ (B:Nat) (V:DV) (D:bY) (o:ay) (w:World),aP w B V D->D.av.length<=8000->D.done.length<=8000->D.wait.length<=8000->D.dead.length<=8000->Calls Tryz.prog 62 #[.string r.str,V.val,o.val] w (yJ w B V (gP r D o)))
 (hres: ∀ (N:Nat),N<=1000-> ∀ (n B:Nat) (V:DV) (D:bY) (w:World),aP w B V D->nN D N->qW D<n->(r=.bA->bZ D.wait)->Calls Tryz.prog 61 #[.string r.str,V.val] w (yJ w B V (b_ r D))):
 Calls Tryz.prog 36 #[.string r.str,.slice A n c] w (yR w (dO r s)):=by
 generalize r.str=S at Kw hres ⊢;have WB:=ah Kw;have HIT:=ah hit;clear Kw hit;have hl:=hx.1;have HL:=ah hl;have HX:=ah hx;have aaT:=ah hres;obtain⟨W,hW⟩: ∃W:World,W=(w.alloc (.cells DV.nil.list.toArray 67)).alloc (.cells DV.nil.list.toArray 67):=⟨_,rfl⟩;have tQ:=ah (Ql hW);have HXW:Hid (aC W A n s):=by
  show aC _ _ _ _
  have hb:Below w.heap.size w W:=by rw[hW];exact(aG.alloc aj _).alloc (by simp) _
  exact hx.below hb aj
 unfold DV.list DV.nil at hW;simp only at hW;change W=(w.alloc (.cells #[.slice none 0 0,.slice none 0 0,.slice none 0 0,.slice none 0 0] _)).alloc (.cells #[.slice none 0 0,.slice none 0 0,.slice none 0 0,.slice none 0 0] _) at hW;have HW3:=ah hW;clear hW hx hl hres;go_enter Tryz.func36,Tryz.ntmps36;go_wp2_with fail
 rw[<-HW3.out];clear HW3;go_loopw [6] (fun i wr=> ∃ (k:Nat) (U:DV),k<=n/\i=.int .i64 k/\Pk w DV.nil w.heap.size (w.heap.size+1) w.heap.size wr U (dO r (s.take k))/\aC wr A n s) (fun i _=>n- (intOf i).toNat)
 case atStart=>exact⟨0,DV.nil,Nat.zero_le _,rfl,tQ.out,HXW.out⟩
 case round=>
  clear tQ HXW;obtain⟨k,U,hk,rfl,hP,hXr⟩:=hrel;obtain⟨hbn,hiw⟩:=Ml (r:=r) (s:=s) HIT.out k;obtain⟨D,ZW⟩: ∃D,dO r (s.take k)=D:=⟨_,rfl⟩;rw[ZW] at hP hbn hiw;have nK:=ah hiw;clear hiw;have hb1:=hbn.done;have hb2:=hbn.av;have hb3:=hbn.dead;have hb4:=hbn.wait;obtain⟨Ad,Aw,Al,Ak,nd,nw,nl,nk,cd,cw,cl,ck,rfl,hcs,h1,h2,h3,h4⟩:=hP.aO.forms;have hbd:nd<=600/\nl<=1800/\nw<=300/\nk<=600:=by omega
  have H1:=ah h1;have H2:=ah h2;have H3:=ah h3;have H4:=ah h4;have HP:=ah hP;have RQ:=ah hXr;have ML:=ah hbn;have HDD:=ah ZW;have hgr:=hP.vY;obtain⟨b0,b1,b2,b3⟩:=hP.box.cells;simp only at b0 b1 b2 b3;clear h1 h2 h3 h4 hb1 hb2 hb3 hb4 hbn ZW;by_cases hlt:k<n
  .obtain⟨bs,os,o,hA,hbl,ho,_⟩:=HX.out.at_ hlt;subst hA;have OO:=ah hbl;have HO:=ah ho;have HIO:=ah (fun hw=>HIT.out hw o (List.mem_of_getElem? ho))
   obtain⟨_,_,o',hA',_,ho',c0,c1,c2⟩:=hXr.at_ hlt;injection hA' with hA';injection hA' with e1 e2 _;subst e1;subst e2;rw[HO.out] at ho';injection ho' with ho';subst ho';have hsu:=vG (r:=r) ho;rw[HDD.out] at hsu;have Vh:=ah hsu;have hkn:(k:Int)< (n:Int):=by omega
   have hk0:(0:Int)<=(k:Int):=by omega
   obtain⟨tx,kd,it⟩:=o;simp only at c0 c1 c2;obtain⟨bd,aaU⟩: ∃b,(D.dead.any fun y=>y==tx)=b:=⟨_,rfl⟩
   have XM:=ah aaU;have L3:=Later.cell b3;have C0:=Later.cell c0;have hrk:aM wr Ak nk D.dead:=aM.aH (hP.aO.Ow H4.out) (by omega)
   have HRK:=ah hrk;have hhi: ∀u:Later wr,Calls Tryz.prog 59 #[.slice Ak nk ck,.int .i64 tx] u.1 fun e w'=>e=.returned (.bool bd)/\Below u.1.heap.size u.1 w':=fun u=>by
    have:=xk Ak nk ck D.dead tx u.1 (HRK.out.later u);rw[XM.out] at this;exact this
   have HHI:=ah hhi;clear hP hXr ho hsu aaU hrk hhi b0 b1 b2 b3 c0 c1 c2;go_wp2_with fail
   refine aQ ?_;repeat(go_big_quiet_step ((go_at_call 59;exact aA _ (HHI.out _))))
   refine wpQuiet_nil ?_;rintro _ ⟨u,rfl⟩;have iA:=ah (HP.out.below u.2);have LD:=ah (RQ.out.below u.2 aj);obtain⟨w2,hw2⟩: ∃w2:World,u.1=w2:=⟨_,rfl⟩;rw[hw2] at iA LD ⊢;clear hw2 L3 C0 HHI HRK HP RQ;cases bd
   .have hst:jL r D ⟨tx,kd,it⟩=if(opsOf D.wait tx).isEmpty then b_ r (gP r D ⟨tx,kd,it⟩) else fQ D ⟨tx,kd,it⟩:=by
     unfold jL;simp only;rw[if_neg (by rw[XM.out];simp)]
    have HST:=ah hst;clear hst;obtain⟨d0,d1,d2,d3⟩:=iA.out.box.cells;obtain⟨_,_,o',hA',_,ho',c0,c1,c2⟩:=LD.out.at_ hlt;injection hA' with hA';injection hA' with e1 e2 _;subst e1;subst e2;rw[HO.out] at ho';injection ho' with ho';subst ho';simp only at d0 d1 d2 d3 c0 c1 c2;obtain⟨wd,hwd⟩: ∃wd:World,wd=w2.drew:=⟨_,rfl⟩;have mJ:Hid (Pk w DV.nil w.heap.size (w.heap.size+1) w.heap.size wd ⟨.slice Ad nd cd,.slice Aw nw cw,.slice Al nl cl,.slice Ak nk ck⟩ D):=by show Pk _ _ _ _ _ _ _ _;rw[hwd];exact iA.out.drew
    have Qo:Hid (aC wd (some ⟨bs,os,none⟩) n s):=by show aC _ _ _ _;rw[hwd];exact LD.out
    have lY:=ah hwd;clear hwd;obtain⟨MI,YE⟩: ∃M,opsOf D.wait tx=M:=⟨_,rfl⟩;have YF:=DX Aw nw cw D.wait tx wd (aC.aH (mJ.out.aO.dh H2.out) (by omega))
    rw[YE] at YF;obtain⟨q,hq⟩: ∃q,MI.length=q:=⟨_,rfl⟩;have HQ:=ah hq;have RN:=ah YE;have Vg:=ah YF;clear YF YE hq;try go_wp2_with fail
    refine wp_region_still_tail 7 (by kernel_rfl) (by kernel_rfl) ?_
    simp only[List.take_succ_cons,List.take_zero,List.drop_succ_cons,List.drop_zero];repeat(first|still_step|fail)
    refine wpStill_nil ?_;change wpList _ _ _ _ _ w2.drew;rw[<-lY.out];by_cases hq0:q=0
    .subst hq0;have hemp:(opsOf D.wait tx).isEmpty=true:=by rw[RN.out,List.eq_nil_of_length_eq_zero HQ.out];rfl
     have Qp:=ah hemp;clear hemp d0 d1 d2 d3 c0 c1 c2;go_wp2_with (go_at_call 60;go_loud (refine Vg.out.mono ?_;rintro e w3 ⟨MA,mc,rfl,hmc,_,hb3⟩;rw[HQ.out] at hmc ⊢;have iB:=ah (mJ.out.below hb3);have z8:=ah (Qo.out.below hb3 aj);clear hb3 mJ Qo lY))
     obtain⟨wd,hwd⟩: ∃wd:World,wd=w3.drew:=⟨_,rfl⟩;have mJ:Hid (Pk w DV.nil w.heap.size (w.heap.size+1) w.heap.size wd ⟨.slice Ad nd cd,.slice Aw nw cw,.slice Al nl cl,.slice Ak nk ck⟩ D):=by show Pk _ _ _ _ _ _ _ _;rw[hwd];exact iB.out.drew
     have Qo:Hid (aC wd (some ⟨bs,os,none⟩) n s):=by show aC _ _ _ _;rw[hwd];exact z8.out
     have lY:=ah hwd;clear hwd;obtain⟨d0,d1,d2,d3⟩:=mJ.out.box.cells;obtain⟨_,_,o',hA',_,ho',c0,c1,c2⟩:=Qo.out.at_ hlt;injection hA' with hA';injection hA' with e1 e2 _;subst e1;subst e2;rw[HO.out] at ho';injection ho' with ho';subst ho';simp only at d0 d1 d2 d3 c0 c1 c2;have hak:=WB.out w.heap.size _ D ⟨tx,kd,it⟩ wd mJ.out.aO (show D.av.length<=8000 by have:=H3.out;omega) (show D.done.length<=8000 by have:=H1.out;omega) (show D.wait.length<=8000 by have:=H2.out;omega) (show D.dead.length<=8000 by have:=H4.out;omega)
     simp only[DV.val,ay.val] at hak;have ZX:=ah hak;clear hak;try go_wp2_with fail
     refine wp_region_any (by kernel_rfl) ?_
     change wpAny _ _ _ _ _ _ _ (World.drew _);rw[<-lY.out];refine bH 0 ?_;refine bH 1 ?_;refine bH 3 ?_;refine bH 4 ?_;refine bH 5 ?_;refine uW 2 6 (fun K hK=>?_) fun K hK=>?_
     .go_simp;try(refine hK _ _ ?_;clear hK K)
      refine cK 6 fun K hK=>?_
      go_simp;try(refine hK _ _ ?_;clear hK K)
      refine cK 7 fun K hK=>?_
      go_simp;clear d0 d1 d2 d3 c0 c1 c2;go_wp2_with (go_at_call 62;go_loud (refine ZX.out.mono ?_;rintro e w4 ⟨V4,rfl,hD4,XD⟩;have TU:=ML.out.ask r ⟨tx,kd,it⟩;have hre:=aaT.out (6*k+6) (by omega) _ _ V4 _ w4 hD4 TU (Nat.lt_succ_self _) (fun hw=>zO (nK.out hw) (HIO.out hw));obtain⟨Ad4,Aw4,Al4,Ak4,nd4,nw4,nl4,nk4,cd4,cw4,cl4,ck4,rfl,_⟩:=hD4.forms;simp only[DV.val] at hre;have HRE:=ah hre;have HS4:=ah XD;clear hre XD hD4 TU;unfold DV.val;simp only))
      try(refine hK _ _ ?_;clear hK K)
      refine cK 8 fun K hK=>?_
      go_simp;go_wp2_with (go_at_call 61;go_loud (refine HRE.out.mono ?_;rintro e w5 ⟨V5,rfl,hD5,hS5⟩;obtain⟨Cj,Ck,Cm,Cn,Co,Cq,Cr,Ct,Cu,Cv,Cw,Cx,rfl,_⟩:=hD5.forms;have hSt:=HS4.out.trans hS5;obtain⟨uJ,_,_⟩:=mJ.out.mid hSt;have hX5:=hSt.ops Qo.out (fun ad had=>by injection had with had;subst had;exact mJ.out.aO.low OO.out);have XO:=mJ.out.put hD5 hSt;have hx5:aC (bI w5 (w.heap.size+1) ⟨.slice Cj Co Cu,.slice Ck Cq Cv,.slice Cm Cr Cw,.slice Cn Ct Cx⟩) (some ⟨bs,os,none⟩) n s:=(OM hX5 OO.out _);simp only[bI] at XO hx5;obtain⟨y0,y1,y2,y3⟩:=uJ.cells;simp only at y0 y1 y2 y3;have s0:=uJ.soft 0;have s1:=uJ.soft 1;have s2:=uJ.soft 2;have s3:=uJ.soft 3;have HF:=ah (And.intro XO hx5);clear hSt uJ hX5 XO hx5 hS5 hD5;unfold DV.val;simp only))
      try(refine hK _ _ ?_;clear hK K)
      refine cK 9 fun K hK=>?_
      go_simp;try(refine hK _ _ ?_;clear hK K)
      refine bM ?_;try go_simp
      go_wp2_with fail
      go_roundw
      case rel=>exact⟨k+1,_,by omega,by go_num,by rw[Vh.out,HST.out,if_pos Qp.out];exact HF.out.1,HF.out.2⟩
      case measure=>simp[intOf];omega
     .go_simp;try(refine hK _ _ ?_;clear hK K)
      refine cK 2 fun K hK=>?_
      go_simp;try(refine hK _ _ ?_;clear hK K)
      refine cK 7 fun K hK=>?_
      go_simp;clear d0 d1 d2 d3 c0 c1 c2;go_wp2_with (go_at_call 62;go_loud (refine ZX.out.mono ?_;rintro e w4 ⟨V4,rfl,hD4,XD⟩;have TU:=ML.out.ask r ⟨tx,kd,it⟩;have hre:=aaT.out (6*k+6) (by omega) _ _ V4 _ w4 hD4 TU (Nat.lt_succ_self _) (fun hw=>zO (nK.out hw) (HIO.out hw));obtain⟨Ad4,Aw4,Al4,Ak4,nd4,nw4,nl4,nk4,cd4,cw4,cl4,ck4,rfl,_⟩:=hD4.forms;simp only[DV.val] at hre;have HRE:=ah hre;have HS4:=ah XD;clear hre XD hD4 TU;unfold DV.val;simp only))
      try(refine hK _ _ ?_;clear hK K)
      refine cK 8 fun K hK=>?_
      go_simp;go_wp2_with (go_at_call 61;go_loud (refine HRE.out.mono ?_;rintro e w5 ⟨V5,rfl,hD5,hS5⟩;obtain⟨Cj,Ck,Cm,Cn,Co,Cq,Cr,Ct,Cu,Cv,Cw,Cx,rfl,_⟩:=hD5.forms;have hSt:=HS4.out.trans hS5;obtain⟨uJ,_,_⟩:=mJ.out.mid hSt;have hX5:=hSt.ops Qo.out (fun ad had=>by injection had with had;subst had;exact mJ.out.aO.low OO.out);have XO:=mJ.out.put hD5 hSt;have hx5:aC (bI w5 (w.heap.size+1) ⟨.slice Cj Co Cu,.slice Ck Cq Cv,.slice Cm Cr Cw,.slice Cn Ct Cx⟩) (some ⟨bs,os,none⟩) n s:=(OM hX5 OO.out _);simp only[bI] at XO hx5;obtain⟨y0,y1,y2,y3⟩:=uJ.cells;simp only at y0 y1 y2 y3;have s0:=uJ.soft 0;have s1:=uJ.soft 1;have s2:=uJ.soft 2;have s3:=uJ.soft 3;have HF:=ah (And.intro XO hx5);clear hSt uJ hX5 XO hx5 hS5 hD5;unfold DV.val;simp only))
      try(refine hK _ _ ?_;clear hK K)
      refine cK 9 fun K hK=>?_
      go_simp;try(refine hK _ _ ?_;clear hK K)
      refine bM ?_;try go_simp
      go_wp2_with fail
      go_roundw
      case rel=>exact⟨k+1,_,by omega,by go_num,by rw[Vh.out,HST.out,if_pos Qp.out];exact HF.out.1,HF.out.2⟩
      case measure=>simp[intOf];omega
    .have hemp:(opsOf D.wait tx).isEmpty=false:=by
      rw[RN.out];cases MI with
      |nil=>exact absurd HQ.out.symm hq0
      |cons _ _=>rfl
     have Qp:=ah hemp;clear hemp d0 d1 d2 d3 c0 c1 c2;go_wp2_with (go_at_call 60;go_loud (refine Vg.out.mono ?_;rintro e w3 ⟨MA,mc,rfl,hmc,_,hb3⟩;rw[HQ.out] at hmc ⊢;have iB:=ah (mJ.out.below hb3);have z8:=ah (Qo.out.below hb3 aj);clear hb3 mJ Qo lY))
     obtain⟨wd,hwd⟩: ∃wd:World,wd=w3.drew:=⟨_,rfl⟩;have mJ:Hid (Pk w DV.nil w.heap.size (w.heap.size+1) w.heap.size wd ⟨.slice Ad nd cd,.slice Aw nw cw,.slice Al nl cl,.slice Ak nk ck⟩ D):=by show Pk _ _ _ _ _ _ _ _;rw[hwd];exact iB.out.drew
     have Qo:Hid (aC wd (some ⟨bs,os,none⟩) n s):=by show aC _ _ _ _;rw[hwd];exact z8.out
     have lY:=ah hwd;clear hwd;try go_wp2_with fail
     obtain⟨d0,d1,d2,d3⟩:=mJ.out.box.cells;obtain⟨_,_,o',hA',_,ho',c0,c1,c2⟩:=Qo.out.at_ hlt;injection hA' with hA';injection hA' with e1 e2 _;subst e1;subst e2;rw[HO.out] at ho';injection ho' with ho';subst ho';simp only at d0 d1 d2 d3 c0 c1 c2;have Y6:=mJ.out.aO.base;have hgd:w.heap.size+1<wd.heap.size:=mJ.out.vY.1;refine wp_region_any (by kernel_rfl) ?_
     change wpAny _ _ _ _ _ _ _ (World.drew _);rw[<-lY.out];refine bH 0 ?_;refine bH 2 ?_;refine bH 3 ?_;refine bH 4 ?_;refine uW 1 5 (fun K hK=>?_) fun K hK=>?_
     .go_simp;try(refine hK _ _ ?_;clear hK K)
      refine cK 5 fun K hK=>?_
      go_simp;try(refine hK _ _ ?_;clear hK K)
      refine cK 6 fun K hK=>?_
      go_simp;try(refine hK _ _ ?_;clear hK K)
      refine cK 7 fun K hK=>?_
      refine aS (.tmp 33) (.tmp 38) (c:=1) ((mJ.out.aO.dh (n:=nw) H2.out).alloc _) (Nat.le_trans mJ.out.aO.base (by simp)) (aC.dB _ ⟨_,_,_⟩ _) ?_ ?_ ?_ ?_ ?_ ?_
      .omega
      .rfl
      .rfl
      .rfl
      .rfl
      intro v8 w8 jD DW uz;obtain⟨A8,c8,rfl,hc8⟩:=aD jD;have Ky: ∀ad,(some ⟨bs,os,none⟩:Option Addr)=some ad->(Value.slice Aw nw cw).ownBlock≠some ad.block:=(fun ad had=>by injection had with had;subst had;exact(mJ.out.aO.low OO.out).2.1);have XP:=(Qo.out.below (aG.alloc aj (.cells #[.int .i64 tx,.int .i64 kd,.int .i64 it] 89)) aj).grown DW Ky;obtain⟨xY,_,J8⟩:=(mJ.out.alloc (.cells #[.int .i64 tx,.int .i64 kd,.int .i64 it] 89)).nY DW jD uz;obtain⟨q0,q1,q2,q3⟩:=xY.cells;simp only at q0 q1 q2 q3;have f1:=xY.soft 1;have XQ:aC (w8.setCell ⟨w.heap.size+1,1,none⟩ (.slice A8 (nw+1) c8)) (some ⟨bs,os,none⟩) n s:=XP.grown fA (fun ad had e=>by injection had with had;subst had;injection e with e;simp at e;have:=OO.out;omega);have HF:=ah (And.intro J8 XQ);clear xY J8 XP XQ Ky DW jD uz
      try(refine hK _ _ ?_;clear hK K)
      refine cK 8 fun K hK=>?_
      go_simp;try(refine hK _ _ ?_;clear hK K)
      refine cK 9 fun K hK=>?_
      go_simp;try(refine hK _ _ ?_;clear hK K)
      refine bM ?_;try go_simp
      go_wp2_with fail
      go_roundw
      case rel=>exact⟨k+1,_,by omega,by go_num,by rw[Vh.out,HST.out,if_neg (by rw[Qp.out];simp)];exact HF.out.1,HF.out.2⟩
      case measure=>simp[intOf];omega
     .go_simp;try(refine hK _ _ ?_;clear hK K)
      refine uW 1 6 (fun K hK=>?_) fun K hK=>?_
      .go_simp;try(refine hK _ _ ?_;clear hK K)
       refine cK 6 fun K hK=>?_
       go_simp;try(refine hK _ _ ?_;clear hK K)
       refine cK 7 fun K hK=>?_
       refine aS (.tmp 33) (.tmp 38) (c:=1) ((mJ.out.aO.dh (n:=nw) H2.out).alloc _) (Nat.le_trans mJ.out.aO.base (by simp)) (aC.dB _ ⟨_,_,_⟩ _) ?_ ?_ ?_ ?_ ?_ ?_
       .omega
       .rfl
       .rfl
       .rfl
       .rfl
       intro v8 w8 jD DW uz;obtain⟨A8,c8,rfl,hc8⟩:=aD jD;have Ky: ∀ad,(some ⟨bs,os,none⟩:Option Addr)=some ad->(Value.slice Aw nw cw).ownBlock≠some ad.block:=(fun ad had=>by injection had with had;subst had;exact(mJ.out.aO.low OO.out).2.1);have XP:=(Qo.out.below (aG.alloc aj (.cells #[.int .i64 tx,.int .i64 kd,.int .i64 it] 89)) aj).grown DW Ky;obtain⟨xY,_,J8⟩:=(mJ.out.alloc (.cells #[.int .i64 tx,.int .i64 kd,.int .i64 it] 89)).nY DW jD uz;obtain⟨q0,q1,q2,q3⟩:=xY.cells;simp only at q0 q1 q2 q3;have f1:=xY.soft 1;have XQ:aC (w8.setCell ⟨w.heap.size+1,1,none⟩ (.slice A8 (nw+1) c8)) (some ⟨bs,os,none⟩) n s:=XP.grown fA (fun ad had e=>by injection had with had;subst had;injection e with e;simp at e;have:=OO.out;omega);have HF:=ah (And.intro J8 XQ);clear xY J8 XP XQ Ky DW jD uz
       try(refine hK _ _ ?_;clear hK K)
       refine cK 8 fun K hK=>?_
       go_simp;try(refine hK _ _ ?_;clear hK K)
       refine cK 9 fun K hK=>?_
       go_simp;try(refine hK _ _ ?_;clear hK K)
       refine bM ?_;try go_simp
       go_wp2_with fail
       go_roundw
       case rel=>exact⟨k+1,_,by omega,by go_num,by rw[Vh.out,HST.out,if_neg (by rw[Qp.out];simp)];exact HF.out.1,HF.out.2⟩
       case measure=>simp[intOf];omega
      .go_simp;try(refine hK _ _ ?_;clear hK K)
       refine cK 1 fun K hK=>?_
       go_simp;try(refine hK _ _ ?_;clear hK K)
       refine cK 7 fun K hK=>?_
       refine aS (.tmp 33) (.tmp 38) (c:=1) ((mJ.out.aO.dh (n:=nw) H2.out).alloc _) (Nat.le_trans mJ.out.aO.base (by simp)) (aC.dB _ ⟨_,_,_⟩ _) ?_ ?_ ?_ ?_ ?_ ?_
       .omega
       .rfl
       .rfl
       .rfl
       .rfl
       intro v8 w8 jD DW uz;obtain⟨A8,c8,rfl,hc8⟩:=aD jD;have Ky: ∀ad,(some ⟨bs,os,none⟩:Option Addr)=some ad->(Value.slice Aw nw cw).ownBlock≠some ad.block:=(fun ad had=>by injection had with had;subst had;exact(mJ.out.aO.low OO.out).2.1);have XP:=(Qo.out.below (aG.alloc aj (.cells #[.int .i64 tx,.int .i64 kd,.int .i64 it] 89)) aj).grown DW Ky;obtain⟨xY,_,J8⟩:=(mJ.out.alloc (.cells #[.int .i64 tx,.int .i64 kd,.int .i64 it] 89)).nY DW jD uz;obtain⟨q0,q1,q2,q3⟩:=xY.cells;simp only at q0 q1 q2 q3;have f1:=xY.soft 1;have XQ:aC (w8.setCell ⟨w.heap.size+1,1,none⟩ (.slice A8 (nw+1) c8)) (some ⟨bs,os,none⟩) n s:=XP.grown fA (fun ad had e=>by injection had with had;subst had;injection e with e;simp at e;have:=OO.out;omega);have HF:=ah (And.intro J8 XQ);clear xY J8 XP XQ Ky DW jD uz
       try(refine hK _ _ ?_;clear hK K)
       refine cK 8 fun K hK=>?_
       go_simp;try(refine hK _ _ ?_;clear hK K)
       refine cK 9 fun K hK=>?_
       go_simp;try(refine hK _ _ ?_;clear hK K)
       refine bM ?_;try go_simp
       go_wp2_with fail
       go_roundw
       case rel=>exact⟨k+1,_,by omega,by go_num,by rw[Vh.out,HST.out,if_neg (by rw[Qp.out];simp)];exact HF.out.1,HF.out.2⟩
       case measure=>simp[intOf];omega
   .have hst:jL r D ⟨tx,kd,it⟩=D:=by unfold jL;simp only;rw[if_pos XM.out]
    have HST:=ah hst;clear hst;go_wp2_with fail
    go_roundw
    case rel=>exact⟨k+1,_,by omega,by go_num,by rw[Vh.out,HST.out];exact iA.out,LD.out⟩
    case measure=>simp[intOf];omega
  .have e:s.take k=s:=List.take_of_length_le (by have:=HL.out;omega)
   have hDs:dO r s=D:=by rw[<-HDD.out,e]
   obtain⟨y0,y1,y2,y3⟩:=hP.res.cells;unfold DV.nil at y0 y1 y2 y3;simp only at y0 y1 y2 y3;have s0:=hP.res.soft 0;have s1:=hP.res.soft 1;have s2:=hP.res.soft 2;have s3:=hP.res.soft 3;have hF:=hP.pO;simp only[bI] at hF;have HF:=ah hF;have HDS:=ah hDs;clear hP hXr hF e hDs;go_wp2_with fail
   obtain⟨d0,d1,d2,d3⟩:=HF.out.2.2.cells;simp only at d0 d1 d2 d3;refine bodyPost_ret (v:=.agg #[.slice Ad nd cd,.slice Aw nw cw,.slice Al nl cl,.slice Ak nk ck]) (by simp[results,Tryz.results36,go_sem,d0,d1,d2,d3]) rfl ?_
   rw[HDS.out];exact⟨⟨.slice Ad nd cd,.slice Aw nw cw,.slice Al nl cl,.slice Ak nk ck⟩,rfl,HF.out.1,HF.out.2.1.Qn⟩
theorem IL (A:Option Addr)(n c:Nat)(s:List ay)(w:World)(hx:aC w A n s)(hn:n<=100)
 (hres: ∀ (N:Nat),N<=1000-> ∀ (n B:Nat) (V:DV) (D:bY) (w:World),aP w B V D->nN D N->qW D<n->Calls Tryz.prog 61 #[.string dQ.die.str,V.val] w (yJ w B V (b_ .die D))):
 Calls Tryz.prog 36 #[.string dQ.die.str,.slice A n c] w (yR w (dO .die s)):=
 sH .die A n c s w hx hn (fun h=>by cases h) (fun B V D o w h h1 h2 h3 h4=>Wh B V D o w h (by omega) (by omega) (by omega) (by omega)) (fun N hN n B V D w h h1 h2 h3=>hres N hN n B V D w h h1 h2)
theorem Fw (A:Option Addr)(n c:Nat)(s:List ay)(w:World)(hx:aC w A n s)(hn:n<=100)
 (hres: ∀ (N:Nat),N<=1000-> ∀ (n B:Nat) (V:DV) (D:bY) (w:World),aP w B V D->nN D N->qW D<n->Calls Tryz.prog 61 #[.string dQ.wait.str,V.val] w (yJ w B V (b_ .wait D))):
 Calls Tryz.prog 36 #[.string dQ.wait.str,.slice A n c] w (yR w (dO .wait s)):=
 sH .wait A n c s w hx hn (fun h=>by cases h) (fun B V D o w h h1 h2 h3 h4=>Tf B V D o w h (by omega) (by omega) (by omega) (by omega)) (fun N hN n B V D w h h1 h2 h3=>hres N hN n B V D w h h1 h2)
def Eb (L:List ay)(o:ay):List ay:=if aK o then iT L o.tx else(if aL L o.tx o.item<o.kind then L++ [⟨o.tx,o.kind,o.item⟩] else L)++ [⟨o.tx,3+o.kind,o.item⟩]
theorem oM {o:ay}(h:aJ o=true)(he:aK o=false):0<=o.kind/\o.kind<=1:=by
 unfold aJ at h;rw[he] at h;simp only[Bool.and_eq_true,Bool.or_eq_true,Bool.false_and,bU,beq_iff_eq] at h;rcases h.2 with h1|h1
 .omega
 .cases h1
section
variable {w:World} {ops:Array Oper} {o:Oper} {a:Act} {K:Act->World->Prop} {Q:Exit->Act->World->Prop} {E:Prop}
theorem xO (s x:Operand){base:Nat}{v:Value}{n:Nat}{xs:List ay}(hown:w.ownsRow base 154 3 v n (aB xs))(hbase:base<=w.heap.size)
 {A:Option Addr} {m c:Nat} {ys:List ay} (hr:aC w A m ys) (hn:n<=1099511627776)
 (hgd:o.guard=none) (ho:o.op=.call { callee:=.builtin .append,args:= #[s,x],argTypes:= #[65,65] }) (hs:a.eval s=v) (hx:a.eval x=.slice A m c)
 (h: ∀v' w',w'.ownsRow base 154 3 v' (n+m) (aB (xs++ys))->w.grownBy w' v.ownBlock->(v'.ownBlock=v.ownBlock\/v'.ownBlock=some w.heap.size)->K (a.put o.dst v') w'):
 if Region.wanted o (yielded ops a.tmps)=true then Oper.wp Tryz.prog o a w K Q else E:=by
 obtain⟨i0,hi,hz0,hz1,hz2⟩:=info_parts J4;have hm:=hr.2.1;refine yM hgd s x _ ho base _ i0 _ 3 24 Tryz.underlying65 hi hz0 hz1 hz2 rfl (by decide) v n _ hs hown A m c _ hx hr.src (by simp only[maxLen];omega) (by omega) hbase ?_
 intro v' w' h1 h2 h3;rw[<-iC] at h1;exact h v' w' h1 h2 h3
end
section
variable {w:World} {ops:Array Oper} {o:Oper} {a:Act} {K:Act->World->Prop} {Q:Exit->Act->World->Prop} {E:Prop}
end
theorem vN (st:List ay)(t x:Int):aL st t x<=1:=by
 have: ∀ (l:List ay) (a:Int),a<=1->l.foldl (gB t x) a<=1:=by
  intro l;induction l with
  |nil=>exact fun a h=>h
  |cons s r ih=>
   intro a h;rw[List.foldl_cons];refine ih _ ?_;unfold gB;split
   .split
    .omega
    .split<;>omega
   .exact h
 exact this st (-1) (by omega)
open Go.RowKit
def TV (t:Int)(o:ay):Bool:=o.tx==t&&decide (o.kind<=1)
def Y7 (a b:ay):Prop:= ¬(a.tx=b.tx/\a.kind=2/\b.kind<=1)
instance (a b:ay):Decidable (Y7 a b):=by unfold Y7;infer_instance
def Alone (p:List ay):Prop:= ∀t u x:Int,t≠u->aL p t x=1->aL p u x<0
theorem z_ {p:List ay}{t x least:Int}(h:vw p t x least=false){u:Int}(hu:0<=u/\u<=3)(hne:u≠t):aL p u x<least:=by
 unfold vw at h;rw[List.any_eq_false] at h;have:=h u (by simp;omega)
 simp only[Bool.and_eq_true,bne_iff_ne,decide_eq_true_eq,not_and] at this;have:=this hne;omega
theorem MN {p:List ay}{s:ay}(hp: ∀o∈p,fB o=true)(hs:fB s=true)(ha:Alone p)(hl:yD p s=false):Alone (p++ [s]):=by
 intro t u x hne h1;have hk:=fC.1 hs;rw[jr] at h1 ⊢;have out: ∀v:Int,¬(0<=v/\v<=3)->aL p v x= -1:=fun v hv=>Gb hp (by omega)
 unfold gB at h1 ⊢;by_cases htx:s.tx=t/\s.item=x
 .obtain⟨rfl,rfl⟩:=htx;rw[if_pos ⟨rfl,rfl⟩] at h1;rw[if_neg (by omega)]
  split at h1
  .omega
  .split at h1
   .rename_i h2 h3
    have hk1:s.kind=1:=h1;unfold yD at hl;rw[if_neg (by omega),if_pos hk1,Bool.or_eq_false_iff] at hl
    by_cases hu:0<=u/\u<=3
    .exact z_ hl.2 hu (Ne.symm hne)
    .rw[out u hu];omega
   .exact ha _ u _ hne h1
 .rw[if_neg htx] at h1;have hold:=ha t u x hne h1;by_cases hux:s.tx=u/\s.item=x
  .obtain⟨rfl,rfl⟩:=hux;rw[if_pos ⟨rfl,rfl⟩];split
   .omega
   .split
    .rename_i h2 h3
     exfalso
     have ht3:0<=t/\t<=3:=by
      rcases Classical.em (0<=t/\t<=3) with h|h
      .exact h
      .rw[out t h] at h1;omega
     unfold yD at hl;by_cases h0:s.kind=0
     .rw[if_pos h0,Bool.or_eq_false_iff] at hl;have:=z_ hl.2 ht3 hne;omega
     .rw[if_neg h0,if_pos (by omega),Bool.or_eq_false_iff] at hl
      have:=z_ hl.2 ht3 hne;omega
    .exact hold
  .rw[if_neg hux];exact hold
theorem Qq {st:List ay}(hv: ∀o∈st,fB o=true)(hl: ∀j,j<st.length->oG st j=false): ∀k,k<=st.length->Alone (st.take k):=by
 intro k;induction k with
 |zero=>intro _ t u x _ h;simp[zH] at h
 |succ k ih=>
  intro hk;have e:st[k]? =some (st[k]'(by omega)):=List.getElem?_eq_getElem (by omega)
  generalize st[k]'(by omega)=o at e
  rw[aR e];refine MN (fun q hq=>hv q (List.mem_of_mem_take hq)) (hv o (List.mem_of_getElem? e)) (ih (by omega)) ?_
  have:=hl k (by omega)
  unfold oG at this;rw[e] at this;exact this
theorem comes {st:List ay}{u x:Int}{l:Nat}{o:ay}(h:st[l]? =some o){b:Int}(hb:0<=b)(h0:aL (st.take l) u x<b)(h1:b<=aL (st.take (l+1)) u x):TV u o=true/\o.item=x:=by
 rw[rT h] at h1;unfold gB at h1;split at h1
 .rename_i hc
  split at h1
  .omega
  .split at h1
   .rename_i h3
    exact⟨by simp[TV,hc.1,h3],hc.2⟩
   .omega
 .omega
theorem goes {st:List ay}{t x:Int}{j:Nat}{o:ay}(hv: ∀o∈st,fB o=true)(h:st[j]? =some o)(hl:oG st j=false){b:Int}(hb:0<=b)(h0:b<=aL (st.take j) t x)(h1:aL (st.take (j+1)) t x<b):o.tx=t/\o.kind=2:=by
 have hk:=fC.1 (hv o (List.mem_of_getElem? h));have hr:=nX (st:=st.take j) (fun q hq=>hv q (List.mem_of_mem_take hq)) t x
 unfold oG at hl;rw[h] at hl;simp only at hl;rw[rT h] at h1;unfold gB at h1;split at h1
 .rename_i hc
  refine⟨hc.1,?_⟩;split at h1
  .assumption
  .split at h1
   .exfalso
    unfold yD at hl;rw[hc.1,hc.2] at hl;by_cases k0:o.kind=0
    .rw[if_pos k0,Bool.or_eq_false_iff,decide_eq_false_iff_not] at hl;omega
    .omega
   .omega
 .omega
theorem WC {L:List ay}{t u:Int} :Cf L t u↔ ¬ L.Pairwise (fun a b=> ¬(fH a b=true/\a.tx=t/\b.tx=u)):=by
 rw[List.pairwise_iff_getElem];constructor
 .rintro⟨i,k,a,b,hik,ha,hb,r⟩ h;obtain⟨h1,e1⟩:=List.getElem?_eq_some_iff.1 ha;obtain⟨h2,e2⟩:=List.getElem?_eq_some_iff.1 hb;have:=h i k h1 h2 hik;rw[e1,e2] at this;exact this r
 .intro h;apply Classical.byContradiction
  intro hn;refine h fun i k h1 h2 hik r=>hn ⟨i,k,_,_,hik,List.getElem?_eq_getElem h1,List.getElem?_eq_getElem h2,r⟩
theorem Cf.sub {L M:List ay}{t u:Int}(h:Cf M t u)(hs:List.Sublist M L):Cf L t u:=by
 rw[WC] at h ⊢;exact fun hp=>h (hp.sublist hs)
theorem Qr {s:List ay}{a b:ay}(ha:a∈s)(hb:b∈s)(h:fG s a.tx=fG s b.tx):a.tx=b.tx:=by
 obtain⟨q,hq,e⟩:=vg ha;obtain⟨p,hp,e'⟩:=vg hb;rw[h,hp] at hq;injection hq with hq;rw[<-e,<-e',hq]
theorem Cf.serial {s:List ay}(hs:jk s=true){L:List ay}(hL:List.Sublist L s){t u:Int}(h:Cf L t u):fG s t<fG s u:=by
 have h2:=h.sub hL;obtain⟨i,k,a,b,hik,ha,hb,hc,rfl,rfl⟩:=h2;have hp:=Mf hs;rw[List.pairwise_iff_getElem] at hp;obtain⟨h1,e1⟩:=List.getElem?_eq_some_iff.1 ha;obtain⟨h3,e3⟩:=List.getElem?_eq_some_iff.1 hb;have:=hp i k h1 h3 hik;rw[e1,e3] at this;rcases Nat.lt_or_ge (fG s a.tx) (fG s b.tx) with h'|h'
 .exact h'
 .exact absurd (Qr (List.mem_of_getElem? ha) (List.mem_of_getElem? hb) (Nat.le_antisymm this h')) h.ne
theorem GH {o:ay}(h:bU o=true):aK o=false:=by
 simp only[bU,Bool.or_eq_true,beq_iff_eq] at h;simp only[aK,Bool.or_eq_false_iff,beq_eq_false_iff_ne];omega
end Go.Proofs.YtddkjbibjjehjaaGreatDoor
