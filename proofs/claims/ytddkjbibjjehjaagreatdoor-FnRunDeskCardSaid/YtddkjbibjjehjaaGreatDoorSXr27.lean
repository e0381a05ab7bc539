/-
  Texts that the proof rests on, joined: part 27.
-/
import Derived.Test.YtddkjbibjjehjaaGreatDoorSXr26
set_option maxHeartbeats 16000000
set_option maxRecDepth 100000
namespace Go.Proofs.YtddkjbibjjehjaaGreatDoor
open Go.RowKit Go.BigFrame
set_option linter.unusedVariables false
theorem Ae (B R tg:Nat)(m:Value)(V:DV)(D:bY)(o:ay)(w:World)(h:bO w B R tg m V D)(hv:aJ o=true)(hL:D.av.length<=8000)(hN:D.done.length<=9000):
 Calls Tryz.prog 185 #[.pointer (some ⟨R,0,none⟩),o.val] w (GJ B R tg m V w (bK D o)):=by
 obtain⟨htx,hkd,hit⟩:=dW hv;have hen:=CV o;obtain⟨tx,kd,it⟩:=o;simp only at htx hkd hit;obtain⟨T,rfl⟩:=Int.eq_ofNat_of_zero_le htx.1;have Bc:T<=3:=by omega
 have Wm:(T:Int)<4:=by omega
 have hT0:(0:Int)<=(T:Int):=by omega
 obtain⟨W,hW⟩: ∃W:World,W=w.alloc (.cells #[.int .i64 (T:Int),.int .i64 kd,.int .i64 it] 89):=⟨_,rfl⟩;have hbW:Below w.heap.size w W:=by rw[hW];exact aG.alloc aj _
 have hbx:au W w.heap.size 89 [.int .i64 (T:Int),.int .i64 kd,.int .i64 it] :=by rw[hW];exact heap_alloc_new w _
 have bF:=h.far aj;have HW:=ah hW;have HA:=ah h;have iD:=ah hbx;have HEN:=ah (hen W);have hok:=ah h.ok;clear hW hbx hv h hen;unfold ay.val at HEN ⊢;simp only at HEN ⊢;go_enter Tryz.func185,Tryz.ntmps185;go_wp2_with fail
 rw[<-HW.out];refine HEN.out.mono ?_;rintro e w1 ⟨rfl,hb1⟩;have aaV:Below w.heap.size w w1:=hbW.trans (hb1.mono hbW.size);have hbk:=au.below iD.out hb1 aj;have hA:=HA.out.eZ aaV;have hS:lK R tg w V w1 V:=lK.of_below R tg V aaV;clear HEN HA hb1 hbW;rcases hkd with rfl|rfl|hkd
 .obtain⟨hx0,hx2⟩:=hit (by omega)
  obtain⟨X,rfl⟩:=Int.eq_ofNat_of_zero_le hx0;have hX2:X<=2:=by omega
  have Y9:(X:Int)<3:=by omega
  have hie:aK ⟨(T:Int),0,(X:Int)⟩=false:=by unfold aK;simp
  have hgl:dM D.av ⟨(T:Int),0,(X:Int)⟩=if aL D.av (T:Int) (X:Int)<0 then D.av++ [⟨(T:Int),0,(X:Int)⟩] else D.av:=by unfold dM;rw[if_neg (by rw[hie];simp)]
  have hrg:=nX hok.out (T:Int) (X:Int);obtain⟨h,hh⟩: ∃h,aL D.av (T:Int) (X:Int)=h:=⟨_,rfl⟩;rw[hh] at hgl hrg;have HH:=ah hh;rw[hie];have CB:=ah hbk;have EO:=ah hA;have RX:=ah hS;clear hh hbk hA hS hie;have n0: ∀u:Later w1,u.1.cell? ⟨w.heap.size,0,none⟩=some (.int .i64 (T:Int)):=fun u=>au.cell (au.below CB.out u.2 aj) rfl
  have n1: ∀u:Later w1,u.1.cell? ⟨w.heap.size,1,none⟩=some (.int .i64 0):=fun u=>au.cell (au.below CB.out u.2 aj) rfl
  have n2: ∀u:Later w1,u.1.cell? ⟨w.heap.size,2,none⟩=some (.int .i64 (X:Int)):=fun u=>au.cell (au.below CB.out u.2 aj) rfl
  have n3: ∀u:Later w1,u.1.cell? ⟨R,4,none⟩=some (.pointer (some ⟨tg,0,none⟩)):=fun u=>(EO.out.eZ u.2).cells.2.2.2.2.1
  have n4: ∀u:Later w1,u.1.cell? ⟨tg,T*3+X,none⟩=some (.int .i64 h):=fun u=>by have:=(EO.out.eZ u.2).lock Bc hX2;rw[HH.out] at this;exact this
  by_cases hlo:h<0
  .have hbt:(h== -1)=true:=by simp;omega
   rw[if_pos hlo] at hgl;have HG:=ah hgl;clear hgl hlo hrg;go_wp2_with fail
   refine aQ ?_;repeat(go_big_quiet_step (fail))
   refine wpQuiet_nil ?_;rintro _ ⟨u,rfl⟩;clear n0 n1 n2 n3 n4;have ni:=ah (au.below CB.out u.2 aj);have qw:=ah (EO.out.eZ u.2);have wm:=ah (RX.out.eZ u.2);obtain⟨wu,D8⟩: ∃q:World,u.1=q:=⟨_,rfl⟩;rw[D8] at ni qw wm ⊢;clear D8 CB EO RX;have hput:=IW B R tg m V D ⟨(T:Int),0,(X:Int)⟩ wu qw.out (fC.2 (by simp only;omega)) (by omega)
   unfold ay.val at hput;simp only at hput;have MS:=ah hput;obtain⟨p0,p2⟩:wu.cell? ⟨w.heap.size,0,none⟩=some (.int .i64 (T:Int))/\wu.cell? ⟨w.heap.size,2,none⟩=some (.int .i64 (X:Int)):=⟨au.cell ni.out rfl,au.cell ni.out rfl⟩;clear hput;go_wp2_with fail
   refine MS.out.mono ?_;rintro e w5 ⟨rfl,V5,qZ,hS5⟩;have hsz:=wm.out.size;have hbk:=hS5.row ni.out bF.1 bF.2.1 bF.2.2;have hS:=wm.out.trans hS5;clear MS ni wm qw hS5 p0 p2;obtain⟨mO,l7,qB,pW,kX,lG,qC,pz,mP,mQ,qD,pX,rfl,_,f1,f2,f3,f4⟩:=qZ.forms;obtain⟨wd,hwd⟩: ∃wd:World,wd=w5.drew:=⟨_,rfl⟩;have hbd:Below w5.heap.size w5 wd:=by rw[hwd];exact aG.drew
   have hbl:Below w5.heap.size w5 (wd.alloc (.cells #[.int .i64 (T:Int),.int .i64 0,.int .i64 (X:Int)] 89)):=hbd.alloc hbd.size _;have r0:wd.cell? ⟨R,0,none⟩=some (.slice mO kX mP):=au.cell (au.below qZ.box hbd aj) rfl;have r1:(wd.alloc (.cells #[.int .i64 (T:Int),.int .i64 0,.int .i64 (X:Int)] 89)).cell? ⟨R,0,none⟩=some (.slice mO kX mP):=au.cell (au.below qZ.box hbl aj) rfl;have b0:wd.cell? ⟨w.heap.size,0,none⟩=some (.int .i64 (T:Int)):=au.cell (au.below hbk hbd aj) rfl;have b1:wd.cell? ⟨w.heap.size,1,none⟩=some (.int .i64 0):=au.cell (au.below hbk hbd aj) rfl;have b2:wd.cell? ⟨w.heap.size,2,none⟩=some (.int .i64 (X:Int)):=au.cell (au.below hbk hbd aj) rfl;clear hbk;have HOL:=ah ((qZ.aO.below hbl).doneN f1);have hsl:B<=(wd.alloc (.cells #[.int .i64 (T:Int),.int .i64 0,.int .i64 (X:Int)] 89)).heap.size:=(qZ.aO.below hbl).base;have oU:=ah (qZ.eZ hbl);have HSL:=ah (hS.eZ hbl);have lY:=ah hwd;have hnn:kX<=30000:=by first|omega|(simp only at f1 f2 f3 f4;omega)
   clear qZ hS hwd hbd hbl f1 f2 f3 f4;go_wp2_with fail
   refine wp_region_any (by kernel_rfl) ?_
   change wpAny _ _ _ _ _ _ _ (World.drew _);rw[<-lY.out];refine bH 0 ?_;refine bH 1 ?_;refine bH 2 ?_;refine bH 3 ?_;refine bH 4 ?_;refine uW 5 6 (fun K hK=>?_) fun K hK=>?_
   .skip;go_simp;try(refine hK _ _ ?_;clear hK K)
    refine cK 6 fun K hK=>?_
    go_simp;try(refine hK _ _ ?_;clear hK K)
    refine cK 7 fun K hK=>?_
    go_simp;try(refine hK _ _ ?_;clear hK K)
    refine cK 8 fun K hK=>?_
    refine aS (.tmp 68) (.tmp 70) (c:=1) HOL.out (by omega) (aC.dB _ ⟨(T:Int),0,(X:Int)⟩ _) ?_ ?_ ?_ ?_ ?_ ?_
    .omega
    .rfl
    .rfl
    .rfl
    .rfl
    intro v3 w3 hown3 hg3 aU;obtain⟨⟨e0,e1⟩,hA3,eu⟩:=oU.out.iF hg3 hown3 aU;obtain⟨A3,c3,rfl,_⟩:=aD hown3;have HF:=ah (And.intro hA3 (HSL.out.trans eu));clear hA3 eu hg3 hown3 aU;try(refine hK _ _ ?_;clear hK K)
    refine bH 9 ?_;refine bH 10 ?_;refine bH 11 ?_;refine cK 12 fun K hK=>?_
    go_simp;try(refine hK _ _ ?_;clear hK K)
    refine bM ?_;try go_simp
    go_end0
    exact⟨rfl,_,by unfold bK;simp only;rw[HG.out];exact HF.out.1,HF.out.2⟩
   .skip;go_simp;try(refine hK _ _ ?_;clear hK K)
    refine uW 5 7 (fun K hK=>?_) fun K hK=>?_
    .skip;go_simp;try(refine hK _ _ ?_;clear hK K)
     refine cK 7 fun K hK=>?_
     go_simp;try(refine hK _ _ ?_;clear hK K)
     refine cK 8 fun K hK=>?_
     refine aS (.tmp 68) (.tmp 70) (c:=1) HOL.out (by omega) (aC.dB _ ⟨(T:Int),0,(X:Int)⟩ _) ?_ ?_ ?_ ?_ ?_ ?_
     .omega
     .rfl
     .rfl
     .rfl
     .rfl
     intro v3 w3 hown3 hg3 aU;obtain⟨⟨e0,e1⟩,hA3,eu⟩:=oU.out.iF hg3 hown3 aU;obtain⟨A3,c3,rfl,_⟩:=aD hown3;have HF:=ah (And.intro hA3 (HSL.out.trans eu));clear hA3 eu hg3 hown3 aU;try(refine hK _ _ ?_;clear hK K)
     refine bH 9 ?_;refine bH 10 ?_;refine bH 11 ?_;refine cK 12 fun K hK=>?_
     go_simp;try(refine hK _ _ ?_;clear hK K)
     refine bM ?_;try go_simp
     go_end0
     exact⟨rfl,_,by unfold bK;simp only;rw[HG.out];exact HF.out.1,HF.out.2⟩
    .skip;go_simp;try(refine hK _ _ ?_;clear hK K)
     refine cK 5 fun K hK=>?_
     go_simp;try(refine hK _ _ ?_;clear hK K)
     refine cK 8 fun K hK=>?_
     refine aS (.tmp 68) (.tmp 70) (c:=1) HOL.out (by omega) (aC.dB _ ⟨(T:Int),0,(X:Int)⟩ _) ?_ ?_ ?_ ?_ ?_ ?_
     .omega
     .rfl
     .rfl
     .rfl
     .rfl
     intro v3 w3 hown3 hg3 aU;obtain⟨⟨e0,e1⟩,hA3,eu⟩:=oU.out.iF hg3 hown3 aU;obtain⟨A3,c3,rfl,_⟩:=aD hown3;have HF:=ah (And.intro hA3 (HSL.out.trans eu));clear hA3 eu hg3 hown3 aU;try(refine hK _ _ ?_;clear hK K)
     refine bH 9 ?_;refine bH 10 ?_;refine bH 11 ?_;refine cK 12 fun K hK=>?_
     go_simp;try(refine hK _ _ ?_;clear hK K)
     refine bM ?_;try go_simp
     go_end0
     exact⟨rfl,_,by unfold bK;simp only;rw[HG.out];exact HF.out.1,HF.out.2⟩
  .have hbt:(h== -1)=false:=by simp;omega
   rw[if_neg hlo] at hgl;have HG:=ah hgl;clear hgl hlo hrg;go_wp2_with fail
   refine aQ ?_;repeat(go_big_quiet_step (fail))
   refine wpQuiet_nil ?_;rintro _ ⟨u,rfl⟩;clear n0 n1 n2 n3 n4;have ni:=ah (au.below CB.out u.2 aj);have qw:=ah (EO.out.eZ u.2);have wm:=ah (RX.out.eZ u.2);obtain⟨wu,D8⟩: ∃q:World,u.1=q:=⟨_,rfl⟩;rw[D8] at ni qw wm ⊢;clear D8 CB EO RX;have n01: ∀u:Later wu,u.1.cell? ⟨w.heap.size,0,none⟩=some (.int .i64 (T:Int)):=fun u=>au.cell (au.below ni.out u.2 aj) rfl
   have n11: ∀u:Later wu,u.1.cell? ⟨w.heap.size,1,none⟩=some (.int .i64 0):=fun u=>au.cell (au.below ni.out u.2 aj) rfl
   have n21: ∀u:Later wu,u.1.cell? ⟨w.heap.size,2,none⟩=some (.int .i64 (X:Int)):=fun u=>au.cell (au.below ni.out u.2 aj) rfl
   have n31: ∀u:Later wu,u.1.cell? ⟨R,4,none⟩=some (.pointer (some ⟨tg,0,none⟩)):=fun u=>(qw.out.eZ u.2).cells.2.2.2.2.1
   have n41: ∀u:Later wu,u.1.cell? ⟨tg,T*3+X,none⟩=some (.int .i64 h):=fun u=>by have:=(qw.out.eZ u.2).lock Bc hX2;rw[HH.out] at this;exact this
   go_wp2_with fail
   refine aQ ?_;repeat(go_big_quiet_step (fail))
   refine wpQuiet_nil ?_;rintro _ ⟨z,rfl⟩;clear n01 n11 n21 n31 n41;have Af:=ah (au.below ni.out z.2 aj);have Eh:=ah (qw.out.eZ z.2);have BQ:=ah (wm.out.eZ z.2);obtain⟨wz,D8⟩: ∃q:World,z.1=q:=⟨_,rfl⟩;rw[D8] at Af Eh BQ ⊢;clear D8 ni qw wm;have hbk:=Af.out;have hS:=BQ.out;have hA:=Eh.out;clear Af BQ Eh;obtain⟨mO,l7,qB,pW,kX,lG,qC,pz,mP,mQ,qD,pX,rfl,_,f1,f2,f3,f4⟩:=hA.forms;obtain⟨wd,hwd⟩: ∃wd:World,wd=wz.drew:=⟨_,rfl⟩;have hbd:Below wz.heap.size wz wd:=by rw[hwd];exact aG.drew
   have hbl:Below wz.heap.size wz (wd.alloc (.cells #[.int .i64 (T:Int),.int .i64 0,.int .i64 (X:Int)] 89)):=hbd.alloc hbd.size _;have r0:wd.cell? ⟨R,0,none⟩=some (.slice mO kX mP):=au.cell (au.below hA.box hbd aj) rfl;have r1:(wd.alloc (.cells #[.int .i64 (T:Int),.int .i64 0,.int .i64 (X:Int)] 89)).cell? ⟨R,0,none⟩=some (.slice mO kX mP):=au.cell (au.below hA.box hbl aj) rfl;have b0:wd.cell? ⟨w.heap.size,0,none⟩=some (.int .i64 (T:Int)):=au.cell (au.below hbk hbd aj) rfl;have b1:wd.cell? ⟨w.heap.size,1,none⟩=some (.int .i64 0):=au.cell (au.below hbk hbd aj) rfl;have b2:wd.cell? ⟨w.heap.size,2,none⟩=some (.int .i64 (X:Int)):=au.cell (au.below hbk hbd aj) rfl;clear hbk;have HOL:=ah ((hA.aO.below hbl).doneN f1);have hsl:B<=(wd.alloc (.cells #[.int .i64 (T:Int),.int .i64 0,.int .i64 (X:Int)] 89)).heap.size:=(hA.aO.below hbl).base;have oU:=ah (hA.eZ hbl);have HSL:=ah (hS.eZ hbl);have lY:=ah hwd;have hnn:kX<=30000:=by first|omega|(simp only at f1 f2 f3 f4;omega)
   clear hA hS hwd hbd hbl f1 f2 f3 f4;go_wp2_with fail
   refine wp_region_any (by kernel_rfl) ?_
   change wpAny _ _ _ _ _ _ _ (World.drew _);rw[<-lY.out];refine bH 0 ?_;refine bH 1 ?_;refine bH 2 ?_;refine bH 3 ?_;refine bH 4 ?_;refine uW 5 6 (fun K hK=>?_) fun K hK=>?_
   .skip;go_simp;try(refine hK _ _ ?_;clear hK K)
    refine cK 6 fun K hK=>?_
    go_simp;try(refine hK _ _ ?_;clear hK K)
    refine cK 7 fun K hK=>?_
    go_simp;try(refine hK _ _ ?_;clear hK K)
    refine cK 8 fun K hK=>?_
    refine aS (.tmp 68) (.tmp 70) (c:=1) HOL.out (by omega) (aC.dB _ ⟨(T:Int),0,(X:Int)⟩ _) ?_ ?_ ?_ ?_ ?_ ?_
    .omega
    .rfl
    .rfl
    .rfl
    .rfl
    intro v3 w3 hown3 hg3 aU;obtain⟨⟨e0,e1⟩,hA3,eu⟩:=oU.out.iF hg3 hown3 aU;obtain⟨A3,c3,rfl,_⟩:=aD hown3;have HF:=ah (And.intro hA3 (HSL.out.trans eu));clear hA3 eu hg3 hown3 aU;try(refine hK _ _ ?_;clear hK K)
    refine bH 9 ?_;refine bH 10 ?_;refine bH 11 ?_;refine cK 12 fun K hK=>?_
    go_simp;try(refine hK _ _ ?_;clear hK K)
    refine bM ?_;try go_simp
    go_end0
    exact⟨rfl,_,by unfold bK;simp only;rw[HG.out];exact HF.out.1,HF.out.2⟩
   .skip;go_simp;try(refine hK _ _ ?_;clear hK K)
    refine uW 5 7 (fun K hK=>?_) fun K hK=>?_
    .skip;go_simp;try(refine hK _ _ ?_;clear hK K)
     refine cK 7 fun K hK=>?_
     go_simp;try(refine hK _ _ ?_;clear hK K)
     refine cK 8 fun K hK=>?_
     refine aS (.tmp 68) (.tmp 70) (c:=1) HOL.out (by omega) (aC.dB _ ⟨(T:Int),0,(X:Int)⟩ _) ?_ ?_ ?_ ?_ ?_ ?_
     .omega
     .rfl
     .rfl
     .rfl
     .rfl
     intro v3 w3 hown3 hg3 aU;obtain⟨⟨e0,e1⟩,hA3,eu⟩:=oU.out.iF hg3 hown3 aU;obtain⟨A3,c3,rfl,_⟩:=aD hown3;have HF:=ah (And.intro hA3 (HSL.out.trans eu));clear hA3 eu hg3 hown3 aU;try(refine hK _ _ ?_;clear hK K)
     refine bH 9 ?_;refine bH 10 ?_;refine bH 11 ?_;refine cK 12 fun K hK=>?_
     go_simp;try(refine hK _ _ ?_;clear hK K)
     refine bM ?_;try go_simp
     go_end0
     exact⟨rfl,_,by unfold bK;simp only;rw[HG.out];exact HF.out.1,HF.out.2⟩
    .skip;go_simp;try(refine hK _ _ ?_;clear hK K)
     refine cK 5 fun K hK=>?_
     go_simp;try(refine hK _ _ ?_;clear hK K)
     refine cK 8 fun K hK=>?_
     refine aS (.tmp 68) (.tmp 70) (c:=1) HOL.out (by omega) (aC.dB _ ⟨(T:Int),0,(X:Int)⟩ _) ?_ ?_ ?_ ?_ ?_ ?_
     .omega
     .rfl
     .rfl
     .rfl
     .rfl
     intro v3 w3 hown3 hg3 aU;obtain⟨⟨e0,e1⟩,hA3,eu⟩:=oU.out.iF hg3 hown3 aU;obtain⟨A3,c3,rfl,_⟩:=aD hown3;have HF:=ah (And.intro hA3 (HSL.out.trans eu));clear hA3 eu hg3 hown3 aU;try(refine hK _ _ ?_;clear hK K)
     refine bH 9 ?_;refine bH 10 ?_;refine bH 11 ?_;refine cK 12 fun K hK=>?_
     go_simp;try(refine hK _ _ ?_;clear hK K)
     refine bM ?_;try go_simp
     go_end0
     exact⟨rfl,_,by unfold bK;simp only;rw[HG.out];exact HF.out.1,HF.out.2⟩
 .obtain⟨hx0,hx2⟩:=hit (by omega)
  obtain⟨X,rfl⟩:=Int.eq_ofNat_of_zero_le hx0;have hX2:X<=2:=by omega
  have Y9:(X:Int)<3:=by omega
  have hie:aK ⟨(T:Int),1,(X:Int)⟩=false:=by unfold aK;simp
  have hgl:dM D.av ⟨(T:Int),1,(X:Int)⟩=if aL D.av (T:Int) (X:Int)<1 then D.av++ [⟨(T:Int),1,(X:Int)⟩] else D.av:=by unfold dM;rw[if_neg (by rw[hie];simp)]
  have hrg:=nX hok.out (T:Int) (X:Int);obtain⟨h,hh⟩: ∃h,aL D.av (T:Int) (X:Int)=h:=⟨_,rfl⟩;rw[hh] at hgl hrg;have HH:=ah hh;rw[hie];have CB:=ah hbk;have EO:=ah hA;have RX:=ah hS;clear hh hbk hA hS hie;have n0: ∀u:Later w1,u.1.cell? ⟨w.heap.size,0,none⟩=some (.int .i64 (T:Int)):=fun u=>au.cell (au.below CB.out u.2 aj) rfl
  have n1: ∀u:Later w1,u.1.cell? ⟨w.heap.size,1,none⟩=some (.int .i64 1):=fun u=>au.cell (au.below CB.out u.2 aj) rfl
  have n2: ∀u:Later w1,u.1.cell? ⟨w.heap.size,2,none⟩=some (.int .i64 (X:Int)):=fun u=>au.cell (au.below CB.out u.2 aj) rfl
  have n3: ∀u:Later w1,u.1.cell? ⟨R,4,none⟩=some (.pointer (some ⟨tg,0,none⟩)):=fun u=>(EO.out.eZ u.2).cells.2.2.2.2.1
  have n4: ∀u:Later w1,u.1.cell? ⟨tg,T*3+X,none⟩=some (.int .i64 h):=fun u=>by have:=(EO.out.eZ u.2).lock Bc hX2;rw[HH.out] at this;exact this
  by_cases hlo:h<1
  .have hbt:(h !=1)=true:=by simp;omega
   rw[if_pos hlo] at hgl;have HG:=ah hgl;clear hgl hlo hrg;go_wp2_with fail
   refine aQ ?_;repeat(go_big_quiet_step (fail))
   refine wpQuiet_nil ?_;rintro _ ⟨u,rfl⟩;clear n0 n1 n2 n3 n4;have ni:=ah (au.below CB.out u.2 aj);have qw:=ah (EO.out.eZ u.2);have wm:=ah (RX.out.eZ u.2);obtain⟨wu,D8⟩: ∃q:World,u.1=q:=⟨_,rfl⟩;rw[D8] at ni qw wm ⊢;clear D8 CB EO RX;have n01: ∀u:Later wu,u.1.cell? ⟨w.heap.size,0,none⟩=some (.int .i64 (T:Int)):=fun u=>au.cell (au.below ni.out u.2 aj) rfl
   have n11: ∀u:Later wu,u.1.cell? ⟨w.heap.size,1,none⟩=some (.int .i64 1):=fun u=>au.cell (au.below ni.out u.2 aj) rfl
   have n21: ∀u:Later wu,u.1.cell? ⟨w.heap.size,2,none⟩=some (.int .i64 (X:Int)):=fun u=>au.cell (au.below ni.out u.2 aj) rfl
   have n31: ∀u:Later wu,u.1.cell? ⟨R,4,none⟩=some (.pointer (some ⟨tg,0,none⟩)):=fun u=>(qw.out.eZ u.2).cells.2.2.2.2.1
   have n41: ∀u:Later wu,u.1.cell? ⟨tg,T*3+X,none⟩=some (.int .i64 h):=fun u=>by have:=(qw.out.eZ u.2).lock Bc hX2;rw[HH.out] at this;exact this
   go_wp2_with fail
   refine aQ ?_;repeat(go_big_quiet_step (fail))
   refine wpQuiet_nil ?_;rintro _ ⟨z,rfl⟩;clear n01 n11 n21 n31 n41;have Af:=ah (au.below ni.out z.2 aj);have Eh:=ah (qw.out.eZ z.2);have BQ:=ah (wm.out.eZ z.2);obtain⟨wz,D8⟩: ∃q:World,z.1=q:=⟨_,rfl⟩;rw[D8] at Af Eh BQ ⊢;clear D8 ni qw wm;have hput:=IW B R tg m V D ⟨(T:Int),1,(X:Int)⟩ wz Eh.out (fC.2 (by simp only;omega)) (by omega)
   unfold ay.val at hput;simp only at hput;have MS:=ah hput;obtain⟨p0,p2⟩:wz.cell? ⟨w.heap.size,0,none⟩=some (.int .i64 (T:Int))/\wz.cell? ⟨w.heap.size,2,none⟩=some (.int .i64 (X:Int)):=⟨au.cell Af.out rfl,au.cell Af.out rfl⟩;clear hput;go_wp2_with fail
   refine MS.out.mono ?_;rintro e w5 ⟨rfl,V5,qZ,hS5⟩;have hsz:=BQ.out.size;have hbk:=hS5.row Af.out bF.1 bF.2.1 bF.2.2;have hS:=BQ.out.trans hS5;clear MS Af BQ Eh hS5 p0 p2;obtain⟨mO,l7,qB,pW,kX,lG,qC,pz,mP,mQ,qD,pX,rfl,_,f1,f2,f3,f4⟩:=qZ.forms;obtain⟨wd,hwd⟩: ∃wd:World,wd=w5.drew:=⟨_,rfl⟩;have hbd:Below w5.heap.size w5 wd:=by rw[hwd];exact aG.drew
   have hbl:Below w5.heap.size w5 (wd.alloc (.cells #[.int .i64 (T:Int),.int .i64 1,.int .i64 (X:Int)] 89)):=hbd.alloc hbd.size _;have r0:wd.cell? ⟨R,0,none⟩=some (.slice mO kX mP):=au.cell (au.below qZ.box hbd aj) rfl;have r1:(wd.alloc (.cells #[.int .i64 (T:Int),.int .i64 1,.int .i64 (X:Int)] 89)).cell? ⟨R,0,none⟩=some (.slice mO kX mP):=au.cell (au.below qZ.box hbl aj) rfl;have b0:wd.cell? ⟨w.heap.size,0,none⟩=some (.int .i64 (T:Int)):=au.cell (au.below hbk hbd aj) rfl;have b1:wd.cell? ⟨w.heap.size,1,none⟩=some (.int .i64 1):=au.cell (au.below hbk hbd aj) rfl;have b2:wd.cell? ⟨w.heap.size,2,none⟩=some (.int .i64 (X:Int)):=au.cell (au.below hbk hbd aj) rfl;clear hbk;have HOL:=ah ((qZ.aO.below hbl).doneN f1);have hsl:B<=(wd.alloc (.cells #[.int .i64 (T:Int),.int .i64 1,.int .i64 (X:Int)] 89)).heap.size:=(qZ.aO.below hbl).base;have oU:=ah (qZ.eZ hbl);have HSL:=ah (hS.eZ hbl);have lY:=ah hwd;have hnn:kX<=30000:=by first|omega|(simp only at f1 f2 f3 f4;omega)
   clear qZ hS hwd hbd hbl f1 f2 f3 f4;go_wp2_with fail
   refine wp_region_any (by kernel_rfl) ?_
   change wpAny _ _ _ _ _ _ _ (World.drew _);rw[<-lY.out];refine bH 0 ?_;refine bH 1 ?_;refine bH 2 ?_;refine bH 3 ?_;refine bH 4 ?_;refine uW 5 6 (fun K hK=>?_) fun K hK=>?_
   .skip;go_simp;try(refine hK _ _ ?_;clear hK K)
    refine cK 6 fun K hK=>?_
    go_simp;try(refine hK _ _ ?_;clear hK K)
    refine cK 7 fun K hK=>?_
    go_simp;try(refine hK _ _ ?_;clear hK K)
    refine cK 8 fun K hK=>?_
    refine aS (.tmp 68) (.tmp 70) (c:=1) HOL.out (by omega) (aC.dB _ ⟨(T:Int),1,(X:Int)⟩ _) ?_ ?_ ?_ ?_ ?_ ?_
    .omega
    .rfl
    .rfl
    .rfl
    .rfl
    intro v3 w3 hown3 hg3 aU;obtain⟨⟨e0,e1⟩,hA3,eu⟩:=oU.out.iF hg3 hown3 aU;obtain⟨A3,c3,rfl,_⟩:=aD hown3;have HF:=ah (And.intro hA3 (HSL.out.trans eu));clear hA3 eu hg3 hown3 aU;try(refine hK _ _ ?_;clear hK K)
    refine bH 9 ?_;refine bH 10 ?_;refine bH 11 ?_;refine cK 12 fun K hK=>?_
    go_simp;try(refine hK _ _ ?_;clear hK K)
    refine bM ?_;try go_simp
    go_end0
    exact⟨rfl,_,by unfold bK;simp only;rw[HG.out];exact HF.out.1,HF.out.2⟩
   .skip;go_simp;try(refine hK _ _ ?_;clear hK K)
    refine uW 5 7 (fun K hK=>?_) fun K hK=>?_
    .skip;go_simp;try(refine hK _ _ ?_;clear hK K)
     refine cK 7 fun K hK=>?_
     go_simp;try(refine hK _ _ ?_;clear hK K)
     refine cK 8 fun K hK=>?_
     refine aS (.tmp 68) (.tmp 70) (c:=1) HOL.out (by omega) (aC.dB _ ⟨(T:Int),1,(X:Int)⟩ _) ?_ ?_ ?_ ?_ ?_ ?_
     .omega
     .rfl
     .rfl
     .rfl
     .rfl
     intro v3 w3 hown3 hg3 aU;obtain⟨⟨e0,e1⟩,hA3,eu⟩:=oU.out.iF hg3 hown3 aU;obtain⟨A3,c3,rfl,_⟩:=aD hown3;have HF:=ah (And.intro hA3 (HSL.out.trans eu));clear hA3 eu hg3 hown3 aU;try(refine hK _ _ ?_;clear hK K)
     refine bH 9 ?_;refine bH 10 ?_;refine bH 11 ?_;refine cK 12 fun K hK=>?_
     go_simp;try(refine hK _ _ ?_;clear hK K)
     refine bM ?_;try go_simp
     go_end0
     exact⟨rfl,_,by unfold bK;simp only;rw[HG.out];exact HF.out.1,HF.out.2⟩
    .skip;go_simp;try(refine hK _ _ ?_;clear hK K)
     refine cK 5 fun K hK=>?_
     go_simp;try(refine hK _ _ ?_;clear hK K)
     refine cK 8 fun K hK=>?_
     refine aS (.tmp 68) (.tmp 70) (c:=1) HOL.out (by omega) (aC.dB _ ⟨(T:Int),1,(X:Int)⟩ _) ?_ ?_ ?_ ?_ ?_ ?_
     .omega
     .rfl
     .rfl
     .rfl
     .rfl
     intro v3 w3 hown3 hg3 aU;obtain⟨⟨e0,e1⟩,hA3,eu⟩:=oU.out.iF hg3 hown3 aU;obtain⟨A3,c3,rfl,_⟩:=aD hown3;have HF:=ah (And.intro hA3 (HSL.out.trans eu));clear hA3 eu hg3 hown3 aU;try(refine hK _ _ ?_;clear hK K)
     refine bH 9 ?_;refine bH 10 ?_;refine bH 11 ?_;refine cK 12 fun K hK=>?_
     go_simp;try(refine hK _ _ ?_;clear hK K)
     refine bM ?_;try go_simp
     go_end0
     exact⟨rfl,_,by unfold bK;simp only;rw[HG.out];exact HF.out.1,HF.out.2⟩
  .have hbt:(h !=1)=false:=by simp;omega
   rw[if_neg hlo] at hgl;have HG:=ah hgl;clear hgl hlo hrg;go_wp2_with fail
   refine aQ ?_;repeat(go_big_quiet_step (fail))
   refine wpQuiet_nil ?_;rintro _ ⟨u,rfl⟩;clear n0 n1 n2 n3 n4;have ni:=ah (au.below CB.out u.2 aj);have qw:=ah (EO.out.eZ u.2);have wm:=ah (RX.out.eZ u.2);obtain⟨wu,D8⟩: ∃q:World,u.1=q:=⟨_,rfl⟩;rw[D8] at ni qw wm ⊢;clear D8 CB EO RX;have n01: ∀u:Later wu,u.1.cell? ⟨w.heap.size,0,none⟩=some (.int .i64 (T:Int)):=fun u=>au.cell (au.below ni.out u.2 aj) rfl
   have n11: ∀u:Later wu,u.1.cell? ⟨w.heap.size,1,none⟩=some (.int .i64 1):=fun u=>au.cell (au.below ni.out u.2 aj) rfl
   have n21: ∀u:Later wu,u.1.cell? ⟨w.heap.size,2,none⟩=some (.int .i64 (X:Int)):=fun u=>au.cell (au.below ni.out u.2 aj) rfl
   have n31: ∀u:Later wu,u.1.cell? ⟨R,4,none⟩=some (.pointer (some ⟨tg,0,none⟩)):=fun u=>(qw.out.eZ u.2).cells.2.2.2.2.1
   have n41: ∀u:Later wu,u.1.cell? ⟨tg,T*3+X,none⟩=some (.int .i64 h):=fun u=>by have:=(qw.out.eZ u.2).lock Bc hX2;rw[HH.out] at this;exact this
   go_wp2_with fail
   refine aQ ?_;repeat(go_big_quiet_step (fail))
   refine wpQuiet_nil ?_;rintro _ ⟨z,rfl⟩;clear n01 n11 n21 n31 n41;have Af:=ah (au.below ni.out z.2 aj);have Eh:=ah (qw.out.eZ z.2);have BQ:=ah (wm.out.eZ z.2);obtain⟨wz,D8⟩: ∃q:World,z.1=q:=⟨_,rfl⟩;rw[D8] at Af Eh BQ ⊢;clear D8 ni qw wm;have hbk:=Af.out;have hS:=BQ.out;have hA:=Eh.out;clear Af BQ Eh;obtain⟨mO,l7,qB,pW,kX,lG,qC,pz,mP,mQ,qD,pX,rfl,_,f1,f2,f3,f4⟩:=hA.forms;obtain⟨wd,hwd⟩: ∃wd:World,wd=wz.drew:=⟨_,rfl⟩;have hbd:Below wz.heap.size wz wd:=by rw[hwd];exact aG.drew
   have hbl:Below wz.heap.size wz (wd.alloc (.cells #[.int .i64 (T:Int),.int .i64 1,.int .i64 (X:Int)] 89)):=hbd.alloc hbd.size _;have r0:wd.cell? ⟨R,0,none⟩=some (.slice mO kX mP):=au.cell (au.below hA.box hbd aj) rfl;have r1:(wd.alloc (.cells #[.int .i64 (T:Int),.int .i64 1,.int .i64 (X:Int)] 89)).cell? ⟨R,0,none⟩=some (.slice mO kX mP):=au.cell (au.below hA.box hbl aj) rfl;have b0:wd.cell? ⟨w.heap.size,0,none⟩=some (.int .i64 (T:Int)):=au.cell (au.below hbk hbd aj) rfl;have b1:wd.cell? ⟨w.heap.size,1,none⟩=some (.int .i64 1):=au.cell (au.below hbk hbd aj) rfl;have b2:wd.cell? ⟨w.heap.size,2,none⟩=some (.int .i64 (X:Int)):=au.cell (au.below hbk hbd aj) rfl;clear hbk;have HOL:=ah ((hA.aO.below hbl).doneN f1);have hsl:B<=(wd.alloc (.cells #[.int .i64 (T:Int),.int .i64 1,.int .i64 (X:Int)] 89)).heap.size:=(hA.aO.below hbl).base;have oU:=ah (hA.eZ hbl);have HSL:=ah (hS.eZ hbl);have lY:=ah hwd;have hnn:kX<=30000:=by first|omega|(simp only at f1 f2 f3 f4;omega)
   clear hA hS hwd hbd hbl f1 f2 f3 f4;go_wp2_with fail
   refine wp_region_any (by kernel_rfl) ?_
   change wpAny _ _ _ _ _ _ _ (World.drew _);rw[<-lY.out];refine bH 0 ?_;refine bH 1 ?_;refine bH 2 ?_;refine bH 3 ?_;refine bH 4 ?_;refine uW 5 6 (fun K hK=>?_) fun K hK=>?_
   .skip;go_simp;try(refine hK _ _ ?_;clear hK K)
    refine cK 6 fun K hK=>?_
    go_simp;try(refine hK _ _ ?_;clear hK K)
    refine cK 7 fun K hK=>?_
    go_simp;try(refine hK _ _ ?_;clear hK K)
    refine cK 8 fun K hK=>?_
    refine aS (.tmp 68) (.tmp 70) (c:=1) HOL.out (by omega) (aC.dB _ ⟨(T:Int),1,(X:Int)⟩ _) ?_ ?_ ?_ ?_ ?_ ?_
    .omega
    .rfl
    .rfl
    .rfl
    .rfl
    intro v3 w3 hown3 hg3 aU;obtain⟨⟨e0,e1⟩,hA3,eu⟩:=oU.out.iF hg3 hown3 aU;obtain⟨A3,c3,rfl,_⟩:=aD hown3;have HF:=ah (And.intro hA3 (HSL.out.trans eu));clear hA3 eu hg3 hown3 aU;try(refine hK _ _ ?_;clear hK K)
    refine bH 9 ?_;refine bH 10 ?_;refine bH 11 ?_;refine cK 12 fun K hK=>?_
    go_simp;try(refine hK _ _ ?_;clear hK K)
    refine bM ?_;try go_simp
    go_end0
    exact⟨rfl,_,by unfold bK;simp only;rw[HG.out];exact HF.out.1,HF.out.2⟩
   .skip;go_simp;try(refine hK _ _ ?_;clear hK K)
    refine uW 5 7 (fun K hK=>?_) fun K hK=>?_
    .skip;go_simp;try(refine hK _ _ ?_;clear hK K)
     refine cK 7 fun K hK=>?_
     go_simp;try(refine hK _ _ ?_;clear hK K)
     refine cK 8 fun K hK=>?_
     refine aS (.tmp 68) (.tmp 70) (c:=1) HOL.out (by omega) (aC.dB _ ⟨(T:Int),1,(X:Int)⟩ _) ?_ ?_ ?_ ?_ ?_ ?_
     .omega
     .rfl
     .rfl
     .rfl
     .rfl
     intro v3 w3 hown3 hg3 aU;obtain⟨⟨e0,e1⟩,hA3,eu⟩:=oU.out.iF hg3 hown3 aU;obtain⟨A3,c3,rfl,_⟩:=aD hown3;have HF:=ah (And.intro hA3 (HSL.out.trans eu));clear hA3 eu hg3 hown3 aU;try(refine hK _ _ ?_;clear hK K)
     refine bH 9 ?_;refine bH 10 ?_;refine bH 11 ?_;refine cK 12 fun K hK=>?_
     go_simp;try(refine hK _ _ ?_;clear hK K)
     refine bM ?_;try go_simp
     go_end0
     exact⟨rfl,_,by unfold bK;simp only;rw[HG.out];exact HF.out.1,HF.out.2⟩
    .skip;go_simp;try(refine hK _ _ ?_;clear hK K)
     refine cK 5 fun K hK=>?_
     go_simp;try(refine hK _ _ ?_;clear hK K)
     refine cK 8 fun K hK=>?_
     refine aS (.tmp 68) (.tmp 70) (c:=1) HOL.out (by omega) (aC.dB _ ⟨(T:Int),1,(X:Int)⟩ _) ?_ ?_ ?_ ?_ ?_ ?_
     .omega
     .rfl
     .rfl
     .rfl
     .rfl
     intro v3 w3 hown3 hg3 aU;obtain⟨⟨e0,e1⟩,hA3,eu⟩:=oU.out.iF hg3 hown3 aU;obtain⟨A3,c3,rfl,_⟩:=aD hown3;have HF:=ah (And.intro hA3 (HSL.out.trans eu));clear hA3 eu hg3 hown3 aU;try(refine hK _ _ ?_;clear hK K)
     refine bH 9 ?_;refine bH 10 ?_;refine bH 11 ?_;refine cK 12 fun K hK=>?_
     go_simp;try(refine hK _ _ ?_;clear hK K)
     refine bM ?_;try go_simp
     go_end0
     exact⟨rfl,_,by unfold bK;simp only;rw[HG.out];exact HF.out.1,HF.out.2⟩
 .have hie:aK ⟨(T:Int),kd,it⟩=true:=by unfold aK;simp;omega
  have HG:Hid (dM D.av ⟨(T:Int),kd,it⟩=iT D.av (T:Int)):=by show _=_;unfold dM;rw[if_pos hie]
  have hfr:=KL B R tg m V D T w1 hA Bc hL;have zy:=ah hfr;have CB:=ah hbk;have RX:=ah hS;rw[hie];have d0:w1.cell? ⟨w.heap.size,0,none⟩=some (.int .i64 (T:Int)):=au.cell hbk rfl;clear hfr hbk hS hA hie;go_wp2_with fail
  refine zy.out.mono ?_;rintro e w2 ⟨rfl,V2,hA2,hS2⟩;have hbk:=hS2.row CB.out bF.1 bF.2.1 bF.2.2;have hS:=RX.out.trans hS2;clear zy CB RX hS2 d0;obtain⟨mO,l7,qB,pW,kX,lG,qC,pz,mP,mQ,qD,pX,rfl,_,f1,f2,f3,f4⟩:=hA2.forms;obtain⟨wd,hwd⟩: ∃wd:World,wd=w2.drew:=⟨_,rfl⟩;have hbd:Below w2.heap.size w2 wd:=by rw[hwd];exact aG.drew
  have hbl:Below w2.heap.size w2 (wd.alloc (.cells #[.int .i64 (T:Int),.int .i64 kd,.int .i64 it] 89)):=hbd.alloc hbd.size _;have r0:wd.cell? ⟨R,0,none⟩=some (.slice mO kX mP):=au.cell (au.below hA2.box hbd aj) rfl;have r1:(wd.alloc (.cells #[.int .i64 (T:Int),.int .i64 kd,.int .i64 it] 89)).cell? ⟨R,0,none⟩=some (.slice mO kX mP):=au.cell (au.below hA2.box hbl aj) rfl;have b0:wd.cell? ⟨w.heap.size,0,none⟩=some (.int .i64 (T:Int)):=au.cell (au.below hbk hbd aj) rfl;have b1:wd.cell? ⟨w.heap.size,1,none⟩=some (.int .i64 kd):=au.cell (au.below hbk hbd aj) rfl;have b2:wd.cell? ⟨w.heap.size,2,none⟩=some (.int .i64 it):=au.cell (au.below hbk hbd aj) rfl;clear hbk;have HOL:=ah ((hA2.aO.below hbl).doneN f1);have hsl:B<=(wd.alloc (.cells #[.int .i64 (T:Int),.int .i64 kd,.int .i64 it] 89)).heap.size:=(hA2.aO.below hbl).base;have oU:=ah (hA2.eZ hbl);have HSL:=ah (hS.eZ hbl);have lY:=ah hwd;have hnn:kX<=30000:=by first|omega|(simp only at f1 f2 f3 f4;omega)
  clear hA2 hS hwd hbd hbl f1 f2 f3 f4;go_wp2_with fail
  refine wp_region_any (by kernel_rfl) ?_
  change wpAny _ _ _ _ _ _ _ (World.drew _);rw[<-lY.out];refine bH 0 ?_;refine bH 1 ?_;refine bH 2 ?_;refine bH 3 ?_;refine bH 4 ?_;refine uW 5 6 (fun K hK=>?_) fun K hK=>?_
  .skip;go_simp;try(refine hK _ _ ?_;clear hK K)
   refine cK 6 fun K hK=>?_
   go_simp;try(refine hK _ _ ?_;clear hK K)
   refine cK 7 fun K hK=>?_
   go_simp;try(refine hK _ _ ?_;clear hK K)
   refine cK 8 fun K hK=>?_
   refine aS (.tmp 68) (.tmp 70) (c:=1) HOL.out (by omega) (aC.dB _ ⟨(T:Int),kd,it⟩ _) ?_ ?_ ?_ ?_ ?_ ?_
   .omega
   .rfl
   .rfl
   .rfl
   .rfl
   intro v3 w3 hown3 hg3 aU;obtain⟨⟨e0,e1⟩,hA3,eu⟩:=oU.out.iF hg3 hown3 aU;obtain⟨A3,c3,rfl,_⟩:=aD hown3;have HF:=ah (And.intro hA3 (HSL.out.trans eu));clear hA3 eu hg3 hown3 aU;try(refine hK _ _ ?_;clear hK K)
   refine bH 9 ?_;refine bH 10 ?_;refine bH 11 ?_;refine cK 12 fun K hK=>?_
   go_simp;try(refine hK _ _ ?_;clear hK K)
   refine bM ?_;try go_simp
   go_end0
   exact⟨rfl,_,by unfold bK;simp only;rw[HG.out];exact HF.out.1,HF.out.2⟩
  .skip;go_simp;try(refine hK _ _ ?_;clear hK K)
   refine uW 5 7 (fun K hK=>?_) fun K hK=>?_
   .skip;go_simp;try(refine hK _ _ ?_;clear hK K)
    refine cK 7 fun K hK=>?_
    go_simp;try(refine hK _ _ ?_;clear hK K)
    refine cK 8 fun K hK=>?_
    refine aS (.tmp 68) (.tmp 70) (c:=1) HOL.out (by omega) (aC.dB _ ⟨(T:Int),kd,it⟩ _) ?_ ?_ ?_ ?_ ?_ ?_
    .omega
    .rfl
    .rfl
    .rfl
    .rfl
    intro v3 w3 hown3 hg3 aU;obtain⟨⟨e0,e1⟩,hA3,eu⟩:=oU.out.iF hg3 hown3 aU;obtain⟨A3,c3,rfl,_⟩:=aD hown3;have HF:=ah (And.intro hA3 (HSL.out.trans eu));clear hA3 eu hg3 hown3 aU;try(refine hK _ _ ?_;clear hK K)
    refine bH 9 ?_;refine bH 10 ?_;refine bH 11 ?_;refine cK 12 fun K hK=>?_
    go_simp;try(refine hK _ _ ?_;clear hK K)
    refine bM ?_;try go_simp
    go_end0
    exact⟨rfl,_,by unfold bK;simp only;rw[HG.out];exact HF.out.1,HF.out.2⟩
   .skip;go_simp;try(refine hK _ _ ?_;clear hK K)
    refine cK 5 fun K hK=>?_
    go_simp;try(refine hK _ _ ?_;clear hK K)
    refine cK 8 fun K hK=>?_
    refine aS (.tmp 68) (.tmp 70) (c:=1) HOL.out (by omega) (aC.dB _ ⟨(T:Int),kd,it⟩ _) ?_ ?_ ?_ ?_ ?_ ?_
    .omega
    .rfl
    .rfl
    .rfl
    .rfl
    intro v3 w3 hown3 hg3 aU;obtain⟨⟨e0,e1⟩,hA3,eu⟩:=oU.out.iF hg3 hown3 aU;obtain⟨A3,c3,rfl,_⟩:=aD hown3;have HF:=ah (And.intro hA3 (HSL.out.trans eu));clear hA3 eu hg3 hown3 aU;try(refine hK _ _ ?_;clear hK K)
    refine bH 9 ?_;refine bH 10 ?_;refine bH 11 ?_;refine cK 12 fun K hK=>?_
    go_simp;try(refine hK _ _ ?_;clear hK K)
    refine bM ?_;try go_simp
    go_end0
    exact⟨rfl,_,by unfold bK;simp only;rw[HG.out];exact HF.out.1,HF.out.2⟩
end Go.Proofs.YtddkjbibjjehjaaGreatDoor
