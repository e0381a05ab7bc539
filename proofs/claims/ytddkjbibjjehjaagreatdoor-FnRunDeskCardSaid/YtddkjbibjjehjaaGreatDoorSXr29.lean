/-
  Texts that the proof rests on, joined: part 29.
-/
import Derived.Test.YtddkjbibjjehjaaGreatDoorSXr28
set_option maxHeartbeats 16000000
set_option maxRecDepth 100000
namespace Go.Proofs.YtddkjbibjjehjaaGreatDoor
open Go.RowKit Go.BigFrame
set_option linter.unusedVariables false
def dR:dQ->Value
 | .wait=>.iface 210 (.agg #[])
 | .die=>.iface 211 (.agg #[])
 | .bA=>.iface 212 (.agg #[])
def qO (r:dQ)(d:bY)(o:ay):bY:=if d.dead.any fun y=>y==o.tx then d else if d.wait.any fun p=>p.tx==o.tx then fQ d o else gP r d o
theorem QF (r:dQ)(d:bY)(o:ay)(h:(d.dead.any fun y=>y==o.tx)=true):qO r d o=d:=by unfold qO;rw[if_pos h]
theorem QG (r:dQ)(d:bY)(o:ay)(h:(d.dead.any fun y=>y==o.tx)=false)(h2:(d.wait.any fun p=>p.tx==o.tx)=true):qO r d o=fQ d o:=by unfold qO;rw[if_neg (by rw[h];simp),if_pos h2]
theorem Ul (r:dQ)(d:bY)(o:ay)(h:(d.dead.any fun y=>y==o.tx)=false)(h2:(d.wait.any fun p=>p.tx==o.tx)=false):qO r d o=gP r d o:=by unfold qO;rw[if_neg (by rw[h];simp),if_neg (by rw[h2];simp)]
theorem Um (o:ay)(t:Int)(b:Nat)(w:World)(hc:w.cell? ⟨b,0,none⟩=some (.int .i64 t)):
 Calls Tryz.prog 182 #[o.val,.pointer (some ⟨b,0,none⟩)] w fun e w'=>e=.returned (.bool (o.tx==t))/\Below w.heap.size w w':=by
 obtain⟨x,k,i⟩:=o;unfold ay.val;have hbl:b<w.heap.size:=block_lt_of_cell hc;go_enter Tryz.func182,Tryz.ntmps182;go_wp2_with fail
 go_ret;exact⟨rfl,aG.alloc aj _⟩
theorem GL:Runs 182:=dG Tryz.func182 (by kernel_rfl) rfl
theorem MW (d:bY)(ts:List Int):(bS d ts).done.length=d.done.length+ts.length/\(bS d ts).dead.length=d.dead.length+ts.length/\(bS d ts).wait.length<=d.wait.length/\(bS d ts).av.length<=d.av.length+3*ts.length:=by
 induction ts generalizing d with
 |nil=>exact⟨rfl,rfl,Nat.le_refl _,Nat.le_refl _⟩
 |cons t r ih=>
  obtain⟨h1,h2,h3,h4⟩:=ih (bP d t);have e:bS d (t::r)=bS (bP d t) r:=rfl;have l1:(bP d t).done.length=d.done.length+1:=by simp[bP]
  have l2:(bP d t).dead.length=d.dead.length+1:=by simp[bP]
  have l3:(bP d t).wait.length<=d.wait.length:=List.length_filter_le _ _;have l4:(bP d t).av.length<=d.av.length+3:=lX d.av t;rw[e];simp only[List.length_cons];omega
theorem KN {L:List ay}{t u x:Int}(h:0<=aL (iT L t) u x):aL (iT L t) u x=aL L u x/\(u=t->x<0\/3<=x):=by
 obtain⟨h1,h2⟩:=gL L t u x;by_cases e:u≠t\/x<0\/3<=x
 .exact⟨h1 e,fun hu=>by omega⟩
 .have:=h2 (by omega) (by omega) (by omega)
  omega
theorem Compat.drop {L:List ay}(h:Compat L)(t:Int):Compat (iT L t):=fun a b x hab h1 h2=>by
 have e1:=(KN h1).1;have e2:=(KN (u:=b) (by rw[h2];omega)).1
 exact h a b x hab (by rw[<-e1];exact h1) (by rw[<-e2];exact h2)
theorem sN {d:bY}(ts:List Int)(h:Compat d.av):Compat (bS d ts).av:=by
 induction ts generalizing d with
 |nil=>exact h
 |cons t r ih=>exact ih (d:=bP d t) (h.drop t)
theorem MX (d:bY)(ts:List Int)(u x:Int)(hx:0<=x/\x<=2):(u∈ts->aL (bS d ts).av u x<0)/\(u ∉ ts->aL (bS d ts).av u x=aL d.av u x):=by
 induction ts generalizing d with
 |nil=>exact⟨fun h=>(by cases h),fun _=>rfl⟩
 |cons t r ih=>
  obtain⟨i1,i2⟩:=ih (bP d t);obtain⟨h1,h2⟩:=gL d.av t u x;have e:bS d (t::r)=bS (bP d t) r:=rfl;have e2:(bP d t).av=iT d.av t:=rfl;rw[e];rw[e2] at i2;refine⟨fun h=>?_,fun h=>?_⟩
  .by_cases hr:u∈r
   .exact i1 hr
   .have:u=t:=by
     rcases List.mem_cons.1 h with h|h
     .exact h
     .exact absurd h hr
    rw[i2 hr];exact h2 this (by omega) (by omega)
  .rw[i2 (fun hr=>h (List.mem_cons_of_mem _ hr))]
   exact h1 (.inl fun e=>h (by rw[e];exact List.mem_cons_self))
theorem GN {D:bY}{o:ay}(hc:Compat D.av)(hv:aJ o=true):(aW (bS D ((aW D.av o).filter fun u=>decide (o.tx<u))).av o).isEmpty=((aW D.av o).filter fun u=> !decide (o.tx<u)).isEmpty:=by
 obtain⟨_,hk,hi⟩:=dW hv;cases he:aK o
 .have hkk:o.kind<=1:=by
   unfold aK at he;simp only[Bool.or_eq_false_iff,beq_eq_false_iff_ne] at he;omega
  have hx:=hi hkk;have key: ∀u,u∈aW (bS D ((aW D.av o).filter fun u=>decide (o.tx<u))).av o↔u∈(aW D.av o).filter fun u=> !decide (o.tx<u):=fun u=>by
   obtain⟨k1,k2⟩:=MX D ((aW D.av o).filter fun u=>decide (o.tx<u)) u o.item hx
   rw[List.mem_filter,jK,jK];by_cases hm:u∈(aW D.av o).filter fun u=>decide (o.tx<u)
   .have h1:=k1 hm;obtain⟨_,m2⟩:=List.mem_filter.1 hm;simp only[decide_eq_true_eq] at m2;constructor
    .rintro⟨_,_,_,h4,_⟩;omega
    .rintro⟨_,h5⟩;simp at h5;omega
   .have h1:=k2 hm;rw[h1];constructor
    .intro h;refine⟨h,?_⟩;have: ¬ o.tx<u:=fun hlt=>hm (List.mem_filter.2 ⟨jK.2 h,by simpa using hlt⟩)
     simpa using this
    .exact fun h=>h.1
  rw[Bool.eq_iff_iff,List.isEmpty_iff,List.isEmpty_iff,List.eq_nil_iff_forall_not_mem,List.eq_nil_iff_forall_not_mem];exact⟨fun h u hu=>h u ((key u).2 hu),fun h u hu=>h u ((key u).1 hu)⟩
 .have e: ∀L,aW L o= [] :=fun L=>by unfold aW;rw[if_pos he]
  rw[e,e];rfl
theorem WI (r:dQ)(B R tg:Nat)(V:DV)(D:bY)(o:ay)(w:World)(h:bO w B R tg (dR r) V D)(hv:aJ o=true)(hc:Compat D.av)(hL:D.av.length<=7000)(hN:D.done.length<=8000/\D.wait.length<=8000/\D.dead.length<=8000):
 Calls Tryz.prog 166 #[.pointer (some ⟨R,0,none⟩),o.val] w (GJ B R tg (dR r) V w (qO r D o)):=by
 obtain⟨htx,_,_⟩:=dW hv;have hce:=Um;have Zd:=QF r D o;have QH:=QG r D o;have Xv:=Ul r D o;obtain⟨W,hW⟩: ∃W:World,W=w.alloc (.cells #[.int .i64 o.tx,.int .i64 o.kind,.int .i64 o.item] 89):=⟨_,rfl⟩;have hbW:Below w.heap.size w W:=by rw[hW];exact aG.alloc aj _
 have hbx:au W w.heap.size 89 [.int .i64 o.tx,.int .i64 o.kind,.int .i64 o.item] :=by rw[hW];exact heap_alloc_new w _
 have bF:=h.far aj;have aaX:=fun g (hg:W.heap.size<=g)=>h.far (g:=g) (Nat.le_trans hbW.size hg)
 obtain⟨Ad,Aw,Al,Ak,nd,nw,nl,nk,cd,cw,cl,ck,MZ,hcs,f1,f2,f3,f4⟩:=h.forms;have QI:=h.eZ hbW;have n3: ∀u:Later W,u.1.cell? ⟨R,3,none⟩=some (.slice Ak nk ck):=fun u=>by have:=(QI.eZ u.2).cells.2.2.2.1;rw[MZ] at this;exact this
 have n0: ∀u:Later W,u.1.cell? ⟨w.heap.size,0,none⟩=some (.int .i64 o.tx):=fun u=>au.cell (au.below hbx u.2 aj) rfl
 have hct: ∀u:Later W,Calls Tryz.prog 155 #[.slice Ak nk ck,.int .i64 o.tx] u.1 fun e w'=>e=.returned (.bool (D.dead.any fun y=>y==o.tx))/\Below u.1.heap.size u.1 w':=fun u=>by
  have h1:=(QI.eZ u.2).aO.Ow f4;rw[MZ] at h1;exact iV Ak nk ck D.dead o.tx u.1 (aM.aH h1 (by omega))
 have hcf: ∀u:Later W,Calls Tryz.prog 100 #[.slice Aw nw cw,.func (.func 182) #[] #[.pointer (some ⟨w.heap.size,0,none⟩)]] u.1 fun e w'=>e=.returned (.bool (D.wait.any fun p=>p.tx==o.tx))/\Below u.1.heap.size u.1 w':=fun u=>by
  have h1:=(QI.eZ u.2).aO.dh f2;rw[MZ] at h1;exact gJ Aw nw cw D.wait _ _ _ u.1 (aC.aH h1 (by omega)) ⟨GL,fun X p hX _=>hce p o.tx w.heap.size X (au.cell (au.below hbx (u.2.trans (hX.mono u.2.size)) aj) rfl)⟩
 have n1: ∀u:Later W,u.1.cell? ⟨R,1,none⟩=some (.slice Aw nw cw):=fun u=>by have:=(QI.eZ u.2).cells.2.1;rw[MZ] at this;exact this
 have HCT:=ah hct;have O9:=ah hcf;have HW:=ah hW;have iD:=ah hbx;have HA0:=ah QI;have Dv:=ah hv;have Bh:Hid (lK R tg w V W V):=lK.of_below R tg V hbW;have hrun:=GL;unfold Runs at hrun;have hl1:D.av.length<=7000:=hL;obtain⟨hn1,hn2,hn3⟩:=hN;have HC:=ah hc;have HV1:Hid (∀u:Later W,lK R tg W V u.1 V):=fun u=>lK.of_below R tg V u.2
 obtain⟨tx,kd,it⟩:=o;unfold ay.val;simp only at n0 Zd QH Xv HCT O9 iD HW htx ⊢;obtain⟨T,rfl⟩:=Int.eq_ofNat_of_zero_le htx.1;have Bc:T<=3:=by omega
 obtain⟨tx,En⟩: ∃z:Int,(T:Int)=z:=⟨_,rfl⟩;have XW:=ah En;rw[En] at n0 Zd QH Xv HCT O9 iD HW Dv ⊢;obtain⟨bd,Ze⟩: ∃z,(D.dead.any fun y=>y==tx)=z:=⟨_,rfl⟩
 obtain⟨bw,hbw0⟩: ∃z,(D.wait.any fun p=>p.tx==tx)=z:=⟨_,rfl⟩
 rw[Ze] at Zd HCT;rw[hbw0] at O9 QH;have XM:=ah Ze;have nD:=ah hbw0;clear hct hcf hW hbx QI hv hce h hc htx En Ze hbw0 hcs f1 f2 f3 f4 MZ;go_enter Tryz.func166,Tryz.ntmps166;go_wp2_with fail
 rw[<-HW.out];refine aQ ?_;repeat(go_big_quiet_step ((go_at_call 155;exact aA _ (HCT.out _))))
 refine wpQuiet_nil ?_;rintro _ ⟨u,rfl⟩;cases bd
 .have m1:=n1 u;have Zf:=ah (O9.out u);have HA1:=ah (HA0.out.eZ u.2);have HS1:=ah (HV1.out u);have Oy:=ah u.2.size;obtain⟨w1,hw1⟩: ∃z:World,u.1=z:=⟨_,rfl⟩;rw[hw1] at m1 Zf HA1 HS1 Oy ⊢;clear n0 n1 n3 HCT O9 HA0 HV1 hw1;go_wp2_with fail
  refine Zf.out.mono ?_;rintro e w2 ⟨rfl,hb2⟩;have hA:=HA1.out.eZ hb2;have hS:=HS1.out.eZ hb2;have hs2:W.heap.size<=w2.heap.size:=Nat.le_trans Oy.out hb2.size;clear m1 Zf HA1 HS1 Oy hb2;cases bw
  .have aaY:=Xv XM.out nD.out;have EO:=ah aaY;clear Zd QH Xv aaY;have hiw:=iW B R tg _ V D ⟨tx,kd,it⟩ w2 hA Dv.out HC.out;unfold ay.val at hiw;simp only at hiw;have nK:=ah hiw;have WJ:=hS.row iD.out bF.1 bF.2.1 bF.2.2;obtain⟨q0,q1,q2⟩:w2.cell? ⟨w.heap.size,0,none⟩=some (.int .i64 tx)/\w2.cell? ⟨w.heap.size,1,none⟩=some (.int .i64 kd)/\w2.cell? ⟨w.heap.size,2,none⟩=some (.int .i64 it):=⟨au.cell WJ rfl,au.cell WJ rfl,au.cell WJ rfl⟩;have HA2:=ah hA;have HS2:=ah hS;clear hiw WJ hA hS;go_wp2_with fail
   refine nK.out.mono ?_;rintro e w3 ⟨OA,oc,rfl,hoc,hfr,hb3⟩;have hA:=HA2.out.eZ hb3;have hS:=HS2.out.eZ hb3;have hwl:=rY D.av ⟨tx,kd,it⟩;have hs3:W.heap.size<=w3.heap.size:=Nat.le_trans hs2 hb3.size;have zy:Hid (aM w3 OA (aW D.av ⟨tx,kd,it⟩).length (aW D.av ⟨tx,kd,it⟩)/\ ∀ad,OA=some ad->ad.block≠R/\ad.block≠tg/\eT V ad.block):=⟨hfr.1,fun ad had=>by
    obtain⟨b,_,rfl,hb,_⟩:=hfr.2 ad had;exact aaX b (Nat.le_trans hs2 hb)⟩
   clear nK HA2 HS2 q0 q1 q2 hb3 hfr;cases r
   .have mm:w3.cell? ⟨R,5,none⟩=some (dR .wait):=hA.cells.2.2.2.2.2;unfold dR at mm;simp only at mm;have IZ: ∀X:World,(Instr.typeAssert (.iface 210 (.agg #[])) 150 211 true).run Tryz.prog X=.ok (.tuple #[.agg #[],.bool false]) X:=fun _=>by kernel_rfl
    have KO: ∀X:World,(Instr.typeAssert (.iface 210 (.agg #[])) 150 212 true).run Tryz.prog X=.ok (.tuple #[.agg #[],.bool false]) X:=fun _=>by kernel_rfl
    have M6:Hid ((aW D.av ⟨tx,kd,it⟩).isEmpty=false->qO .wait D ⟨tx,kd,it⟩=fQ D ⟨tx,kd,it⟩):=fun hq=>by rw[EO.out];unfold gP;simp only[hq];rfl
    have Zg:Hid ((aW D.av ⟨tx,kd,it⟩).isEmpty=true->qO .wait D ⟨tx,kd,it⟩=bK D ⟨tx,kd,it⟩):=fun hq=>by rw[EO.out];unfold gP;simp only[hq];rfl
    clear zy hoc;have hiw:=iW B R tg _ V D ⟨tx,kd,it⟩ w3 hA Dv.out HC.out;unfold ay.val at hiw;simp only at hiw;have nK:=ah hiw;have pE:=hS.row iD.out bF.1 bF.2.1 bF.2.2;obtain⟨q0,q1,q2⟩:w3.cell? ⟨w.heap.size,0,none⟩=some (.int .i64 tx)/\w3.cell? ⟨w.heap.size,1,none⟩=some (.int .i64 kd)/\w3.cell? ⟨w.heap.size,2,none⟩=some (.int .i64 it):=⟨au.cell pE rfl,au.cell pE rfl,au.cell pE rfl⟩;have Un:=ah hA;have M7:=ah hS;clear hiw pE hA hS;go_wp2_with fail
    refine nK.out.mono ?_;rintro e w7 ⟨OB,ob,rfl,Gv,_,EP⟩;have nH:=Un.out.eZ EP;have lS:=M7.out.eZ EP;have hwl:=rY D.av ⟨tx,kd,it⟩;obtain⟨nw,hnw⟩: ∃z,(aW D.av ⟨tx,kd,it⟩).length=z:=⟨_,rfl⟩;have QJ:=ah hnw;rw[hnw] at hwl Gv ⊢;clear nK Un M7 EP q0 q1 q2 hnw;by_cases hz:0<nw
    .have hzi:(0:Int)< (nw:Int):=by omega
     have VD:(aW D.av ⟨tx,kd,it⟩).isEmpty=false:=by
      cases hq:aW D.av ⟨tx,kd,it⟩ with
      |nil=>have:=QJ.out;rw[hq] at this;simp at this;omega
      |cons a r=>rfl
     skip;go_wp2_with fail
     obtain⟨mO,l7,qB,pW,kX,lG,qC,pz,mP,mQ,qD,pX,rfl,_,f1,f2,f3,f4⟩:=nH.forms;obtain⟨wd,hwd⟩: ∃wd:World,wd=w7.drew:=⟨_,rfl⟩;have hbd:Below w7.heap.size w7 wd:=by rw[hwd];exact aG.drew
     have hbl:Below w7.heap.size w7 (wd.alloc (.cells #[.int .i64 tx,.int .i64 kd,.int .i64 it] 89)):=hbd.alloc hbd.size _;have r0:wd.cell? ⟨R,1,none⟩=some (.slice l7 lG mQ):=au.cell (au.below nH.box hbd aj) rfl;have r1:(wd.alloc (.cells #[.int .i64 tx,.int .i64 kd,.int .i64 it] 89)).cell? ⟨R,1,none⟩=some (.slice l7 lG mQ):=au.cell (au.below nH.box hbl aj) rfl;have b0:wd.cell? ⟨w.heap.size,0,none⟩=some (.int .i64 tx):=au.cell ((lS.eZ hbd).row iD.out bF.1 bF.2.1 bF.2.2) rfl;have b1:wd.cell? ⟨w.heap.size,1,none⟩=some (.int .i64 kd):=au.cell ((lS.eZ hbd).row iD.out bF.1 bF.2.1 bF.2.2) rfl;have b2:wd.cell? ⟨w.heap.size,2,none⟩=some (.int .i64 it):=au.cell ((lS.eZ hbd).row iD.out bF.1 bF.2.1 bF.2.2) rfl;have HOL:=ah ((nH.aO.below hbl).dh f2);have hsl:B<=(wd.alloc (.cells #[.int .i64 tx,.int .i64 kd,.int .i64 it] 89)).heap.size:=(nH.aO.below hbl).base;have oU:=ah (nH.eZ hbl);have HSL:=ah (lS.eZ hbl);have lY:=ah hwd;have hnn:lG<=30000:=by first|omega|(simp only at f1 f2 f3 f4;omega)
     clear nH lS hwd hbd hbl f1 f2 f3 f4;go_wp2_with fail
     refine wp_region_any (by kernel_rfl) ?_
     change wpAny _ _ _ _ _ _ _ (World.drew _);rw[<-lY.out];refine bH 0 ?_;refine bH 1 ?_;refine bH 2 ?_;refine bH 3 ?_;refine bH 4 ?_;refine uW 5 6 (fun K hK=>?_) fun K hK=>?_
     .skip;go_simp;try(refine hK _ _ ?_;clear hK K)
      refine cK 6 fun K hK=>?_
      go_simp;try(refine hK _ _ ?_;clear hK K)
      refine cK 7 fun K hK=>?_
      go_simp;try(refine hK _ _ ?_;clear hK K)
      refine cK 8 fun K hK=>?_
      refine aS (.tmp 86) (.tmp 88) (c:=1) HOL.out (by omega) (aC.dB _ ⟨tx,kd,it⟩ _) ?_ ?_ ?_ ?_ ?_ ?_
      .omega
      .rfl
      .rfl
      .rfl
      .rfl
      intro v3 w3 hown3 hg3 aU;obtain⟨⟨e0,e1⟩,hA3,eu⟩:=oU.out.jC hg3 hown3 aU;obtain⟨A3,c3,rfl,_⟩:=aD hown3;have HF:=ah (And.intro hA3 (HSL.out.trans eu));clear hA3 eu hg3 hown3 aU;try(refine hK _ _ ?_;clear hK K)
      refine bH 9 ?_;refine bH 10 ?_;refine bH 11 ?_;refine cK 12 fun K hK=>?_
      go_simp;try(refine hK _ _ ?_;clear hK K)
      refine bM ?_;try go_simp
      go_wp2_with fail
      go_end0
      exact⟨rfl,_,by rw[M6.out (by assumption)];exact HF.out.1,Bh.out.trans HF.out.2⟩
     .skip;go_simp;try(refine hK _ _ ?_;clear hK K)
      refine uW 5 7 (fun K hK=>?_) fun K hK=>?_
      .skip;go_simp;try(refine hK _ _ ?_;clear hK K)
       refine cK 7 fun K hK=>?_
       go_simp;try(refine hK _ _ ?_;clear hK K)
       refine cK 8 fun K hK=>?_
       refine aS (.tmp 86) (.tmp 88) (c:=1) HOL.out (by omega) (aC.dB _ ⟨tx,kd,it⟩ _) ?_ ?_ ?_ ?_ ?_ ?_
       .omega
       .rfl
       .rfl
       .rfl
       .rfl
       intro v3 w3 hown3 hg3 aU;obtain⟨⟨e0,e1⟩,hA3,eu⟩:=oU.out.jC hg3 hown3 aU;obtain⟨A3,c3,rfl,_⟩:=aD hown3;have HF:=ah (And.intro hA3 (HSL.out.trans eu));clear hA3 eu hg3 hown3 aU;try(refine hK _ _ ?_;clear hK K)
       refine bH 9 ?_;refine bH 10 ?_;refine bH 11 ?_;refine cK 12 fun K hK=>?_
       go_simp;try(refine hK _ _ ?_;clear hK K)
       refine bM ?_;try go_simp
       go_wp2_with fail
       go_end0
       exact⟨rfl,_,by rw[M6.out (by assumption)];exact HF.out.1,Bh.out.trans HF.out.2⟩
      .skip;go_simp;try(refine hK _ _ ?_;clear hK K)
       refine cK 5 fun K hK=>?_
       go_simp;try(refine hK _ _ ?_;clear hK K)
       refine cK 8 fun K hK=>?_
       refine aS (.tmp 86) (.tmp 88) (c:=1) HOL.out (by omega) (aC.dB _ ⟨tx,kd,it⟩ _) ?_ ?_ ?_ ?_ ?_ ?_
       .omega
       .rfl
       .rfl
       .rfl
       .rfl
       intro v3 w3 hown3 hg3 aU;obtain⟨⟨e0,e1⟩,hA3,eu⟩:=oU.out.jC hg3 hown3 aU;obtain⟨A3,c3,rfl,_⟩:=aD hown3;have HF:=ah (And.intro hA3 (HSL.out.trans eu));clear hA3 eu hg3 hown3 aU;try(refine hK _ _ ?_;clear hK K)
       refine bH 9 ?_;refine bH 10 ?_;refine bH 11 ?_;refine cK 12 fun K hK=>?_
       go_simp;try(refine hK _ _ ?_;clear hK K)
       refine bM ?_;try go_simp
       go_wp2_with fail
       go_end0
       exact⟨rfl,_,by rw[M6.out (by assumption)];exact HF.out.1,Bh.out.trans HF.out.2⟩
    .have hzi: ¬(0:Int)< (nw:Int):=by omega
     have VD:(aW D.av ⟨tx,kd,it⟩).isEmpty=true:=by
      cases hq:aW D.av ⟨tx,kd,it⟩ with
      |nil=>rfl
      |cons a r=>have:=QJ.out;rw[hq] at this;simp at this;omega
     skip;have hdo:=Ae B R tg _ V D ⟨tx,kd,it⟩ w7 nH Dv.out (by omega) (by omega)
     unfold ay.val at hdo;simp only at hdo;have Uo:=ah hdo;have M8:=ah lS;have sO:=lS.row iD.out bF.1 bF.2.1 bF.2.2;obtain⟨q0,q1,q2⟩:w7.cell? ⟨w.heap.size,0,none⟩=some (.int .i64 tx)/\w7.cell? ⟨w.heap.size,1,none⟩=some (.int .i64 kd)/\w7.cell? ⟨w.heap.size,2,none⟩=some (.int .i64 it):=⟨au.cell sO rfl,au.cell sO rfl,au.cell sO rfl⟩;clear hdo nH lS sO;go_wp2_with fail
     refine Uo.out.mono ?_;rintro e w8 ⟨rfl,V8,OT,nZ⟩;have HF:=ah (And.intro OT (M8.out.trans nZ));clear OT nZ;go_wp2_with fail
     go_end0
     exact⟨rfl,_,by rw[Zg.out (by assumption)];exact HF.out.1,Bh.out.trans HF.out.2⟩
   .have mm:w3.cell? ⟨R,5,none⟩=some (dR .die):=hA.cells.2.2.2.2.2;unfold dR at mm;simp only at mm;have IZ: ∀X:World,(Instr.typeAssert (.iface 211 (.agg #[])) 150 211 true).run Tryz.prog X=.ok (.tuple #[.agg #[],.bool true]) X:=fun _=>by kernel_rfl
    have HA3:=ah hA;have WK:=ah hS;have n0: ∀u:Later w3,u.1.cell? ⟨w.heap.size,0,none⟩=some (.int .i64 tx):=fun u=>au.cell ((hS.eZ u.2).row iD.out bF.1 bF.2.1 bF.2.2) rfl
    obtain⟨L,XY⟩: ∃L,aW D.av ⟨tx,kd,it⟩=L:=⟨_,rfl⟩;have Uq:=ah XY;rw[XY] at hoc hwl zy ⊢;obtain⟨N,hN⟩: ∃N,L.length=N:=⟨_,rfl⟩;have HN:=ah hN;rw[hN] at hoc hwl zy ⊢;clear hA hS XY hN;by_cases hz:0<N
    .obtain⟨b,off,x,hOA,hbl,hx,cx⟩:=zy.out.1.at_ hz;have hx0:L.headD 0=x:=by
      cases hq:L with
      |nil=>rw[hq] at hx;cases hx
      |cons a r=>rw[hq] at hx;simp at hx;simp[hx]
     subst hOA;have l0: ∀u:Later w3,u.1.cell? ⟨b,off,none⟩=some (.int .i64 x):=fun u=>by have:=Later.cell cx u;simpa using this
     have hzi:(0:Int)< (N:Int):=by omega
     have VD:(aW D.av ⟨tx,kd,it⟩).isEmpty=false:=by
      rw[Uq.out];cases hq:L with
      |nil=>rw[hq] at hx;cases hx
      |cons a r=>rfl
     have HX0:=ah hx0;have HZE:=ah VD;clear hx hx0 cx VD;by_cases hlt:x<tx
     .have hld:decide (x<tx)=true:=by simpa using hlt
      go_wp2_with fail
      refine aQ ?_;repeat(go_big_quiet_step (fail))
      refine wpQuiet_nil ?_;rintro _ ⟨z,rfl⟩;have p0:=n0 z;have hab:=vQ B R tg _ V D T z.1 (HA3.out.eZ z.2) Bc (by omega) (by omega)
      rw[XW.out] at hab;have Vi:=ah hab;have Oy:=ah (WK.out.eZ z.2);clear n0 l0 hab;go_wp2_with fail
      refine Vi.out.mono ?_;rintro e w5 ⟨rfl,V5,qZ,hS5⟩;have HF:=ah (And.intro qZ (Oy.out.trans hS5));clear qZ hS5;have HEQ:Hid (qO .die D ⟨tx,kd,it⟩=bP D tx):=by
       show _=_
       rw[EO.out];unfold gP;simp only[HZE.out,Bool.false_eq_true,if_false];rw[if_pos (by rw[Uq.out,HX0.out];exact hlt)]
      go_wp2_with fail
      go_end0
      exact⟨rfl,_,by rw[HEQ.out];exact HF.out.1,Bh.out.trans HF.out.2⟩
     .have hld:decide (x<tx)=false:=by simpa using hlt
      go_wp2_with fail
      refine aQ ?_;repeat(go_big_quiet_step (fail))
      refine wpQuiet_nil ?_;rintro _ ⟨z,rfl⟩;have hA:=HA3.out.eZ z.2;have hS:=WK.out.eZ z.2;obtain⟨w4,hw4⟩: ∃q:World,z.1=q:=⟨_,rfl⟩;rw[hw4] at hA hS ⊢;have M6:Hid ((aW D.av ⟨tx,kd,it⟩).isEmpty=false->qO .die D ⟨tx,kd,it⟩=fQ D ⟨tx,kd,it⟩):=fun hq=>by
       rw[EO.out];unfold gP;simp only[hq,Bool.false_eq_true,if_false];rw[if_neg (by rw[Uq.out,HX0.out];omega)]
      have Zg:Hid ((aW D.av ⟨tx,kd,it⟩).isEmpty=true->qO .die D ⟨tx,kd,it⟩=bK D ⟨tx,kd,it⟩):=fun hq=>by rw[EO.out];unfold gP;simp only[hq];rfl
      clear n0 l0 zy hoc HA3 WK hw4 mm hwl;have hiw:=iW B R tg _ V D ⟨tx,kd,it⟩ w4 hA Dv.out HC.out;unfold ay.val at hiw;simp only at hiw;have nK:=ah hiw;have pE:=hS.row iD.out bF.1 bF.2.1 bF.2.2;obtain⟨q0,q1,q2⟩:w4.cell? ⟨w.heap.size,0,none⟩=some (.int .i64 tx)/\w4.cell? ⟨w.heap.size,1,none⟩=some (.int .i64 kd)/\w4.cell? ⟨w.heap.size,2,none⟩=some (.int .i64 it):=⟨au.cell pE rfl,au.cell pE rfl,au.cell pE rfl⟩;have Un:=ah hA;have M7:=ah hS;clear hiw pE hA hS;go_wp2_with fail
      refine nK.out.mono ?_;rintro e w7 ⟨OB,ob,rfl,Gv,_,EP⟩;have nH:=Un.out.eZ EP;have lS:=M7.out.eZ EP;have hwl:=rY D.av ⟨tx,kd,it⟩;obtain⟨nw,hnw⟩: ∃z,(aW D.av ⟨tx,kd,it⟩).length=z:=⟨_,rfl⟩;have QJ:=ah hnw;rw[hnw] at hwl Gv ⊢;clear nK Un M7 EP q0 q1 q2 hnw;by_cases hz:0<nw
      .have hzi:(0:Int)< (nw:Int):=by omega
       have VD:(aW D.av ⟨tx,kd,it⟩).isEmpty=false:=by
        cases hq:aW D.av ⟨tx,kd,it⟩ with
        |nil=>have:=QJ.out;rw[hq] at this;simp at this;omega
        |cons a r=>rfl
       skip;go_wp2_with fail
       obtain⟨mO,l7,qB,pW,kX,lG,qC,pz,mP,mQ,qD,pX,rfl,_,f1,f2,f3,f4⟩:=nH.forms;obtain⟨wd,hwd⟩: ∃wd:World,wd=w7.drew:=⟨_,rfl⟩;have hbd:Below w7.heap.size w7 wd:=by rw[hwd];exact aG.drew
       have hbl:Below w7.heap.size w7 (wd.alloc (.cells #[.int .i64 tx,.int .i64 kd,.int .i64 it] 89)):=hbd.alloc hbd.size _;have r0:wd.cell? ⟨R,1,none⟩=some (.slice l7 lG mQ):=au.cell (au.below nH.box hbd aj) rfl;have r1:(wd.alloc (.cells #[.int .i64 tx,.int .i64 kd,.int .i64 it] 89)).cell? ⟨R,1,none⟩=some (.slice l7 lG mQ):=au.cell (au.below nH.box hbl aj) rfl;have b0:wd.cell? ⟨w.heap.size,0,none⟩=some (.int .i64 tx):=au.cell ((lS.eZ hbd).row iD.out bF.1 bF.2.1 bF.2.2) rfl;have b1:wd.cell? ⟨w.heap.size,1,none⟩=some (.int .i64 kd):=au.cell ((lS.eZ hbd).row iD.out bF.1 bF.2.1 bF.2.2) rfl;have b2:wd.cell? ⟨w.heap.size,2,none⟩=some (.int .i64 it):=au.cell ((lS.eZ hbd).row iD.out bF.1 bF.2.1 bF.2.2) rfl;have HOL:=ah ((nH.aO.below hbl).dh f2);have hsl:B<=(wd.alloc (.cells #[.int .i64 tx,.int .i64 kd,.int .i64 it] 89)).heap.size:=(nH.aO.below hbl).base;have oU:=ah (nH.eZ hbl);have HSL:=ah (lS.eZ hbl);have lY:=ah hwd;have hnn:lG<=30000:=by first|omega|(simp only at f1 f2 f3 f4;omega)
       clear nH lS hwd hbd hbl f1 f2 f3 f4;go_wp2_with fail
       refine wp_region_any (by kernel_rfl) ?_
       change wpAny _ _ _ _ _ _ _ (World.drew _);rw[<-lY.out];refine bH 0 ?_;refine bH 1 ?_;refine bH 2 ?_;refine bH 3 ?_;refine bH 4 ?_;refine uW 5 6 (fun K hK=>?_) fun K hK=>?_
       .skip;go_simp;try(refine hK _ _ ?_;clear hK K)
        refine cK 6 fun K hK=>?_
        go_simp;try(refine hK _ _ ?_;clear hK K)
        refine cK 7 fun K hK=>?_
        go_simp;try(refine hK _ _ ?_;clear hK K)
        refine cK 8 fun K hK=>?_
        refine aS (.tmp 86) (.tmp 88) (c:=1) HOL.out (by omega) (aC.dB _ ⟨tx,kd,it⟩ _) ?_ ?_ ?_ ?_ ?_ ?_
        .omega
        .rfl
        .rfl
        .rfl
        .rfl
        intro v3 w3 hown3 hg3 aU;obtain⟨⟨e0,e1⟩,hA3,eu⟩:=oU.out.jC hg3 hown3 aU;obtain⟨A3,c3,rfl,_⟩:=aD hown3;have HF:=ah (And.intro hA3 (HSL.out.trans eu));clear hA3 eu hg3 hown3 aU;try(refine hK _ _ ?_;clear hK K)
        refine bH 9 ?_;refine bH 10 ?_;refine bH 11 ?_;refine cK 12 fun K hK=>?_
        go_simp;try(refine hK _ _ ?_;clear hK K)
        refine bM ?_;try go_simp
        go_wp2_with fail
        go_end0
        exact⟨rfl,_,by rw[M6.out (by assumption)];exact HF.out.1,Bh.out.trans HF.out.2⟩
       .skip;go_simp;try(refine hK _ _ ?_;clear hK K)
        refine uW 5 7 (fun K hK=>?_) fun K hK=>?_
        .skip;go_simp;try(refine hK _ _ ?_;clear hK K)
         refine cK 7 fun K hK=>?_
         go_simp;try(refine hK _ _ ?_;clear hK K)
         refine cK 8 fun K hK=>?_
         refine aS (.tmp 86) (.tmp 88) (c:=1) HOL.out (by omega) (aC.dB _ ⟨tx,kd,it⟩ _) ?_ ?_ ?_ ?_ ?_ ?_
         .omega
         .rfl
         .rfl
         .rfl
         .rfl
         intro v3 w3 hown3 hg3 aU;obtain⟨⟨e0,e1⟩,hA3,eu⟩:=oU.out.jC hg3 hown3 aU;obtain⟨A3,c3,rfl,_⟩:=aD hown3;have HF:=ah (And.intro hA3 (HSL.out.trans eu));clear hA3 eu hg3 hown3 aU;try(refine hK _ _ ?_;clear hK K)
         refine bH 9 ?_;refine bH 10 ?_;refine bH 11 ?_;refine cK 12 fun K hK=>?_
         go_simp;try(refine hK _ _ ?_;clear hK K)
         refine bM ?_;try go_simp
         go_wp2_with fail
         go_end0
         exact⟨rfl,_,by rw[M6.out (by assumption)];exact HF.out.1,Bh.out.trans HF.out.2⟩
        .skip;go_simp;try(refine hK _ _ ?_;clear hK K)
         refine cK 5 fun K hK=>?_
         go_simp;try(refine hK _ _ ?_;clear hK K)
         refine cK 8 fun K hK=>?_
         refine aS (.tmp 86) (.tmp 88) (c:=1) HOL.out (by omega) (aC.dB _ ⟨tx,kd,it⟩ _) ?_ ?_ ?_ ?_ ?_ ?_
         .omega
         .rfl
         .rfl
         .rfl
         .rfl
         intro v3 w3 hown3 hg3 aU;obtain⟨⟨e0,e1⟩,hA3,eu⟩:=oU.out.jC hg3 hown3 aU;obtain⟨A3,c3,rfl,_⟩:=aD hown3;have HF:=ah (And.intro hA3 (HSL.out.trans eu));clear hA3 eu hg3 hown3 aU;try(refine hK _ _ ?_;clear hK K)
         refine bH 9 ?_;refine bH 10 ?_;refine bH 11 ?_;refine cK 12 fun K hK=>?_
         go_simp;try(refine hK _ _ ?_;clear hK K)
         refine bM ?_;try go_simp
         go_wp2_with fail
         go_end0
         exact⟨rfl,_,by rw[M6.out (by assumption)];exact HF.out.1,Bh.out.trans HF.out.2⟩
      .have hzi: ¬(0:Int)< (nw:Int):=by omega
       have VD:(aW D.av ⟨tx,kd,it⟩).isEmpty=true:=by
        cases hq:aW D.av ⟨tx,kd,it⟩ with
        |nil=>rfl
        |cons a r=>have:=QJ.out;rw[hq] at this;simp at this;omega
       skip;have hdo:=Ae B R tg _ V D ⟨tx,kd,it⟩ w7 nH Dv.out (by omega) (by omega)
       unfold ay.val at hdo;simp only at hdo;have Uo:=ah hdo;have M8:=ah lS;have sO:=lS.row iD.out bF.1 bF.2.1 bF.2.2;obtain⟨q0,q1,q2⟩:w7.cell? ⟨w.heap.size,0,none⟩=some (.int .i64 tx)/\w7.cell? ⟨w.heap.size,1,none⟩=some (.int .i64 kd)/\w7.cell? ⟨w.heap.size,2,none⟩=some (.int .i64 it):=⟨au.cell sO rfl,au.cell sO rfl,au.cell sO rfl⟩;clear hdo nH lS sO;go_wp2_with fail
       refine Uo.out.mono ?_;rintro e w8 ⟨rfl,V8,OT,nZ⟩;have HF:=ah (And.intro OT (M8.out.trans nZ));clear OT nZ;go_wp2_with fail
       go_end0
       exact⟨rfl,_,by rw[Zg.out (by assumption)];exact HF.out.1,Bh.out.trans HF.out.2⟩
    .have hN0:N=0:=by omega
     subst hN0;go_wp2_with fail
     refine aQ ?_;repeat(go_big_quiet_step (fail))
     refine wpQuiet_nil ?_;rintro _ ⟨z,rfl⟩;have hA:=HA3.out.eZ z.2;have hS:=WK.out.eZ z.2;obtain⟨w4,hw4⟩: ∃q:World,z.1=q:=⟨_,rfl⟩;rw[hw4] at hA hS ⊢;have hem:(aW D.av ⟨tx,kd,it⟩).isEmpty=true:=by
      rw[Uq.out];cases hq:L with
      |nil=>rfl
      |cons a r=>have:=HN.out;rw[hq] at this;cases this
     have HEM:=ah hem;have M6:Hid ((aW D.av ⟨tx,kd,it⟩).isEmpty=false->qO .die D ⟨tx,kd,it⟩=fQ D ⟨tx,kd,it⟩):=fun hq=>by rw[HEM.out] at hq;cases hq
     have Zg:Hid ((aW D.av ⟨tx,kd,it⟩).isEmpty=true->qO .die D ⟨tx,kd,it⟩=bK D ⟨tx,kd,it⟩):=fun hq=>by rw[EO.out];unfold gP;simp only[hq];rfl
     clear n0 zy hoc HA3 WK hw4 mm hwl hem;have hiw:=iW B R tg _ V D ⟨tx,kd,it⟩ w4 hA Dv.out HC.out;unfold ay.val at hiw;simp only at hiw;have nK:=ah hiw;have pE:=hS.row iD.out bF.1 bF.2.1 bF.2.2;obtain⟨q0,q1,q2⟩:w4.cell? ⟨w.heap.size,0,none⟩=some (.int .i64 tx)/\w4.cell? ⟨w.heap.size,1,none⟩=some (.int .i64 kd)/\w4.cell? ⟨w.heap.size,2,none⟩=some (.int .i64 it):=⟨au.cell pE rfl,au.cell pE rfl,au.cell pE rfl⟩;have Un:=ah hA;have M7:=ah hS;clear hiw pE hA hS;go_wp2_with fail
     refine nK.out.mono ?_;rintro e w7 ⟨OB,ob,rfl,Gv,_,EP⟩;have nH:=Un.out.eZ EP;have lS:=M7.out.eZ EP;have hwl:=rY D.av ⟨tx,kd,it⟩;obtain⟨nw,hnw⟩: ∃z,(aW D.av ⟨tx,kd,it⟩).length=z:=⟨_,rfl⟩;have QJ:=ah hnw;rw[hnw] at hwl Gv ⊢;clear nK Un M7 EP q0 q1 q2 hnw;by_cases hz:0<nw
     .have hzi:(0:Int)< (nw:Int):=by omega
      have VD:(aW D.av ⟨tx,kd,it⟩).isEmpty=false:=by
       cases hq:aW D.av ⟨tx,kd,it⟩ with
       |nil=>have:=QJ.out;rw[hq] at this;simp at this;omega
       |cons a r=>rfl
      skip;go_wp2_with fail
      obtain⟨mO,l7,qB,pW,kX,lG,qC,pz,mP,mQ,qD,pX,rfl,_,f1,f2,f3,f4⟩:=nH.forms;obtain⟨wd,hwd⟩: ∃wd:World,wd=w7.drew:=⟨_,rfl⟩;have hbd:Below w7.heap.size w7 wd:=by rw[hwd];exact aG.drew
      have hbl:Below w7.heap.size w7 (wd.alloc (.cells #[.int .i64 tx,.int .i64 kd,.int .i64 it] 89)):=hbd.alloc hbd.size _;have r0:wd.cell? ⟨R,1,none⟩=some (.slice l7 lG mQ):=au.cell (au.below nH.box hbd aj) rfl;have r1:(wd.alloc (.cells #[.int .i64 tx,.int .i64 kd,.int .i64 it] 89)).cell? ⟨R,1,none⟩=some (.slice l7 lG mQ):=au.cell (au.below nH.box hbl aj) rfl;have b0:wd.cell? ⟨w.heap.size,0,none⟩=some (.int .i64 tx):=au.cell ((lS.eZ hbd).row iD.out bF.1 bF.2.1 bF.2.2) rfl;have b1:wd.cell? ⟨w.heap.size,1,none⟩=some (.int .i64 kd):=au.cell ((lS.eZ hbd).row iD.out bF.1 bF.2.1 bF.2.2) rfl;have b2:wd.cell? ⟨w.heap.size,2,none⟩=some (.int .i64 it):=au.cell ((lS.eZ hbd).row iD.out bF.1 bF.2.1 bF.2.2) rfl;have HOL:=ah ((nH.aO.below hbl).dh f2);have hsl:B<=(wd.alloc (.cells #[.int .i64 tx,.int .i64 kd,.int .i64 it] 89)).heap.size:=(nH.aO.below hbl).base;have oU:=ah (nH.eZ hbl);have HSL:=ah (lS.eZ hbl);have lY:=ah hwd;have hnn:lG<=30000:=by first|omega|(simp only at f1 f2 f3 f4;omega)
      clear nH lS hwd hbd hbl f1 f2 f3 f4;go_wp2_with fail
      refine wp_region_any (by kernel_rfl) ?_
      change wpAny _ _ _ _ _ _ _ (World.drew _);rw[<-lY.out];refine bH 0 ?_;refine bH 1 ?_;refine bH 2 ?_;refine bH 3 ?_;refine bH 4 ?_;refine uW 5 6 (fun K hK=>?_) fun K hK=>?_
      .skip;go_simp;try(refine hK _ _ ?_;clear hK K)
       refine cK 6 fun K hK=>?_
       go_simp;try(refine hK _ _ ?_;clear hK K)
       refine cK 7 fun K hK=>?_
       go_simp;try(refine hK _ _ ?_;clear hK K)
       refine cK 8 fun K hK=>?_
       refine aS (.tmp 86) (.tmp 88) (c:=1) HOL.out (by omega) (aC.dB _ ⟨tx,kd,it⟩ _) ?_ ?_ ?_ ?_ ?_ ?_
       .omega
       .rfl
       .rfl
       .rfl
       .rfl
       intro v3 w3 hown3 hg3 aU;obtain⟨⟨e0,e1⟩,hA3,eu⟩:=oU.out.jC hg3 hown3 aU;obtain⟨A3,c3,rfl,_⟩:=aD hown3;have HF:=ah (And.intro hA3 (HSL.out.trans eu));clear hA3 eu hg3 hown3 aU;try(refine hK _ _ ?_;clear hK K)
       refine bH 9 ?_;refine bH 10 ?_;refine bH 11 ?_;refine cK 12 fun K hK=>?_
       go_simp;try(refine hK _ _ ?_;clear hK K)
       refine bM ?_;try go_simp
       go_wp2_with fail
       go_end0
       exact⟨rfl,_,by rw[M6.out (by assumption)];exact HF.out.1,Bh.out.trans HF.out.2⟩
      .skip;go_simp;try(refine hK _ _ ?_;clear hK K)
       refine uW 5 7 (fun K hK=>?_) fun K hK=>?_
       .skip;go_simp;try(refine hK _ _ ?_;clear hK K)
        refine cK 7 fun K hK=>?_
        go_simp;try(refine hK _ _ ?_;clear hK K)
        refine cK 8 fun K hK=>?_
        refine aS (.tmp 86) (.tmp 88) (c:=1) HOL.out (by omega) (aC.dB _ ⟨tx,kd,it⟩ _) ?_ ?_ ?_ ?_ ?_ ?_
        .omega
        .rfl
        .rfl
        .rfl
        .rfl
        intro v3 w3 hown3 hg3 aU;obtain⟨⟨e0,e1⟩,hA3,eu⟩:=oU.out.jC hg3 hown3 aU;obtain⟨A3,c3,rfl,_⟩:=aD hown3;have HF:=ah (And.intro hA3 (HSL.out.trans eu));clear hA3 eu hg3 hown3 aU;try(refine hK _ _ ?_;clear hK K)
        refine bH 9 ?_;refine bH 10 ?_;refine bH 11 ?_;refine cK 12 fun K hK=>?_
        go_simp;try(refine hK _ _ ?_;clear hK K)
        refine bM ?_;try go_simp
        go_wp2_with fail
        go_end0
        exact⟨rfl,_,by rw[M6.out (by assumption)];exact HF.out.1,Bh.out.trans HF.out.2⟩
       .skip;go_simp;try(refine hK _ _ ?_;clear hK K)
        refine cK 5 fun K hK=>?_
        go_simp;try(refine hK _ _ ?_;clear hK K)
        refine cK 8 fun K hK=>?_
        refine aS (.tmp 86) (.tmp 88) (c:=1) HOL.out (by omega) (aC.dB _ ⟨tx,kd,it⟩ _) ?_ ?_ ?_ ?_ ?_ ?_
        .omega
        .rfl
        .rfl
        .rfl
        .rfl
        intro v3 w3 hown3 hg3 aU;obtain⟨⟨e0,e1⟩,hA3,eu⟩:=oU.out.jC hg3 hown3 aU;obtain⟨A3,c3,rfl,_⟩:=aD hown3;have HF:=ah (And.intro hA3 (HSL.out.trans eu));clear hA3 eu hg3 hown3 aU;try(refine hK _ _ ?_;clear hK K)
        refine bH 9 ?_;refine bH 10 ?_;refine bH 11 ?_;refine cK 12 fun K hK=>?_
        go_simp;try(refine hK _ _ ?_;clear hK K)
        refine bM ?_;try go_simp
        go_wp2_with fail
        go_end0
        exact⟨rfl,_,by rw[M6.out (by assumption)];exact HF.out.1,Bh.out.trans HF.out.2⟩
     .have hzi: ¬(0:Int)< (nw:Int):=by omega
      have VD:(aW D.av ⟨tx,kd,it⟩).isEmpty=true:=by
       cases hq:aW D.av ⟨tx,kd,it⟩ with
       |nil=>rfl
       |cons a r=>have:=QJ.out;rw[hq] at this;simp at this;omega
      skip;have hdo:=Ae B R tg _ V D ⟨tx,kd,it⟩ w7 nH Dv.out (by omega) (by omega)
      unfold ay.val at hdo;simp only at hdo;have Uo:=ah hdo;have M8:=ah lS;have sO:=lS.row iD.out bF.1 bF.2.1 bF.2.2;obtain⟨q0,q1,q2⟩:w7.cell? ⟨w.heap.size,0,none⟩=some (.int .i64 tx)/\w7.cell? ⟨w.heap.size,1,none⟩=some (.int .i64 kd)/\w7.cell? ⟨w.heap.size,2,none⟩=some (.int .i64 it):=⟨au.cell sO rfl,au.cell sO rfl,au.cell sO rfl⟩;clear hdo nH lS sO;go_wp2_with fail
      refine Uo.out.mono ?_;rintro e w8 ⟨rfl,V8,OT,nZ⟩;have HF:=ah (And.intro OT (M8.out.trans nZ));clear OT nZ;go_wp2_with fail
      go_end0
      exact⟨rfl,_,by rw[Zg.out (by assumption)];exact HF.out.1,Bh.out.trans HF.out.2⟩
   .have mm:w3.cell? ⟨R,5,none⟩=some (dR .bA):=hA.cells.2.2.2.2.2;unfold dR at mm;simp only at mm;have IZ: ∀X:World,(Instr.typeAssert (.iface 212 (.agg #[])) 150 211 true).run Tryz.prog X=.ok (.tuple #[.agg #[],.bool false]) X:=fun _=>by kernel_rfl
    have KO: ∀X:World,(Instr.typeAssert (.iface 212 (.agg #[])) 150 212 true).run Tryz.prog X=.ok (.tuple #[.agg #[],.bool true]) X:=fun _=>by kernel_rfl
    obtain⟨L,XY⟩: ∃L,aW D.av ⟨tx,kd,it⟩=L:=⟨_,rfl⟩;have Uq:=ah XY;have hLr: ∀u∈L,0<=u/\u<=3:=fun u hu=>(jK.1 (by rw[XY];exact hu)).2.1
    have HLR:=ah hLr;rw[XY] at hoc hwl zy ⊢;obtain⟨N,hN⟩: ∃N,L.length=N:=⟨_,rfl⟩;have HN:=ah hN;rw[hN] at hoc hwl zy ⊢;have HST:Hid (bO w3 B R tg (dR .bA) V (bS D ((L.take 0).filter fun u=>decide (tx<u)))/\lK R tg w3 V w3 V):=⟨hA,lK.refl _ _ _ _⟩
    have WK:=ah hS;clear hA hS XY hN hLr;go_wp2_with fail
    clear mm;go_loopw [64] (fun i wr=> ∃ (k:Nat) (V':DV),k<=N/\i=.int .i64 k/\bO wr B R tg (dR .bA) V' (bS D ((L.take k).filter fun u=>decide (tx<u)))/\lK R tg w3 V wr V') (fun i _=>N- (intOf i).toNat)
    case atStart=>exact⟨0,V,Nat.zero_le _,rfl,HST.out.1,HST.out.2⟩
    case round=>
     clear HST;obtain⟨wo,rfl⟩: ∃z:World,z=wr:=⟨_,rfl⟩;obtain⟨k,V',hk,rfl,hA,hSr⟩:=hrel;obtain⟨kl1,kl2,kl3,kl4⟩:=MW D ((L.take k).filter fun u=>decide (tx<u))
     have hfl:((L.take k).filter fun u=>decide (tx<u)).length<=4:=Nat.le_trans (List.length_filter_le _ _) (by rw[List.length_take];omega)
     by_cases hlt:k<N
     .obtain⟨b,off,x,hOA,hbl,hx,cx⟩:=(hSr.ints zy.out.1 zy.out.2).at_ hlt;have iM:=HLR.out x (List.mem_of_getElem? hx);have hsn:(L.take (k+1)).filter (fun u=>decide (tx<u))=(L.take k).filter (fun u=>decide (tx<u))++if tx<x then [x] else [] :=by
       rw[aR hx,List.filter_append];simp[List.filter_cons]
      subst hOA;obtain⟨X,rfl⟩:=Int.eq_ofNat_of_zero_le iM.1;have Y9:X<=3:=by omega
      have hki:(k:Int)< (N:Int):=by omega
      have hk0:(0:Int)<=(k:Int):=by omega
      have hS:=WK.out.trans hSr;have p0:wo.cell? ⟨w.heap.size,0,none⟩=some (.int .i64 tx):=au.cell (hS.row iD.out bF.1 bF.2.1 bF.2.2) rfl;obtain⟨Dk,zQ⟩: ∃Dk,bS D ((L.take k).filter fun u=>decide (tx<u))=Dk:=⟨_,rfl⟩
      have hkn:bS D ((L.take (k+1)).filter fun u=>decide (tx<u))=if tx< (X:Int) then bP Dk (X:Int) else Dk:=by
       rw[hsn,<-zQ];unfold bS;rw[List.foldl_append];split<;>rfl
      rw[zQ] at hA kl1 kl2 kl3 kl4;have HKN:=ah hkn;have HAk:=ah hA;have HSr:=ah hSr;clear hA hSr hS hkn hsn hx zQ;by_cases hgt:tx< (X:Int)
      .rw[if_pos hgt] at HKN;have Vi:=ah (vQ B R tg _ V' Dk X wo HAk.out Y9 (by omega) (by omega))
       have hgd:decide (tx< (X:Int))=true:=by simpa using hgt
       go_wp2_with fail
       refine Vi.out.mono ?_;rintro e w5 ⟨rfl,V5,qZ,hS5⟩;have HF:=ah (And.intro qZ (HSr.out.trans hS5));clear qZ hS5;go_wp2_with fail
       go_roundw
       case rel=>exact⟨k+1,V5,by omega,by go_num,by rw[HKN.out];exact HF.out.1,HF.out.2⟩
       case measure=>simp[intOf];omega
      .rw[if_neg hgt] at HKN;have hgd:decide (tx< (X:Int))=false:=by simpa using hgt
       go_wp2_with fail
       go_roundw
       case rel=>exact⟨k+1,V',by omega,by go_num,by rw[HKN.out];exact HAk.out,HSr.out⟩
       case measure=>simp[intOf];omega
     .obtain rfl:k=N:=by omega
      have hS:=WK.out.trans hSr;have hte:L.take k=L:=List.take_of_length_le (by have:=HN.out;omega)
      rw[hte] at hA kl1 kl2 kl3 kl4 hfl;obtain⟨Dk,zQ⟩: ∃Dk,bS D (L.filter fun u=>decide (tx<u))=Dk:=⟨_,rfl⟩
      have hcd:=sN (L.filter fun u=>decide (tx<u)) HC.out
      have hwe:=GN HC.out Dv.out;rw[zQ] at hA kl1 kl2 kl3 kl4 hcd;rw[Uq.out,zQ] at hwe;have HCD:=ah hcd;have M6:Hid ((aW Dk.av ⟨tx,kd,it⟩).isEmpty=false->qO .bA D ⟨tx,kd,it⟩=fQ Dk ⟨tx,kd,it⟩):=fun hq=>by
       rw[EO.out];unfold gP;simp only[Uq.out,zQ];rw[if_neg (by rw[<-hwe,hq];simp)]
      have Zg:Hid ((aW Dk.av ⟨tx,kd,it⟩).isEmpty=true->qO .bA D ⟨tx,kd,it⟩=bK Dk ⟨tx,kd,it⟩):=fun hq=>by
       rw[EO.out];unfold gP;simp only[Uq.out,zQ];rw[if_pos (by rw[<-hwe,hq])]
      have hni: ¬((k:Int)< (k:Int)):=by omega
      clear zy hoc WK hwl hcd hwe zQ hte hSr;have hiw:=iW B R tg _ V' Dk ⟨tx,kd,it⟩ wo hA Dv.out HCD.out;unfold ay.val at hiw;simp only at hiw;have nK:=ah hiw;have pE:=hS.row iD.out bF.1 bF.2.1 bF.2.2;obtain⟨q0,q1,q2⟩:wo.cell? ⟨w.heap.size,0,none⟩=some (.int .i64 tx)/\wo.cell? ⟨w.heap.size,1,none⟩=some (.int .i64 kd)/\wo.cell? ⟨w.heap.size,2,none⟩=some (.int .i64 it):=⟨au.cell pE rfl,au.cell pE rfl,au.cell pE rfl⟩;have Un:=ah hA;have M7:=ah hS;clear hiw pE hA hS;go_wp2_with fail
      refine nK.out.mono ?_;rintro e w7 ⟨OB,ob,rfl,Gv,_,EP⟩;have nH:=Un.out.eZ EP;have lS:=M7.out.eZ EP;have hwl:=rY Dk.av ⟨tx,kd,it⟩;obtain⟨nw,hnw⟩: ∃z,(aW Dk.av ⟨tx,kd,it⟩).length=z:=⟨_,rfl⟩;have QJ:=ah hnw;rw[hnw] at hwl Gv ⊢;clear nK Un M7 EP q0 q1 q2 hnw;by_cases hz:0<nw
      .have hzi:(0:Int)< (nw:Int):=by omega
       have VD:(aW Dk.av ⟨tx,kd,it⟩).isEmpty=false:=by
        cases hq:aW Dk.av ⟨tx,kd,it⟩ with
        |nil=>have:=QJ.out;rw[hq] at this;simp at this;omega
        |cons a r=>rfl
       skip;go_wp2_with fail
       obtain⟨mO,l7,qB,pW,kX,lG,qC,pz,mP,mQ,qD,pX,rfl,_,f1,f2,f3,f4⟩:=nH.forms;obtain⟨wd,hwd⟩: ∃wd:World,wd=w7.drew:=⟨_,rfl⟩;have hbd:Below w7.heap.size w7 wd:=by rw[hwd];exact aG.drew
       have hbl:Below w7.heap.size w7 (wd.alloc (.cells #[.int .i64 tx,.int .i64 kd,.int .i64 it] 89)):=hbd.alloc hbd.size _;have r0:wd.cell? ⟨R,1,none⟩=some (.slice l7 lG mQ):=au.cell (au.below nH.box hbd aj) rfl;have r1:(wd.alloc (.cells #[.int .i64 tx,.int .i64 kd,.int .i64 it] 89)).cell? ⟨R,1,none⟩=some (.slice l7 lG mQ):=au.cell (au.below nH.box hbl aj) rfl;have b0:wd.cell? ⟨w.heap.size,0,none⟩=some (.int .i64 tx):=au.cell ((lS.eZ hbd).row iD.out bF.1 bF.2.1 bF.2.2) rfl;have b1:wd.cell? ⟨w.heap.size,1,none⟩=some (.int .i64 kd):=au.cell ((lS.eZ hbd).row iD.out bF.1 bF.2.1 bF.2.2) rfl;have b2:wd.cell? ⟨w.heap.size,2,none⟩=some (.int .i64 it):=au.cell ((lS.eZ hbd).row iD.out bF.1 bF.2.1 bF.2.2) rfl;have HOL:=ah ((nH.aO.below hbl).dh f2);have hsl:B<=(wd.alloc (.cells #[.int .i64 tx,.int .i64 kd,.int .i64 it] 89)).heap.size:=(nH.aO.below hbl).base;have oU:=ah (nH.eZ hbl);have HSL:=ah (lS.eZ hbl);have lY:=ah hwd;have hnn:lG<=30000:=by first|omega|(simp only at f1 f2 f3 f4;omega)
       clear nH lS hwd hbd hbl f1 f2 f3 f4;go_wp2_with fail
       refine wp_region_any (by kernel_rfl) ?_
       change wpAny _ _ _ _ _ _ _ (World.drew _);rw[<-lY.out];refine bH 0 ?_;refine bH 1 ?_;refine bH 2 ?_;refine bH 3 ?_;refine bH 4 ?_;refine uW 5 6 (fun K hK=>?_) fun K hK=>?_
       .skip;go_simp;try(refine hK _ _ ?_;clear hK K)
        refine cK 6 fun K hK=>?_
        go_simp;try(refine hK _ _ ?_;clear hK K)
        refine cK 7 fun K hK=>?_
        go_simp;try(refine hK _ _ ?_;clear hK K)
        refine cK 8 fun K hK=>?_
        refine aS (.tmp 86) (.tmp 88) (c:=1) HOL.out (by omega) (aC.dB _ ⟨tx,kd,it⟩ _) ?_ ?_ ?_ ?_ ?_ ?_
        .omega
        .rfl
        .rfl
        .rfl
        .rfl
        intro v3 w3 hown3 hg3 aU;obtain⟨⟨e0,e1⟩,hA3,eu⟩:=oU.out.jC hg3 hown3 aU;obtain⟨A3,c3,rfl,_⟩:=aD hown3;have HF:=ah (And.intro hA3 (HSL.out.trans eu));clear hA3 eu hg3 hown3 aU;try(refine hK _ _ ?_;clear hK K)
        refine bH 9 ?_;refine bH 10 ?_;refine bH 11 ?_;refine cK 12 fun K hK=>?_
        go_simp;try(refine hK _ _ ?_;clear hK K)
        refine bM ?_;try go_simp
        go_wp2_with fail
        go_end0
        exact⟨rfl,_,by rw[M6.out (by assumption)];exact HF.out.1,Bh.out.trans HF.out.2⟩
       .skip;go_simp;try(refine hK _ _ ?_;clear hK K)
        refine uW 5 7 (fun K hK=>?_) fun K hK=>?_
        .skip;go_simp;try(refine hK _ _ ?_;clear hK K)
         refine cK 7 fun K hK=>?_
         go_simp;try(refine hK _ _ ?_;clear hK K)
         refine cK 8 fun K hK=>?_
         refine aS (.tmp 86) (.tmp 88) (c:=1) HOL.out (by omega) (aC.dB _ ⟨tx,kd,it⟩ _) ?_ ?_ ?_ ?_ ?_ ?_
         .omega
         .rfl
         .rfl
         .rfl
         .rfl
         intro v3 w3 hown3 hg3 aU;obtain⟨⟨e0,e1⟩,hA3,eu⟩:=oU.out.jC hg3 hown3 aU;obtain⟨A3,c3,rfl,_⟩:=aD hown3;have HF:=ah (And.intro hA3 (HSL.out.trans eu));clear hA3 eu hg3 hown3 aU;try(refine hK _ _ ?_;clear hK K)
         refine bH 9 ?_;refine bH 10 ?_;refine bH 11 ?_;refine cK 12 fun K hK=>?_
         go_simp;try(refine hK _ _ ?_;clear hK K)
         refine bM ?_;try go_simp
         go_wp2_with fail
         go_end0
         exact⟨rfl,_,by rw[M6.out (by assumption)];exact HF.out.1,Bh.out.trans HF.out.2⟩
        .skip;go_simp;try(refine hK _ _ ?_;clear hK K)
         refine cK 5 fun K hK=>?_
         go_simp;try(refine hK _ _ ?_;clear hK K)
         refine cK 8 fun K hK=>?_
         refine aS (.tmp 86) (.tmp 88) (c:=1) HOL.out (by omega) (aC.dB _ ⟨tx,kd,it⟩ _) ?_ ?_ ?_ ?_ ?_ ?_
         .omega
         .rfl
         .rfl
         .rfl
         .rfl
         intro v3 w3 hown3 hg3 aU;obtain⟨⟨e0,e1⟩,hA3,eu⟩:=oU.out.jC hg3 hown3 aU;obtain⟨A3,c3,rfl,_⟩:=aD hown3;have HF:=ah (And.intro hA3 (HSL.out.trans eu));clear hA3 eu hg3 hown3 aU;try(refine hK _ _ ?_;clear hK K)
         refine bH 9 ?_;refine bH 10 ?_;refine bH 11 ?_;refine cK 12 fun K hK=>?_
         go_simp;try(refine hK _ _ ?_;clear hK K)
         refine bM ?_;try go_simp
         go_wp2_with fail
         go_end0
         exact⟨rfl,_,by rw[M6.out (by assumption)];exact HF.out.1,Bh.out.trans HF.out.2⟩
      .have hzi: ¬(0:Int)< (nw:Int):=by omega
       have VD:(aW Dk.av ⟨tx,kd,it⟩).isEmpty=true:=by
        cases hq:aW Dk.av ⟨tx,kd,it⟩ with
        |nil=>rfl
        |cons a r=>have:=QJ.out;rw[hq] at this;simp at this;omega
       skip;have hdo:=Ae B R tg _ V' Dk ⟨tx,kd,it⟩ w7 nH Dv.out (by omega) (by omega)
       unfold ay.val at hdo;simp only at hdo;have Uo:=ah hdo;have M8:=ah lS;have sO:=lS.row iD.out bF.1 bF.2.1 bF.2.2;obtain⟨q0,q1,q2⟩:w7.cell? ⟨w.heap.size,0,none⟩=some (.int .i64 tx)/\w7.cell? ⟨w.heap.size,1,none⟩=some (.int .i64 kd)/\w7.cell? ⟨w.heap.size,2,none⟩=some (.int .i64 it):=⟨au.cell sO rfl,au.cell sO rfl,au.cell sO rfl⟩;clear hdo nH lS sO;go_wp2_with fail
       refine Uo.out.mono ?_;rintro e w8 ⟨rfl,V8,OT,nZ⟩;have HF:=ah (And.intro OT (M8.out.trans nZ));clear OT nZ;go_wp2_with fail
       go_end0
       exact⟨rfl,_,by rw[Zg.out (by assumption)];exact HF.out.1,Bh.out.trans HF.out.2⟩
  .have aaZ:=QH XM.out rfl;have HAW:=ah aaZ;clear Zd Xv QH aaZ;obtain⟨mO,l7,qB,pW,kX,lG,qC,pz,mP,mQ,qD,pX,rfl,_,f1,f2,f3,f4⟩:=hA.forms;obtain⟨wd,hwd⟩: ∃wd:World,wd=w2.drew:=⟨_,rfl⟩;have hbd:Below w2.heap.size w2 wd:=by rw[hwd];exact aG.drew
   have hbl:Below w2.heap.size w2 (wd.alloc (.cells #[.int .i64 tx,.int .i64 kd,.int .i64 it] 89)):=hbd.alloc hbd.size _;have r0:wd.cell? ⟨R,1,none⟩=some (.slice l7 lG mQ):=au.cell (au.below hA.box hbd aj) rfl;have r1:(wd.alloc (.cells #[.int .i64 tx,.int .i64 kd,.int .i64 it] 89)).cell? ⟨R,1,none⟩=some (.slice l7 lG mQ):=au.cell (au.below hA.box hbl aj) rfl;have b0:wd.cell? ⟨w.heap.size,0,none⟩=some (.int .i64 tx):=au.cell ((hS.eZ hbd).row iD.out bF.1 bF.2.1 bF.2.2) rfl;have b1:wd.cell? ⟨w.heap.size,1,none⟩=some (.int .i64 kd):=au.cell ((hS.eZ hbd).row iD.out bF.1 bF.2.1 bF.2.2) rfl;have b2:wd.cell? ⟨w.heap.size,2,none⟩=some (.int .i64 it):=au.cell ((hS.eZ hbd).row iD.out bF.1 bF.2.1 bF.2.2) rfl;have HOL:=ah ((hA.aO.below hbl).dh f2);have hsl:B<=(wd.alloc (.cells #[.int .i64 tx,.int .i64 kd,.int .i64 it] 89)).heap.size:=(hA.aO.below hbl).base;have oU:=ah (hA.eZ hbl);have HSL:=ah (hS.eZ hbl);have lY:=ah hwd;have hnn:lG<=30000:=by first|omega|(simp only at f1 f2 f3 f4;omega)
   clear hA hS hwd hbd hbl f1 f2 f3 f4;go_wp2_with fail
   refine wp_region_any (by kernel_rfl) ?_
   change wpAny _ _ _ _ _ _ _ (World.drew _);rw[<-lY.out];refine bH 0 ?_;refine bH 1 ?_;refine bH 2 ?_;refine bH 3 ?_;refine bH 4 ?_;refine uW 5 6 (fun K hK=>?_) fun K hK=>?_
   .skip;go_simp;try(refine hK _ _ ?_;clear hK K)
    refine cK 6 fun K hK=>?_
    go_simp;try(refine hK _ _ ?_;clear hK K)
    refine cK 7 fun K hK=>?_
    go_simp;try(refine hK _ _ ?_;clear hK K)
    refine cK 8 fun K hK=>?_
    refine aS (.tmp 27) (.tmp 29) (c:=1) HOL.out (by omega) (aC.dB _ ⟨tx,kd,it⟩ _) ?_ ?_ ?_ ?_ ?_ ?_
    .omega
    .rfl
    .rfl
    .rfl
    .rfl
    intro v3 w3 hown3 hg3 aU;obtain⟨⟨e0,e1⟩,hA3,eu⟩:=oU.out.jC hg3 hown3 aU;obtain⟨A3,c3,rfl,_⟩:=aD hown3;have HF:=ah (And.intro hA3 (HSL.out.trans eu));clear hA3 eu hg3 hown3 aU;try(refine hK _ _ ?_;clear hK K)
    refine bH 9 ?_;refine bH 10 ?_;refine bH 11 ?_;refine cK 12 fun K hK=>?_
    go_simp;try(refine hK _ _ ?_;clear hK K)
    refine bM ?_;try go_simp
    go_wp2_with fail
    go_end0
    exact⟨rfl,_,by rw[HAW.out];exact HF.out.1,Bh.out.trans HF.out.2⟩
   .skip;go_simp;try(refine hK _ _ ?_;clear hK K)
    refine uW 5 7 (fun K hK=>?_) fun K hK=>?_
    .skip;go_simp;try(refine hK _ _ ?_;clear hK K)
     refine cK 7 fun K hK=>?_
     go_simp;try(refine hK _ _ ?_;clear hK K)
     refine cK 8 fun K hK=>?_
     refine aS (.tmp 27) (.tmp 29) (c:=1) HOL.out (by omega) (aC.dB _ ⟨tx,kd,it⟩ _) ?_ ?_ ?_ ?_ ?_ ?_
     .omega
     .rfl
     .rfl
     .rfl
     .rfl
     intro v3 w3 hown3 hg3 aU;obtain⟨⟨e0,e1⟩,hA3,eu⟩:=oU.out.jC hg3 hown3 aU;obtain⟨A3,c3,rfl,_⟩:=aD hown3;have HF:=ah (And.intro hA3 (HSL.out.trans eu));clear hA3 eu hg3 hown3 aU;try(refine hK _ _ ?_;clear hK K)
     refine bH 9 ?_;refine bH 10 ?_;refine bH 11 ?_;refine cK 12 fun K hK=>?_
     go_simp;try(refine hK _ _ ?_;clear hK K)
     refine bM ?_;try go_simp
     go_wp2_with fail
     go_end0
     exact⟨rfl,_,by rw[HAW.out];exact HF.out.1,Bh.out.trans HF.out.2⟩
    .skip;go_simp;try(refine hK _ _ ?_;clear hK K)
     refine cK 5 fun K hK=>?_
     go_simp;try(refine hK _ _ ?_;clear hK K)
     refine cK 8 fun K hK=>?_
     refine aS (.tmp 27) (.tmp 29) (c:=1) HOL.out (by omega) (aC.dB _ ⟨tx,kd,it⟩ _) ?_ ?_ ?_ ?_ ?_ ?_
     .omega
     .rfl
     .rfl
     .rfl
     .rfl
     intro v3 w3 hown3 hg3 aU;obtain⟨⟨e0,e1⟩,hA3,eu⟩:=oU.out.jC hg3 hown3 aU;obtain⟨A3,c3,rfl,_⟩:=aD hown3;have HF:=ah (And.intro hA3 (HSL.out.trans eu));clear hA3 eu hg3 hown3 aU;try(refine hK _ _ ?_;clear hK K)
     refine bH 9 ?_;refine bH 10 ?_;refine bH 11 ?_;refine cK 12 fun K hK=>?_
     go_simp;try(refine hK _ _ ?_;clear hK K)
     refine bM ?_;try go_simp
     go_wp2_with fail
     go_end0
     exact⟨rfl,_,by rw[HAW.out];exact HF.out.1,Bh.out.trans HF.out.2⟩
 .have aa0:=Zd rfl;have HAD:=ah aa0;have HA1:=ah (HA0.out.eZ u.2);have HS1:=ah (HV1.out u);clear QH Xv Zd aa0;go_wp2_with fail
  go_end0
  exact⟨rfl,_,by rw[HAD.out];exact HA1.out,Bh.out.trans HS1.out⟩
end Go.Proofs.YtddkjbibjjehjaaGreatDoor
