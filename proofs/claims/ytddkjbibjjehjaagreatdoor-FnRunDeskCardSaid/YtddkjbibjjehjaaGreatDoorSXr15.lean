/-
  Texts that the proof rests on, joined: part 15.
-/
import Derived.Test.YtddkjbibjjehjaaGreatDoorSXr14
set_option maxHeartbeats 16000000
set_option maxRecDepth 100000
namespace Go.Proofs.YtddkjbibjjehjaaGreatDoor
open Go.RowKit Go.BigFrame
set_option linter.unusedVariables false
def pQ (D:bY)(t:Int):List Int:=match(opsOf D.wait t).head? with|some o=>if aK o then [] else eP D.av t o.item o.kind|none=> []
theorem Gt {D:bY}{t:Int} : ∀u∈pQ D t,0<=u/\u<=3:=by
 intro u hu;unfold pQ at hu;split at hu
 .split at hu
  .cases hu
  .exact vE u hu
 .cases hu
def Fe (T:Nat)(rows:List Nat)(us:List Int):List Nat:=us.foldl (fun R u=>jT R (T:Int) u) rows
def BI (D:bY):Nat->List Nat
 |0=> [0,0,0,0]
 |k+1=>Fe k (BI D k) (pQ D (k:Int))
theorem Iz {T:Nat}{us:List Int}(h: ∀u∈us,0<=u/\u<=3): ∀ {rows:List Nat},dA rows->dA (Fe T rows us):=by
 induction us with
 |nil=>exact fun h4=>h4
 |cons u r ih=>exact fun h4=>ih (fun v hv=>h v (List.mem_cons_of_mem _ hv)) (u_ h4 (h u (by simp)))
theorem OC {T:Nat}(hT:T<=3){us:List Int}(h: ∀u∈us,0<=u/\u<=3): ∀ {rows:List Nat},dA rows-> ∀t u:Nat,((Fe T rows us).getD t 0).testBit u=true↔(rows.getD t 0).testBit u=true\/(t=T/\(u:Int)∈us):=by
 induction us with
 |nil=>intro rows h4 t u;simp[Fe]
 |cons v r ih=>
  intro rows h4 t u;have hv:=h v (by simp)
  obtain⟨U,rfl⟩:=Int.eq_ofNat_of_zero_le hv.1;show((Fe T (jT rows (T:Int) (U:Int)) r).getD t 0).testBit u=true↔_
  rw[ih (fun x hx=>h x (List.mem_cons_of_mem _ hx)) (u_ h4 hv),kE h4 hT,Bool.or_eq_true,Bool.and_eq_true,decide_eq_true_eq,decide_eq_true_eq,List.mem_cons]
  constructor
  .rintro((h1|h1)|h1)
   .exact .inl h1
   .exact .inr ⟨h1.1,.inl (by omega)⟩
   .exact .inr ⟨h1.1,.inr h1.2⟩
  .rintro(h1|⟨h1,h2|h2⟩)
   .exact .inl (.inl h1)
   .exact .inl (.inr ⟨h1,by omega⟩)
   .exact .inr ⟨h1,h2⟩
theorem IB (D:bY)(k:Nat):dA (BI D k):=by
 induction k with
 |zero=>exact Ot
 |succ k ih=>exact Iz Gt ih
theorem Tn (D:bY)(k:Nat)(hk:k<=4)(t u:Nat):((BI D k).getD t 0).testBit u=true↔t<k/\(u:Int)∈pQ D (t:Int):=by
 induction k with
 |zero=>
  have:((BI D 0).getD t 0)=0:=by
   show([0,0,0,0] :List Nat).getD t 0=0
   match t with
   |0|1|2|3=>rfl
   |t+4=>rfl
  rw[this];simp
 |succ k ih=>
  show((Fe k (BI D k) (pQ D (k:Int))).getD t 0).testBit u=true↔_
  rw[OC (by omega) Gt (IB D k),ih (by omega)]
  constructor
  .rintro(⟨h1,h2⟩|⟨h1,h2⟩)
   .exact⟨by omega,h2⟩
   .subst h1;exact⟨by omega,h2⟩
  .rintro⟨h1,h2⟩;by_cases e:t=k
   .subst e;exact .inr ⟨rfl,h2⟩
   .exact .inl ⟨by omega,h2⟩
theorem J_ {D:bY}{t:Int}{u:Nat} :(mD D t).testBit u=true↔(u:Int)∈pQ D t:=by
 rw[pK];unfold pQ;split
 .rename_i o ho
  rw[ho];split
  .rename_i he;simp[he]
  .rename_i he;simp[he]
 .rename_i ho
  rw[ho];simp
theorem PX (D:bY):BI D 4=bW D:=DJ (IB D 4) (eX D) fun t u ht hu=>by
 rw[Bool.eq_iff_iff,Tn D 4 aj,vF D ht,J_];exact⟨fun h=>h.2,fun h=>⟨ht,h⟩⟩
theorem Ka {T:Nat}{rows:List Nat}{us:List Int}{p:Nat}{u:Int}(h:us[p]? =some u):Fe T rows (us.take (p+1))=jT (Fe T rows (us.take p)) (T:Int) u:=by
 unfold Fe;rw[List.take_add_one,h,Option.toList_some,List.foldl_append,List.foldl_cons,List.foldl_nil]
structure Kc (W0:World)(B g:Nat)(V:DV)(D:bY)(rows:List Nat)(wr:World):Prop where
 rows:iJ W0 W0.heap.size rows wr
 aO:aP wr B V D
 box:Boxed wr g V
section
variable {W0 wr W:World} {B g:Nat} {V:DV} {D:bY} {rows:List Nat}
theorem Kc.later (h:Kc W0 B g V D rows wr)(hb:Below wr.heap.size wr W):Kc W0 B g V D rows W:=⟨h.rows.later hb,h.aO.below hb,h.box.below hb⟩
theorem Kc.drew (h:Kc W0 B g V D rows wr):Kc W0 B g V D rows wr.drew:=⟨h.rows.drew,h.aO.drew,h.box⟩
theorem Kc.set (h:Kc W0 B g V D rows wr)(hf:eT V W0.heap.size)(hg:g<W0.heap.size){T:Nat}{u:Int}(hT:T<=3)(h4:dA rows){v:Int}(hv:v=((rows.getD T 0|||(1<<<u.toNat):Nat):Int)):
 Kc W0 B g V D (jT rows T u) (wr.setCell ⟨W0.heap.size,T,none⟩ (.int .i64 v)):=
 ⟨h.rows.set aj hT h4 hv,h.aO.set hf T _,h.box.other (by omega) T _⟩
end
def OD (w:World)(R:List Nat)(e:Ending)(w':World):Prop:= ∃G gc,e=.returned (.slice G 4 gc)/\aM w' G 4 (dD R)/\Below w.heap.size w w'
theorem zU (B:Nat)(V:DV)(D:bY)(w:World)(hd:aP w B V D)(hL:D.av.length<=9000)(hWt:D.wait.length<=9000):
 Calls Tryz.prog 98 #[V.val] w (OD w (bW D)):=by
 obtain⟨i0,hi,hz0,hz1,hz2⟩:=info_parts jI;obtain⟨W0,hW⟩: ∃W:World,W=w.alloc (.cells V.list.toArray 67):=⟨_,rfl⟩;have hD0:aP W0 B V D:=by rw[hW];exact hd.alloc _
 have hB0:Boxed W0 w.heap.size V:=by rw[hW];exact Boxed.new w V
 have hbW:Below w.heap.size w W0:=by rw[hW];exact aG.alloc aj _
 have bF:eT V W0.heap.size:=hD0.far aj;have hgl:=au.lt hB0;obtain⟨Ad,Aw,Al,Ak,nd,nw,nl,nk,cd,cw,cl,ck,rfl,hcs,h1,h2,h3,h4⟩:=hd.forms;have hbd:nl<=9000/\nw<=9000:=by omega
 have H2:=ah h2;have H3:=ah h3;have HD0:=ah hD0;have HB0:=ah hB0;have nD:=ah hbW;have Td:=ah bF;unfold DV.list at hW;simp only at hW;change W0=w.alloc (.cells #[.slice Ad nd cd,.slice Aw nw cw,.slice Al nl cl,.slice Ak nk ck] _) at hW;have HW:=ah hW;clear hD0 hB0 hbW bF hd h1 h2 h3 h4 hW;unfold DV.val;simp only;go_enter Tryz.func98,Tryz.ntmps98;go_wp2_with (at_make;rw[<-HW.out];refine wpList_make_full _ rfl _ _ 45 rfl W0.heap.size 3 i0 _ 1 Tryz.underlying45 hi hz0 hz1 .i64 .i64 _ _ 4 rfl rfl rfl rfl (by rw[hz2];omega) (by unfold maxLen;omega) aj ?_;intro w1 hown1 hg1)
 have hb1:Below W0.heap.size W0 w1:=⟨hg1.os,hg1.tape,hg1.output,hg1.size,fun k hk=>hg1.block k hk (by simp)⟩
 have hrow:au w1 W0.heap.size 3 (intCells (dD [0,0,0,0])++ []):=by
  rcases hown1.2 with⟨h1,_⟩|⟨g,cap,cur,h1,h2,h3,h4,h5,h6,h7⟩
  .cases h1
  .injection h1 with ha hb hc;injection ha with ha;injection ha with ha;subst ha;subst hc;unfold au;rw[h3];congr 2
   apply Array.ext'
   rw[List.take_of_length_le (by simpa using Nat.le_of_eq h6)] at h7
   rw[h7,uZ];rfl
 have HST:Hid (Kc W0 B w.heap.size ⟨.slice Ad nd cd,.slice Aw nw cw,.slice Al nl cl,.slice Ak nk ck⟩ D (BI D 0) w1):=⟨⟨hb1,hrow⟩,HD0.out.below hb1,HB0.out.below hb1⟩;clear hown1 hb1 hg1 hrow hi hz0 hz1 hz2 HW HD0 HB0;go_loopw [4] (fun i wr=> ∃k:Nat,k<=4/\i=.int .i64 k/\Kc W0 B w.heap.size ⟨.slice Ad nd cd,.slice Aw nw cw,.slice Al nl cl,.slice Ak nk ck⟩ D (BI D k) wr) (fun i _=>4- (intOf i).toNat)
 case atStart=>exact⟨0,Nat.zero_le _,rfl,HST.out⟩
 case round=>
  clear HST;obtain⟨wo,rfl⟩: ∃wo:World,wo=wr:=⟨_,rfl⟩;obtain⟨k,hk,rfl,hI⟩:=hrel;have HI:=ah hI;have hbs:=hI.rows.below.size;by_cases hlt:k<4
  .have hok:=IB D k;have hsu:BI D (k+1)=Fe k (BI D k) (pQ D (k:Int)):=rfl;obtain⟨b0,b1,b2,b3⟩:=hI.box.cells;simp only at b0 b1 b2 b3;have hro:aC wo Aw nw D.wait:=aC.aH (hI.aO.dh H2.out) (by omega)
   obtain⟨RO,hRO⟩: ∃R,BI D k=R:=⟨_,rfl⟩;obtain⟨MI,YE⟩: ∃M,opsOf D.wait (k:Int)=M:=⟨_,rfl⟩;have YF:=DX Aw nw cw D.wait (k:Int) wo hro;rw[YE] at YF;obtain⟨q,hq⟩: ∃q,MI.length=q:=⟨_,rfl⟩;have HQ:=ah hq;have PN:=ah hRO;have RN:=ah YE;have Vg:=ah YF;have xw:=ah hok;have Vh:=ah hsu;have hk4:(k:Int)<4:=by omega
   clear hI hro YF hRO YE hq hok hsu;rw[PN.out] at HI xw;cases YG:MI with
   |nil=>
    have OE:Hid (pQ D (k:Int)= []):=by show _=_;unfold pQ;rw[RN.out,YG];rfl
    have hq0:q=0:=by have:=HQ.out;rw[YG] at this;exact this.symm
    subst hq0;clear YG;go_wp2_with (go_at_call 60;go_loud (refine Vg.out.mono ?_;rintro e w2 ⟨MA,mc,rfl,hmc,⟨hrm,_⟩,hb2⟩;rw[HQ.out] at hmc hrm ⊢;have HI2:=ah (HI.out.later hb2)))
    go_roundw
    case rel=>exact⟨k+1,by omega,by go_num,by rw[Vh.out,PN.out,OE.out];exact HI2.out⟩
    case measure=>simp[intOf];omega
   |cons o rest=>
    have xD:Hid (MI[0]? =some o):=by show _=_;rw[YG];rfl
    have hq1:0<q:=by have:=HQ.out;rw[YG] at this;simp at this;omega
    have hw0:(opsOf D.wait (k:Int)).head? =some o:=by rw[RN.out,YG];rfl
    have HW0:=ah hw0;clear YG hw0;obtain⟨tx,kd,it⟩:=o;obtain⟨be,hbe⟩: ∃b,aK ⟨tx,kd,it⟩=b:=⟨_,rfl⟩;have nW:=ah hbe;clear hbe;cases be
    .have OE:Hid (pQ D (k:Int)=eP D.av (k:Int) it kd):=by show _=_;unfold pQ;rw[HW0.out];simp only;rw[if_neg (by rw[nW.out];simp)]
     obtain⟨XS,tK⟩: ∃XS,eP D.av (k:Int) it kd=XS:=⟨_,rfl⟩;obtain⟨m,hm⟩: ∃m,XS.length=m:=⟨_,rfl⟩;have xX:=ah tK;have HM:=ah hm;have iM: ∀u∈XS,0<=u/\u<=3:=by rw[<-tK];exact vE
     have hm4:m<=4:=by rw[<-hm,<-tK];exact List.length_filter_le _ _
     have RQ:=ah iM;clear tK hm iM;go_wp2_with (first
      |(go_at_call 60;go_loud (refine Vg.out.mono ?_;rintro e w2 ⟨MA,mc,rfl,hmc,⟨hrm,_⟩,hb2⟩;rw[HQ.out] at hmc hrm ⊢;have HI2:=ah (HI.out.later hb2);obtain⟨bm,om,o2,hMA,_,ho2,e0,e1,e2⟩:=hrm.at_ (k:=0) (by omega);rw[xD.out] at ho2;injection ho2 with ho2;subst ho2;subst hMA;simp only[Nat.zero_mul,Nat.add_zero] at e0 e1 e2;clear hrm hb2 b0 b1 b2 b3))
      |(go_at_call 87;go_loud (refine(bJ ⟨tx,kd,it⟩ _).mono ?_;rintro e w3 ⟨rfl,hb3⟩;rw[nW.out];have HI3:=ah (HI2.out.later hb3);have g1:=Later.cell e1 ⟨w3,hb3⟩;have g2:=Later.cell e2 ⟨w3,hb3⟩;simp only at g1 g2;clear hb3 e0 e1 e2)))
     obtain⟨c0,c1,c2,c3⟩:=HI3.out.box.cells;simp only at c0 c1 c2 c3;obtain⟨wd,hwd⟩: ∃wd:World,wd=w3.drew:=⟨_,rfl⟩;have HID:Hid (Kc W0 B w.heap.size ⟨.slice Ad nd cd,.slice Aw nw cw,.slice Al nl cl,.slice Ak nk ck⟩ D RO wd):=by show Kc _ _ _ _ _ _ _;rw[hwd];exact HI3.out.drew
     have hIW:=dU Al nl cl D.av (k:Int) it kd wd (aC.aH (HID.out.aO.h_ (n:=nl) H3.out) (by omega))
     rw[xX.out] at hIW;have nK:=ah hIW;have lY:=ah hwd;clear hIW Vg hwd;refine wp_region_still_tail 11 (by kernel_rfl) (by kernel_rfl) ?_
     simp only[List.take_succ_cons,List.take_zero,List.drop_succ_cons,List.drop_zero];repeat(first|still_step)
     refine wpStill_nil ?_;change wpList _ _ _ _ _ w3.drew;rw[<-lY.out];go_wp2_with (go_at_call 95;go_loud (refine nK.out.mono ?_;rintro e w4 ⟨LA,lc,rfl,hlc,⟨hrl,hfl⟩,hb4⟩;rw[HM.out] at hlc hrl ⊢))
     have HI4:=ah (HID.out.later hb4);have hne: ∀ad,LA=some ad->ad.block≠W0.heap.size:=fun ad had e=>by
      obtain⟨bb,cur,h1,h2,_⟩:=hfl ad had;subst h1;have:=HID.out.rows.below.size;have:=au.lt HID.out.rows.row;simp only at e;omega
     have YH:=ah hne;have Wn:=ah hrl;clear hrl hfl hb4 hne HID HI3 HI HI2 c0 c1 c2 c3 lY nK g1 g2;go_loopw [7] (fun i wr=> ∃p:Nat,p<=m/\i=.int .i64 p/\Kc W0 B w.heap.size ⟨.slice Ad nd cd,.slice Aw nw cw,.slice Al nl cl,.slice Ak nk ck⟩ D (Fe k RO (XS.take p)) wr/\aM wr LA m XS) (fun i _=>m- (intOf i).toNat)
     case atStart=>exact⟨0,Nat.zero_le _,rfl,HI4.out,Wn.out⟩
     case round=>
      clear HI4 Wn;obtain⟨wi,rfl⟩: ∃wi:World,wi=wr:=⟨_,rfl⟩;obtain⟨p,hp,rfl,hJ,hRL⟩:=hrel;have HJ:=ah hJ;have YI:=ah hRL;have hok2:dA (Fe k RO (XS.take p)):=Iz (fun u hu=>RQ.out u (List.mem_of_mem_take hu)) xw.out
      by_cases YJ:p<m
      .obtain⟨bL,oL,uu,Tg,hbl,hu,z0⟩:=hRL.at_ YJ;subst Tg;have hsn:=Ka (T:=k) (rows:=RO) hu;have hur:=RQ.out uu (List.mem_of_getElem? hu);obtain⟨U,rfl⟩:=Int.eq_ofNat_of_zero_le hur.1;have hk3:k<=3:=by omega
       obtain⟨hcr,hfz,xH⟩:=hJ.rows.at_ hok2 hk3;have aaA:=YH.out _ rfl;simp only at aaA;obtain⟨RJ,hRJ⟩: ∃R,Fe k RO (XS.take p)=R:=⟨_,rfl⟩;rw[hRJ] at hsn hcr xH hok2 HJ;obtain⟨r,hr⟩: ∃r,RJ.getD k 0=r:=⟨_,rfl⟩;obtain⟨wd2,hwd⟩: ∃wd:World,wd=wi.drew:=⟨_,rfl⟩;have hP2:(2^U:Nat)<16:=by
        rcases(by omega:U=0\/U=1\/U=2\/U=3) with e|e|e|e<;>rw[e] <;>decide
       have m_:Hid (∀v:Int,v=((r|||2^U:Nat):Int)->Kc W0 B w.heap.size ⟨.slice Ad nd cd,.slice Aw nw cw,.slice Al nl cl,.slice Ak nk ck⟩ D (Fe k RO (XS.take (p+1))) (wd2.setCell ⟨W0.heap.size,k,none⟩ (.int .i64 v))/\aM (wd2.setCell ⟨W0.heap.size,k,none⟩ (.int .i64 v)) (some ⟨bL,oL,none⟩) m XS):=by
        intro v hv;rw[hsn,hwd];refine⟨HJ.out.drew.set Td.out hgl hk3 hok2 (by rw[hr,hv,Int.toNat_natCast,Nat.one_shiftLeft]),?_⟩
        exact(show aM wi.drew _ _ _ from YI.out).grown fA fun ad had e=>by injection had with had;subst had;injection e with e;exact aaA e.symm
       rw[hr] at hcr xH;have hor:=jl r (2^U) (by omega) (by omega)
       have hPW: ∀W:World,Calls Tryz.prog 54 #[.int .i64 (U:Int)] W fun e w'=>e=.returned (.int .i64 ((2^U:Nat):Int))/\w'=W:=fun W=>(xg U W (by omega)).mono fun e w' h=>⟨h.1,h.2.symm⟩
       generalize hPP:2^U=p2 at*;have HPW:=ah hPW;have hk0:(0:Int)<=(k:Int):=by omega
       have hpm:(p:Int)< (m:Int):=by omega
       have hp0:(0:Int)<=(p:Int):=by omega
       have aay:wd2.cell? ⟨W0.heap.size,k,none⟩=some (.int .i64 (r:Int)):=by rw[hwd];exact hcr
       have aaz:wd2.frozen? ⟨W0.heap.size,k,none⟩=false:=by rw[hwd];exact hfz
       have HHS:=ah hP2;clear hr hsn hPP hPW hP2 hRJ hJ hRL hu hok2 HJ YI;go_wp2_with fail
       refine wp_region_still_tail 13 (by kernel_rfl) (by kernel_rfl) ?_
       simp only[List.take_succ_cons,List.take_zero,List.drop_succ_cons,List.drop_zero];repeat(first|still_step|still_call (HPW.out _))
       refine wpStill_nil ?_;change wpList _ _ _ _ _ wi.drew;rw[<-hwd];go_wp2_with fail
       go_roundw
       case rel=>exact⟨p+1,by omega,by go_num,(by first|exact m_.out _ rfl|(have h:=m_.out _ rfl;rw[hwd] at h;exact h))⟩
       case measure=>simp[intOf];omega
      .have hfin:Hid (Kc W0 B w.heap.size ⟨.slice Ad nd cd,.slice Aw nw cw,.slice Al nl cl,.slice Ak nk ck⟩ D (BI D (k+1)) wi):=by
        show Kc _ _ _ _ _ _ _
        rw[Vh.out,PN.out,OE.out,xX.out];have e:XS.take p=XS:=List.take_of_length_le (by have:=HM.out;omega)
        rw[e] at hJ;exact hJ
       clear hJ hRL HJ YI hok2;go_wp2_with fail
       go_roundw
       case rel=>exact⟨k+1,by omega,by go_num,hfin.out⟩
       case measure=>simp[intOf];omega
    .have OE:Hid (pQ D (k:Int)= []):=by show _=_;unfold pQ;rw[HW0.out];simp only;rw[if_pos nW.out]
     go_wp2_with (first
      |(go_at_call 60;go_loud (refine Vg.out.mono ?_;rintro e w2 ⟨MA,mc,rfl,hmc,⟨hrm,_⟩,hb2⟩;rw[HQ.out] at hmc hrm ⊢;have HI2:=ah (HI.out.later hb2);obtain⟨bm,om,o2,hMA,_,ho2,e0,e1,e2⟩:=hrm.at_ (k:=0) (by omega);rw[xD.out] at ho2;injection ho2 with ho2;subst ho2;subst hMA;simp only[Nat.zero_mul,Nat.add_zero] at e0 e1 e2;clear hrm hb2 b0 b1 b2 b3))
      |(go_at_call 87;go_loud (refine(bJ ⟨tx,kd,it⟩ _).mono ?_;rintro e w3 ⟨rfl,hb3⟩;rw[nW.out];have HI3:=ah (HI2.out.later hb3);have g1:=Later.cell e1 ⟨w3,hb3⟩;have g2:=Later.cell e2 ⟨w3,hb3⟩;simp only at g1 g2;clear hb3 e0 e1 e2)))
     go_roundw
     case rel=>exact⟨k+1,by omega,by go_num,by rw[Vh.out,PN.out,OE.out];exact HI3.out⟩
     case measure=>simp[intOf];omega
  .obtain rfl:k=4:=by omega
   rw[PX] at hI;have HO:Hid (OD w (bW D) (.returned (.slice (some ⟨W0.heap.size,0,none⟩) 4 4)) wo):=by
    have h4:(dD (bW D)).length=4:=rfl;exact⟨_,_,rfl,hI.rows.row.ints h4 (by omega),nD.out.trans (hI.rows.below.mono nD.out.size)⟩
   clear hI;go_wp2_with fail
   go_ret;exact HO.out
open Go.RowKit
theorem xI {p:Nat->Bool}{n i:Nat}(hi:i<n)(h:p i=true)(hno: ∀j,j<i->p j=false):(List.range n).find? p=some i:=by
 rw[List.find?_range_eq_some];exact⟨h,by simpa using hi,fun j hj=>by rw[hno j hj];rfl⟩
theorem lC {p:Nat->Bool}{n:Nat}(hno: ∀j,j<n->p j=false):(List.range n).find? p=none:=by
 rw[List.find?_eq_none];intro j hj;rw[hno j (List.mem_range.1 hj)];simp
section
variable {d:bY} {i:Nat} {o:ay}
theorem kK (r:dQ)(hi:d.wait[i]? =some o)(h:dN d i=true)(hno: ∀j,j<i->dN d j=false):bB r d=some (bK ⟨d.done,d.wait.take i++d.wait.drop (i+1),d.av,d.dead⟩ o):=by
 simp only[bB,xI (List.getElem?_eq_some_iff.1 hi).1 h hno,getD_at hi]
theorem Ke (hf: ∀j,j<d.wait.length->dN d j=false)(hi:d.wait[i]? =some o)(h:o9 d i=true)(hno: ∀j,j<i->o9 d j=false):bB .die d=some (bP d o.tx):=by
 simp only[bB,lC hf,xI (List.getElem?_eq_some_iff.1 hi).1 h hno,getD_at hi]
theorem pR (hf: ∀j,j<d.wait.length->dN d j=false)(hno: ∀j,j<d.wait.length->o9 d j=false):bB .die d=none:=by
 simp only[bB,lC hf,lC hno]
theorem D5 (hf: ∀j,j<d.wait.length->dN d j=false)(hi:d.wait[i]? =some o)(h:gK d i=true)(hno: ∀j,j<i->gK d j=false):bB .bA d=some (bP d ((aW d.av o).getLastD 0)):=by
 simp only[bB,lC hf,xI (List.getElem?_eq_some_iff.1 hi).1 h hno,getD_at hi]
theorem mG (hf: ∀j,j<d.wait.length->dN d j=false)(hno: ∀j,j<d.wait.length->gK d j=false):bB .bA d=none:=by
 simp only[bB,lC hf,lC hno]
theorem Gu (hf: ∀j,j<d.wait.length->dN d j=false)(hc:fI (bW d)≠ []):bB .wait d=some (bP d (vX (fI (bW d)))):=by
 simp only[bB,lC hf];rw[if_neg (by simpa using hc)]
theorem nP (hf: ∀j,j<d.wait.length->dN d j=false)(hc:fI (bW d)= []):bB .wait d=none:=by
 simp only[bB,lC hf];rw[if_pos (by rw[hc];rfl)]
theorem free_eq (hi:d.wait[i]? =some o):dN d i=(dV d.wait i&& (aW d.av o).isEmpty):=by unfold dN;rw[hi]
theorem IC (hi:d.wait[i]? =some o):o9 d i=(dV d.wait i&&decide ((aW d.av o).headD 0<o.tx)):=by unfold o9;rw[hi]
theorem uE (hi:d.wait[i]? =some o):gK d i=(dV d.wait i&&decide (o.tx< (aW d.av o).getLastD 0)):=by unfold gK;rw[hi]
theorem r9 (h:aK o=false)(L:List ay):aW L o=eP L o.tx o.item o.kind:=by unfold aW;rw[if_neg (by rw[h];simp)]
theorem vK (h:aK o=true)(L:List ay):aW L o= [] :=by unfold aW;rw[if_pos h]
theorem blocked (hi:d.wait[i]? =some o)(hf:dV d.wait i=true)(hn:dN d i=false):aK o=false/\aW d.av o=eP d.av o.tx o.item o.kind/\aW d.av o≠ [] :=by
 have h:=Mk hi hf hn;cases he:aK o
 .exact⟨rfl,r9 he _,h⟩
 .exact absurd (vK he _) h
theorem mH {p:Nat->Bool}{k:Nat}(h: ∀j,j<k->p j=false)(hk:p k=false): ∀j,j<k+1->p j=false:=fun j hj=>by
 by_cases e:j=k
 .subst e;exact hk
 .exact h j (by omega)
end
theorem Kg:(Tryz.prog.info? 45).map (fun i=>(i.zero,i.size,i.bytes))=some (some (.slice none 0 0),1,24):=by kernel_rfl
section
variable {w:World} {ops:Array Oper} {o:Oper} {a:Act} {K:Act->World->Prop} {Q:Exit->Act->World->Prop} {E:Prop}
theorem yM {P:Program}(hgd:o.guard=none)(s x:Operand)(t:TypeId)
 (ho:o.op=.call { callee:=.builtin .append,args:= #[s,x],argTypes:= #[t,t] })
 (base:Nat) (e:TypeId) (i:TypeInfo) (z:Value) (size bytes:Nat) (ht:P.underlying t=some (.slice e)) (hi:P.info? e=some i) (hz:i.zero=some z)
 (hsize:i.size=size) (hby:i.bytes=bytes) (hzs:z.cells.size=size) (hsz:0<size)
 (v:Value) (n:Nat) (xs:List Value) (hs:a.eval s=v) (hown:w.ownsRow base e size v n xs)
 (A:Option Addr) (m c:Nat) (news:List Value) (hx:a.eval x=.slice A m c) (hr:Src w size A m news)
 (h63:n+m<=maxLen) (hbytes:(n+m)*bytes<=140737488355328) (hbase:base<=w.heap.size)
 (h: ∀v' w',w'.ownsRow base e size v' (n+m) (xs++news)->w.grownBy w' v.ownBlock->(v'.ownBlock=v.ownBlock\/v'.ownBlock=some w.heap.size)->K (a.put o.dst v') w'):
 if Region.wanted o (yielded ops a.tmps)=true then Oper.wp P o a w K Q else E:=by
 have hw:Region.wanted o (yielded ops a.tmps)=true:=by simp[Region.wanted,hgd]
 rw[if_pos hw];obtain⟨v',w',hrun,h2,h3,h4⟩:=Hl (P:=P) base t o.type e i z size bytes ht hi hz hsize hby hzs hsz v n xs hown A m c news hr h63 hbytes hbase;unfold Oper.wp execOp;simp only[ho,resolve,invoke,builtin,Sem.run_bind,Sem.run_pure,Result.andThen_ok,List.map_toArray,List.map_cons,List.map_nil,hs,hx,hrun];exact h v' w' h2 h3 h4
theorem kL (s x:Operand){base:Nat}{v:Value}{n:Nat}{xs:List Int}(hown:w.ownsRow base 3 1 v n (intCells xs))(hbase:base<=w.heap.size)
 {A:Option Addr} {m c:Nat} {ys:List Int} (hr:aM w A m ys) (hn:n<=1099511627776)
 (hgd:o.guard=none) (ho:o.op=.call { callee:=.builtin .append,args:= #[s,x],argTypes:= #[45,45] }) (hs:a.eval s=v) (hx:a.eval x=.slice A m c)
 (h: ∀v' w',w'.ownsRow base 3 1 v' (n+m) (intCells (xs++ys))->w.grownBy w' v.ownBlock->(v'.ownBlock=v.ownBlock\/v'.ownBlock=some w.heap.size)->K (a.put o.dst v') w'):
 if Region.wanted o (yielded ops a.tmps)=true then Oper.wp Tryz.prog o a w K Q else E:=by
 obtain⟨i0,hi,hz0,hz1,hz2⟩:=info_parts jI;have hm:=hr.2.1;refine yM hgd s x _ ho base _ i0 _ 1 8 Tryz.underlying45 hi hz0 hz1 hz2 rfl (by decide) v n _ hs hown A m c _ hx hr.src (by simp only[maxLen];omega) (by omega) hbase ?_
 intro v' w' h1 h2 h3;have e:intCells xs++intCells ys=intCells (xs++ys):=by simp[intCells]
 rw[e] at h1;exact h v' w' h1 h2 h3
theorem PY (s x:Operand){base:Nat}{v:Value}{n:Nat}{rv:List Value}(hown:w.ownsRow base 45 1 v n rv)(hbase:base<=w.heap.size)
 {A:Option Addr} {m c:Nat} {rs:List Value} (hr:Src w 1 A m rs) (hn:n+m<=1099511627776)
 (hgd:o.guard=none) (ho:o.op=.call { callee:=.builtin .append,args:= #[s,x],argTypes:= #[59,59] }) (hs:a.eval s=v) (hx:a.eval x=.slice A m c)
 (h: ∀v' w',w'.ownsRow base 45 1 v' (n+m) (rv++rs)->w.grownBy w' v.ownBlock->(v'.ownBlock=v.ownBlock\/v'.ownBlock=some w.heap.size)->K (a.put o.dst v') w'):
 if Region.wanted o (yielded ops a.tmps)=true then Oper.wp Tryz.prog o a w K Q else E:=by
 obtain⟨i0,hi,hz0,hz1,hz2⟩:=info_parts Kg;exact yM hgd s x _ ho base _ i0 _ 1 24 Tryz.underlying59 hi hz0 hz1 hz2 rfl (by decide) v n _ hs hown A m c _ hx hr (by simp only[maxLen];omega) (by omega) hbase h
end
theorem jM {R:List Nat}(h:dA R){w:World}{A:Option Addr}(hr:aM w A 4 (dD R)){t:Nat}(ht:t<4): ∃b off,A=some ⟨b,off,none⟩/\b<w.heap.size/\w.cell? ⟨b,off+t,none⟩=some (.int .i64 ((R.getD t 0:Nat):Int))/\R.getD t 0<16:=by
 obtain⟨b,off,x,hA,hlt,hx,hc⟩:=hr.at_ ht;obtain⟨h1,h2⟩:=yt h (T:=t) (by omega)
 refine⟨b,off,hA,hlt,?_,h2⟩;rw[hc];simp only[intCells,List.getElem?_map,hx,Option.map_some] at h1;exact h1
theorem aN.eZ {w0 w w':World}{A:Option Addr}{n:Nat}{xs:List Int}(h:aN w0 w A n xs)(hb:Below w.heap.size w w'):aN w0 w' A n xs:=
 ⟨h.1.below hb aj,fun ad had=>by obtain⟨b,cur,e,h1,h2,h3⟩:=h.2 ad had;exact⟨b,cur,e,h1,(hb.block b (lt_of_block h2)).trans h2,h3⟩⟩
theorem aN.since {w0 w1 w:World}{A:Option Addr}{n:Nat}{xs:List Int}(h:aN w1 w A n xs)(hs:w0.heap.size<=w1.heap.size):aN w0 w A n xs:=
 ⟨h.1,fun ad had=>by obtain⟨b,cur,e,h1,h2,h3⟩:=h.2 ad had;exact⟨b,cur,e,by omega,h2,h3⟩⟩
theorem aN.Tp {w0 w w':World}{A:Option Addr}{n:Nat}{xs:List Int}{row:Option Nat}(h:aN w0 w A n xs)(hg:w.grownBy w' row)(hne: ∀g,row=some g-> ∀cur,w.heap[g]? ≠some (.cells cur 3 (0,0))):aN w0 w' A n xs:=by
 have hblk: ∀ad,A=some ad-> ∃b cur,ad=⟨b,0,none⟩/\w0.heap.size<=b/\w.heap[b]? =some (.cells cur 3 (0,0))/\n<=cur.size/\w'.heap[b]? =w.heap[b]? :=fun ad had=>by
  obtain⟨b,cur,e,h1,h2,h3⟩:=h.2 ad had;exact⟨b,cur,e,h1,h2,h3,hg.block b (lt_of_block h2) (fun e=>hne b e.symm cur h2)⟩
 refine⟨⟨h.1.1,h.1.2.1,fun hn=>?_⟩,fun ad had=>?_⟩
 .obtain⟨b,off,hA,hlt,hc⟩:=h.1.2.2 hn;obtain⟨b',cur,e,_,_,_,hk⟩:=hblk _ hA;injection e with e1 e2 _;subst e1;have hs:=World.grownBy.size hg;exact⟨b,off,hA,by omega,fun i x hx=>(World.cell?_of_block (w:=w) (a:=⟨b,off+i,none⟩) hk).trans (hc i x hx)⟩
 .obtain⟨b,cur,e,h1,h2,h3,hk⟩:=hblk ad had;exact⟨b,cur,e,h1,hk.trans h2,h3⟩
def eG (w0 w:World)(rv:List Value)(xss:List (List Int)):Prop:=
 rv.length=xss.length/\ ∀ (i:Nat) (xs:List Int),xss[i]? =some xs-> ∃B c,rv[i]? =some (.slice B xs.length c)/\xs.length<=c/\aN w0 w B xs.length xs
theorem eG.nil {w0 w:World} :eG w0 w [] [] :=⟨rfl,fun i xs h=>by simp at h⟩
theorem eG.below {w0 w w':World}{rv:List Value}{xss:List (List Int)}(h:eG w0 w rv xss)(hb:Below w.heap.size w w'):eG w0 w' rv xss:=
 ⟨h.1,fun i xs hi=>by obtain⟨C,c,e,hmc,hr⟩:=h.2 i xs hi;exact⟨C,c,e,hmc,hr.eZ hb⟩⟩
theorem eG.since {w0 w1 w:World}{rv:List Value}{xss:List (List Int)}(h:eG w1 w rv xss)(hs:w0.heap.size<=w1.heap.size):eG w0 w rv xss:=
 ⟨h.1,fun i xs hi=>by obtain⟨C,c,e,hmc,hr⟩:=h.2 i xs hi;exact⟨C,c,e,hmc,hr.since hs⟩⟩
theorem eG.grown {w0 w w':World}{rv:List Value}{xss:List (List Int)}{row:Option Nat}(h:eG w0 w rv xss)(hg:w.grownBy w' row)(hne: ∀g,row=some g-> ∀cur,w.heap[g]? ≠some (.cells cur 3 (0,0))):eG w0 w' rv xss:=
 ⟨h.1,fun i xs hi=>by obtain⟨C,c,e,hmc,hr⟩:=h.2 i xs hi;exact⟨C,c,e,hmc,hr.Tp hg hne⟩⟩
theorem eG.append {w0 w:World}{rv rs:List Value}{xss yss:List (List Int)}(h:eG w0 w rv xss)(k:eG w0 w rs yss):eG w0 w (rv++rs) (xss++yss):=by
 refine⟨by simp[h.1,k.1],fun i xs hi=>?_⟩
 rcases Nat.lt_or_ge i xss.length with hlt|hge
 .rw[List.getElem?_append_left hlt] at hi;obtain⟨C,c,e,r⟩:=h.2 i xs hi;exact⟨C,c,by rw[List.getElem?_append_left (by rw[h.1];exact hlt)];exact e,r⟩
 .rw[List.getElem?_append_right hge] at hi;obtain⟨C,c,e,r⟩:=k.2 _ xs hi;exact⟨C,c,by rw[List.getElem?_append_right (by rw[h.1];exact hge),h.1];exact e,r⟩
theorem eG.one {w0 w:World}{rv:List Value}{xss:List (List Int)}(h:eG w0 w rv xss): ∀u∈rv,u.oneCell'=true:=by
 intro u hu;obtain⟨i,hi⟩:=List.mem_iff_getElem?.1 hu;have hl:=(List.getElem?_eq_some_iff.1 hi).1;obtain⟨C,c,e,_⟩:=h.2 i _ (List.getElem?_eq_getElem (by rw[<-h.1];exact hl))
 rw[e] at hi;injection hi with hi;rw[<-hi];rfl
theorem eG.lit {w0 w:World}{B:Option Addr}{n c:Nat}{xs:List Int}(hn:xs.length=n)(hc:n<=c)(h:aN w0 w B n xs):eG w0 w [.slice B n c] [xs] :=by
 subst hn;refine⟨rfl,fun i ys hi=>?_⟩
 match i,hi with
 |0,hi=>
  simp only[List.getElem?_cons_zero,Option.some.injEq] at hi;subst hi;exact⟨B,c,rfl,hc,h⟩
 |i+1,hi=>simp at hi
theorem zV {w:World}{base n:Nat}{v:Value}{rv:List Value}(h:w.ownsRow base 45 1 v n rv): ∀g,v.ownBlock=some g-> ∀cur,w.heap[g]? ≠some (.cells cur 3 (0,0)):=by
 intro g hg cur hc;rcases h.2 with⟨h1,h2⟩|⟨g',cap,cur',h1,h2,h3,h4,h5,h6,h7⟩
 .rw[h1] at hg;cases hg
 .rw[h1] at hg;have:g'=g:=by simpa[Value.ownBlock] using hg
  subst this;rw[h3] at hc;injection hc with hc;injection hc with _ ht _;exact absurd ht (by decide)
def uF (w0 w:World)(A:Option Addr)(n:Nat)(rv:List Value):Prop:=
 Src w 1 A n rv/\ ∀ad,A=some ad-> ∃b cur,ad=⟨b,0,none⟩/\w0.heap.size<=b/\w.heap[b]? =some (.cells cur 45 (0,0))
theorem uF.aH {w0 w:World}{base n c:Nat}{A:Option Addr}{rv:List Value}(h:w.ownsRow base 45 1 (.slice A n c) n rv)(hb:w0.heap.size<=base)(h1: ∀u∈rv,u.oneCell'=true):uF w0 w A n rv:=by
 have hl:rv.length=n:=by have:=h.1;omega
 rcases h.2 with⟨e1,e2⟩|⟨g,cap,cur,e1,e2,e3,e4,e5,e6,e7⟩
 .injection e1 with ha hb' hc;subst ha;subst e2;exact⟨⟨by omega,h1,fun h0=>absurd h0 (by omega)⟩,fun ad had=>by cases had⟩
 .injection e1 with ha _ hc;subst ha;refine⟨⟨by omega,h1,fun h0=>⟨_,rfl,fun j u hu=>h.cells (g:=g) (by simp[Value.ownBlock]) j u hu⟩⟩,fun ad had=>?_⟩
  injection had with had;subst had;exact⟨g,cur,rfl,by omega,e3⟩
def dP (w0:World)(xss:List (List Int))(e:Ending)(w:World):Prop:=
 ∃A c rv,e=.returned (.slice A xss.length c)/\xss.length<=c/\uF w0 w A xss.length rv/\eG w0 w rv xss/\Below w0.heap.size w0 w
theorem dP.form {w0 w:World}{xss:List (List Int)}{e:Ending}(h:dP w0 xss e w): ∃A c n rv,e=.returned (.slice A n c)/\Hid (xss.length=n)/\n<=c/\uF w0 w A n rv/\eG w0 w rv xss/\Below w0.heap.size w0 w:=by
 obtain⟨A,c,rv,h⟩:=h;exact⟨A,c,_,rv,h.1,rfl,h.2⟩
theorem dP.nil {w0 w:World}(h:Below w0.heap.size w0 w):dP w0 [] (.returned (.slice none 0 0)) w:=
 ⟨none,0,[],rfl,Nat.le_refl _,⟨⟨rfl,by simp,fun h=>absurd h (by simp)⟩,fun ad h=>by cases h⟩,eG.nil,h⟩
theorem dP.aH {w0 w:World}{xss:List (List Int)}{A:Option Addr}{n c base:Nat}{rv:List Value}(hn:xss.length=n)(hc:n<=c)(h:w.ownsRow base 45 1 (.slice A n c) n rv)(hbase:w0.heap.size<=base)(hr:eG w0 w rv xss)(hb:Below w0.heap.size w0 w):dP w0 xss (.returned (.slice A n c)) w:=by
 subst hn;exact⟨A,c,rv,rfl,hc,uF.aH h hbase hr.one,hr,hb⟩
theorem dP.dB {w0 w1:World}{xs:List Int}{A:Option Addr}{n c:Nat}(hn:xs.length=n)(hc:n<=c)(hf:aN w0 w1 A n xs)(hb:Below w0.heap.size w0 w1):
 dP w0 [xs] (.returned (.slice (some ⟨w1.heap.size,0,none⟩) 1 1)) (w1.alloc (.cells #[.slice A n c] 45)):=by
 have hs:=hb.size;refine⟨_,_,[.slice A n c],rfl,Nat.le_refl _,⟨⟨rfl,by simp[Value.oneCell'],fun _=>⟨_,rfl,fun j u hu=>?_⟩⟩,fun ad had=>?_⟩,eG.lit hn hc (hf.eZ (aG.alloc aj _)),hb.alloc hs _⟩
 .match j,hu with
  |0,hu=>
   simp only[List.getElem?_cons_zero,Option.some.injEq] at hu;subst hu;rw[addr_add];exact aV _ _ _ _ _ (by simp)
  |j+1,hu=>simp at hu
 .injection had with had;subst had;exact⟨_,_,rfl,hs,heap_alloc_new w1 _⟩
def yN (w wr:World)(ov:Value)(xss:List (List Int)):Prop:= ∃ (N:Nat) (rv:List Value),N<=1024/\xss.length=N/\Below w.heap.size w wr/\wr.ownsRow w.heap.size 45 1 ov N rv/\eG w wr rv xss
theorem yN.later {w wr W:World}{ov:Value}{xss:List (List Int)}(h:yN w wr ov xss)(hb:Below wr.heap.size wr W):yN w W ov xss:=by
 obtain⟨N,rv,hN,hl,h1,h2,h3⟩:=h;exact⟨N,rv,hN,hl,h1.trans (hb.mono h1.size),own_below h2 hb,h3.below hb⟩
theorem xJ (b off n c:Nat)(xs:List Int)(w:World)(hx:aM w (some ⟨b,off,none⟩) n xs):
 Calls Tryz.prog 154 #[.slice (some ⟨b,off,none⟩) n c] w (aT w xs):=by
 have hl:=hx.1;have hn:=hx.2.1;have HX1:Hid (aM (w.alloc (.cells #[] 3)) (some ⟨b,off,none⟩) n xs):=hx.below ((Below.refl _ w).alloc aj _) aj;have HST:Hid ((w.alloc (.cells #[] 3)).ownsRow w.heap.size 3 1 (.slice (some ⟨w.heap.size,0,none⟩) 0 0) 0 (intCells [])):=
  World.ownsRow_made w #[] 0 aj (by decide) rfl
 have hz: ∀w1:World,(binOp .eql 45 (.slice (some ⟨b,off,none⟩) n c) (.slice none 0 0)).run Tryz.prog w1=.ok (.bool false) w1:=fun w1=>Go.Lib.run_eql_slice_nil w1 45 3 (some ⟨b,off,none⟩) n c 0 0 Tryz.underlying45
 clear hx;go_enter Tryz.func154,Tryz.ntmps154;go_wp2_with (at_builtin;refine gI (.tmp 5) (.tmp 6) HST.out (by simp) HX1.out (by omega) rfl rfl rfl rfl ?_;intro v1 w1 hown1 hg1 jN)
 have hb1:Below w.heap.size w w1:=Below.own ((Below.refl _ w).alloc aj _) HST.out aj hg1;rw[List.nil_append,Nat.zero_add] at hown1;obtain⟨A1,c1,rfl,hc1⟩:=aD hown1;have HO:=ah (aT.mk hl hc1 (aN.aH (w0:=w) hown1 aj (by omega)) hb1)
 clear hown1 hg1 jN HST HX1 hb1;go_wp2_with fail
 go_ret;exact HO.out
end Go.Proofs.YtddkjbibjjehjaaGreatDoor
