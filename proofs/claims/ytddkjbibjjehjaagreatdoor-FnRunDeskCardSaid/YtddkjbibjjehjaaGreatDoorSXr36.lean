/-
  Texts that the proof rests on, joined: part 36.
-/
import Derived.Test.YtddkjbibjjehjaaGreatDoorSXr29
set_option maxHeartbeats 16000000
set_option maxRecDepth 100000
namespace Go.Proofs.YtddkjbibjjehjaaGreatDoor
open Go.RowKit Go.BigFrame
set_option linter.unusedVariables false
theorem iX {W:List ay}{x:Int} :x∈cZ W↔ ∃i o,W[i]? =some o/\dV W i=true/\x=(i:Int):=by
 unfold cZ p8;rw[List.mem_map];constructor
 .rintro⟨i,hi,rfl⟩;obtain⟨h1,h2⟩:=List.mem_filter.1 hi;have:=List.mem_range.1 h1;exact⟨i,_,List.getElem?_eq_getElem this,h2,rfl⟩
 .rintro⟨i,o,h1,h2,rfl⟩;exact⟨i,List.mem_filter.2 ⟨List.mem_range.2 (List.getElem?_eq_some_iff.1 h1).1,h2⟩,rfl⟩
theorem GX {W:List ay}{t:Int}{o:ay} :(opsOf W t).head? =some o↔ ∃i,W[i]? =some o/\dV W i=true/\o.tx=t:=by
 unfold opsOf;rw[List.head?_filter,List.find?_eq_some_iff_getElem];constructor
 .rintro⟨h1,i,hi,h2,h3⟩;have e:W[i]? =some o:=by rw[List.getElem?_eq_getElem hi,h2]
  have h1':o.tx=t:=by simpa using h1
  refine⟨i,e,?_,h1'⟩;unfold dV;rw[e];simp only;rw[List.all_eq_true];intro p hp;obtain⟨j,hj⟩:=List.mem_iff_getElem?.1 hp;rw[List.getElem?_take] at hj;split at hj
  .rename_i hji
   have:=h3 j hji;rw[(List.getElem?_eq_some_iff.1 hj).2] at this;rw[h1'];simpa using this
  .cases hj
 .rintro⟨i,e,hf,h1⟩;obtain⟨hi,h2⟩:=List.getElem?_eq_some_iff.1 e;refine⟨by simpa using h1,i,hi,h2,fun j hj=>?_⟩
  unfold dV at hf;rw[e] at hf;simp only at hf;rw[List.all_eq_true] at hf;have ej:(W.take i)[j]? =some (W[j]'(by omega)):=by rw[List.getElem?_take,if_pos hj,List.getElem?_eq_getElem (by omega)]
  have:=hf _ (List.mem_of_getElem? ej);rw[h1] at this;simpa using this
def XZ (D:bY)(x:Int):ay:=D.wait.getD x.toNat ay.zero
theorem Ew {D:bY}{i:Nat}{o:ay}(h:D.wait[i]? =some o):XZ D (i:Int)=o:=by unfold XZ;rw[Int.toNat_natCast];exact getD_at h
def FB (D:bY)(k:Nat):List Nat:=((cZ D.wait).take k).foldl (fun R x=>Fe (XZ D x).tx.toNat R (aW D.av (XZ D x))) [0,0,0,0]
theorem Ey {D:bY}{k:Nat}{x:Int}(h:(cZ D.wait)[k]? =some x):FB D (k+1)=Fe (XZ D x).tx.toNat (FB D k) (aW D.av (XZ D x)):=by
 unfold FB;rw[List.take_add_one,h,Option.toList_some,List.foldl_append,List.foldl_cons,List.foldl_nil]
theorem zf {L:List ay}{o:ay} : ∀u∈aW L o,0<=u/\u<=3:=fun u hu=>(jK.1 hu).2.1
theorem Nv (D:bY)(k:Nat):dA (FB D k):=by
 induction k with
 |zero=>exact Ot
 |succ k ih=>
  cases h:(cZ D.wait)[k]? with
  |none=>
   have:(cZ D.wait).length<=k:=by simpa using h
   unfold FB at*;rw[List.take_of_length_le (by omega)]
   rw[List.take_of_length_le this] at ih;exact ih
  |some x=>rw[Ey h];exact Iz zf ih
theorem W9 {D:bY}(hv: ∀o∈D.wait,aJ o=true)(k:Nat)(t u:Nat):((FB D k).getD t 0).testBit u=true↔ ∃j x,j<k/\(cZ D.wait)[j]? =some x/\(XZ D x).tx=(t:Int)/\(u:Int)∈aW D.av (XZ D x):=by
 induction k with
 |zero=>
  have:((FB D 0).getD t 0)=0:=by
   show([0,0,0,0] :List Nat).getD t 0=0
   match t with
   |0|1|2|3=>rfl
   |t+4=>rfl
  rw[this];simp
 |succ k ih=>
  cases h:(cZ D.wait)[k]? with
  |none=>
   have hl:(cZ D.wait).length<=k:=by simpa using h
   have e:FB D (k+1)=FB D k:=by unfold FB;rw[List.take_of_length_le (by omega),List.take_of_length_le hl]
   rw[e,ih];constructor
   .rintro⟨j,x,h1,h2⟩;exact⟨j,x,by omega,h2⟩
   .rintro⟨j,x,h1,h2,h3⟩;have:=(List.getElem?_eq_some_iff.1 h2).1;exact⟨j,x,by omega,h2,h3⟩
  |some x=>
   obtain⟨i,o,h1,h2,rfl⟩:=iX.1 (List.mem_of_getElem? h);obtain⟨htx,_⟩:=dW (hv o (List.mem_of_getElem? h1));have ho:=Ew h1;rw[Ey h,OC (by rw[ho];omega) zf (Nv D k),ih,ho]
   constructor
   .rintro(⟨j,y,a,b⟩|⟨a,b⟩)
    .exact⟨j,y,by omega,b⟩
    .exact⟨k,_,by omega,h,by rw[ho];omega,by rw[ho];exact b⟩
   .rintro⟨j,y,a,b,c,d⟩;by_cases e:j=k
    .subst e;rw[h] at b;injection b with b;subst b;rw[ho] at c d;exact .inr ⟨by omega,d⟩
    .exact .inl ⟨j,y,by omega,b,c,d⟩
theorem W_ {D:bY}(hv: ∀o∈D.wait,aJ o=true):FB D (cZ D.wait).length=bW D:=DJ (Nv D _) (eX D) fun t u ht hu=>by
 rw[Bool.eq_iff_iff,W9 hv,vF D ht,pK];constructor
 .rintro⟨j,x,_,h2,h3,h4⟩;obtain⟨i,o,e1,e2,rfl⟩:=iX.1 (List.mem_of_getElem? h2);rw[Ew e1] at h3 h4;have hm:=jK.1 h4;refine⟨o,GX.2 ⟨i,e1,e2,h3⟩,hm.1,?_⟩;rw[<-h3,<-r9 hm.1];exact h4
 .rintro⟨o,h1,h2,h3⟩;obtain⟨i,e1,e2,e3⟩:=GX.1 h1;obtain⟨j,hj⟩:=List.mem_iff_getElem?.1 (iX.2 ⟨i,o,e1,e2,rfl⟩);refine⟨j,_,(List.getElem?_eq_some_iff.1 hj).1,hj,by rw[Ew e1];exact e3,?_⟩
  rw[Ew e1,r9 h2,e3];exact h3
theorem Ja (B R tg:Nat)(m:Value)(V:DV)(D:bY)(w:World)(h:bO w B R tg m V D)(hv: ∀o∈D.wait,aJ o=true)(hc:Compat D.av)(hN:D.wait.length<=9000):
 Calls Tryz.prog 203 #[.pointer (some ⟨R,0,none⟩)] w (aT w (dD (bW D))):=by
 obtain⟨Ad,Aw,Al,Ak,nd,n,nl,nk,cd,cw,cl,ck,rfl,hcs,f1,f2,f3,f4⟩:=h.forms;obtain⟨i0,hi,hz0,hz1,hz2⟩:=info_parts jI;have hcw:=hcs.2.1;have HH:Hid (∀W,Below w.heap.size w W->bO W B R tg m ⟨.slice Ad nd cd,.slice Aw n cw,.slice Al nl cl,.slice Ak nk ck⟩ D):=fun W hW=>h.eZ hW
 have HX:Hid (∀W,Below w.heap.size w W->aC W Aw n D.wait):=fun W hW=>aC.aH ((h.eZ hW).aO.dh f2) (by omega)
 have HV:=ah hv;have HC:=ah hc;have HE:Hid (FB D (cZ D.wait).length=bW D):=W_ hv;have HN:Hid (D.wait.length=n):=f2;have hn9:n<=9000:=by omega
 clear h hv hc hcs f1 f2 f3 f4;go_enter Tryz.func203,Tryz.ntmps203;go_wp2_with (at_make;refine wpList_make_full _ rfl _ _ 45 rfl w.heap.size 3 i0 _ 1 Tryz.underlying45 hi hz0 hz1 .i64 .i64 _ _ 4 rfl rfl rfl rfl (by rw[hz2];omega) (by unfold maxLen;omega) aj ?_;intro w1 hown1 hg1)
 have hb1:Below w.heap.size w w1:=⟨hg1.os,hg1.tape,hg1.output,hg1.size,fun k hk=>hg1.block k hk (by simp)⟩
 have hrow:au w1 w.heap.size 3 (intCells (dD [0,0,0,0])++ []):=by
  rcases hown1.2 with⟨h1,_⟩|⟨g,cap,cur,h1,h2,h3,h4,h5,h6,h7⟩
  .cases h1
  .injection h1 with ha hb hc;injection ha with ha;injection ha with ha;subst ha;subst hc;unfold au;rw[h3];congr 2
   apply Array.ext'
   rw[List.take_of_length_le (by simpa using Nat.le_of_eq h6)] at h7
   rw[h7,uZ];rfl
 have hsg:iJ w w.heap.size (FB D 0) w1:=⟨hb1,hrow⟩;have hgw:=au.lt hrow;have hhd:=qN B R tg m _ D w1 (HH.out w1 hb1) HV.out (by have:=HN.out;omega)
 have HSG:=ah hsg;have zS:=ah hhd;clear hown1 hb1 hg1 hrow hi hz0 hz1 hz2 hsg hhd;go_wp2_with fail
 refine zS.out.mono ?_;rintro e w2 ⟨HA,hac,rfl,Xa,hfr,hb2⟩;obtain⟨q,hq⟩: ∃q,(cZ D.wait).length=q:=⟨_,rfl⟩;have HQ:=ah hq;rw[hq] at Xa hfr HE ⊢;have VE:=hfr.1.2.1;have hnh: ∀ad,HA=some ad->ad.block≠w.heap.size:=fun ad had=>by
  obtain⟨b,_,rfl,hb,_⟩:=hfr.2 ad had;show b≠_
  omega
 have HNH:=ah hnh;have HST:Hid (iJ w w.heap.size (FB D 0) w2/\aM w2 HA q (cZ D.wait)):=⟨HSG.out.later hb2,hfr.1⟩;clear HSG zS hb2 hfr hq hnh;go_wp2_with fail
 go_loopw [13] (fun i wr=> ∃k:Nat,k<=q/\i=.int .i64 k/\iJ w w.heap.size (FB D k) wr/\aM wr HA q (cZ D.wait)) (fun i _=>q- (intOf i).toNat)
 case atStart=>exact⟨0,Nat.zero_le _,rfl,HST.out.1,HST.out.2⟩
 case round=>
  clear HST;obtain⟨wo,rfl⟩: ∃z:World,z=wr:=⟨_,rfl⟩;obtain⟨k,hk,rfl,hI,hH⟩:=hrel;have hbs:=hI.below.size;have hwo:=au.lt hI.row;by_cases hlt:k<q
  .obtain⟨bh,BN,x,Xb,hbl,hx,ch⟩:=hH.at_ hlt;subst Xb;obtain⟨X,o,ho,hfx,rfl⟩:=iX.1 (List.mem_of_getElem? hx);have UH:X<n:=by have:=(List.getElem?_eq_some_iff.1 ho).1;have:=HN.out;omega
   obtain⟨b,off,o',hA',UJ,ho',c0,c1,c2⟩:=(HX.out wo hI.below).at_ UH;rw[ho] at ho';injection ho' with ho';subst ho';subst hA';have Bj:=HV.out o (List.mem_of_getElem? ho);obtain⟨htx,_,_⟩:=dW Bj;have hts:=Ey hx;rw[Ew ho] at hts;have hA:=HH.out wo hI.below;have r1:wo.cell? ⟨R,1,none⟩=some (.slice (some ⟨b,off,none⟩) n cw):=hA.cells.2.1;obtain⟨W,hW⟩: ∃W:World,W=wo.alloc (.cells #[.int .i64 o.tx,.int .i64 o.kind,.int .i64 o.item] 89):=⟨_,rfl⟩;have hbW:Below wo.heap.size wo W:=by rw[hW];exact aG.alloc aj _
   have hbx:au W wo.heap.size 89 [.int .i64 o.tx,.int .i64 o.kind,.int .i64 o.item] :=by rw[hW];exact heap_alloc_new wo _
   have hsW:W.heap.size=wo.heap.size+1:=by rw[hW];simp
   have hiw:=iW B R tg m _ D o W (HH.out W (hI.below.trans (hbW.mono hbs))) Bj HC.out;have hok:=Nv D k;have HW:=ah hW;have iD:=ah hbx;have nK:=ah hiw;have Z5:=ah hts;have HIL:=ah (hI.later hbW);have VF:=ah (hH.below hbW aj);have xw:=ah hok;have OE:=ah (zf (L:=D.av) (o:=o));obtain⟨way,nO⟩: ∃z,aW D.av o=z:=⟨_,rfl⟩;rw[nO] at nK Z5 OE;obtain⟨tx,kd,it⟩:=o;unfold ay.val at nK;simp only at c0 c1 c2 htx HW iD nK Z5;obtain⟨T,rfl⟩:=Int.eq_ofNat_of_zero_le htx.1;rw[Int.toNat_natCast] at Z5;have Bc:T<=3:=by omega
   have hki:(k:Int)< (q:Int):=by omega
   have hk0:(0:Int)<=(k:Int):=by omega
   have hXi:(X:Int)< (n:Int):=by omega
   have hX0:(0:Int)<=(X:Int):=by omega
   clear hI hH hA hx ho hfx Bj hts hW hbx hbW hiw hok nO;go_wp2_with fail
   rw[<-HW.out];refine nK.out.mono ?_;rintro e w4 ⟨WA,wc,rfl,hwc,hwf,hb4⟩;obtain⟨z,hz⟩: ∃z,way.length=z:=⟨_,rfl⟩;have HZ:=ah hz;rw[hz] at hwc hwf ⊢;have hnw: ∀ad,WA=some ad->ad.block≠w.heap.size:=fun ad had=>by
    obtain⟨b',_,rfl,hb',_⟩:=hwf.2 ad had;show b'≠_
    omega
   have QJ:=ah hnw;have HST:Hid (iJ w w.heap.size (Fe T (FB D k) (way.take 0)) w4/\aM w4 (some ⟨bh,BN,none⟩) q (cZ D.wait)/\aM w4 WA z way/\au w4 wo.heap.size 89 [.int .i64 (T:Int),.int .i64 kd,.int .i64 it]):=
    ⟨HIL.out.later hb4,VF.out.below hb4 aj,hwf.1,au.below iD.out hb4 aj⟩
   have hwz:=hwf.1.2.1;clear HIL VF iD nK hb4 hwf hnw hz c0 c1 c2 r1 ch;go_wp2_with fail
   go_loopw [29] (fun i wr=> ∃j:Nat,j<=z/\i=.int .i64 j/\iJ w w.heap.size (Fe T (FB D k) (way.take j)) wr/\aM wr (some ⟨bh,BN,none⟩) q (cZ D.wait)/\aM wr WA z way/\au wr wo.heap.size 89 [.int .i64 (T:Int),.int .i64 kd,.int .i64 it]) (fun i _=>z- (intOf i).toNat)
   case atStart=>exact⟨0,Nat.zero_le _,rfl,HST.out.1,HST.out.2.1,HST.out.2.2.1,HST.out.2.2.2⟩
   case round=>
    clear HST;obtain⟨wi,rfl⟩: ∃z:World,z=wr:=⟨_,rfl⟩;obtain⟨j,hj,rfl,hI,hH,hWy,hbx⟩:=hrel;by_cases Y5:j<z
    .obtain⟨bw,UK,u,hWA,hbw,hu,cu⟩:=hWy.at_ Y5;subst hWA;have hur:=OE.out u (List.mem_of_getElem? hu);have hsn:=Ka (T:=T) (rows:=FB D k) hu;obtain⟨U,rfl⟩:=Int.eq_ofNat_of_zero_le hur.1;have hU3:U<=3:=by omega
     have hok2:dA (Fe T (FB D k) (way.take j)):=Iz (fun v hv=>OE.out v (List.mem_of_mem_take hv)) xw.out
     obtain⟨hat,hfz,xH⟩:=hI.at_ hok2 Bc;obtain⟨RO,hRO⟩: ∃RO,Fe T (FB D k) (way.take j)=RO:=⟨_,rfl⟩;rw[hRO] at hat xH hok2 hsn hI;obtain⟨r,hr⟩: ∃r,RO.getD T 0=r:=⟨_,rfl⟩;rw[hr] at hat xH;have m_:Hid (∀v:Int,v=((r|||(1<<< ((U:Int)).toNat):Nat):Int)->iJ w w.heap.size (Fe T (FB D k) (way.take (j+1))) (wi.setCell ⟨w.heap.size,T,none⟩ (.int .i64 v)).drew/\aM (wi.setCell ⟨w.heap.size,T,none⟩ (.int .i64 v)).drew (some ⟨bh,BN,none⟩) q (cZ D.wait)/\aM (wi.setCell ⟨w.heap.size,T,none⟩ (.int .i64 v)).drew (some ⟨bw,UK,none⟩) z way/\au (wi.setCell ⟨w.heap.size,T,none⟩ (.int .i64 v)).drew wo.heap.size 89 [.int .i64 (T:Int),.int .i64 kd,.int .i64 it]):=by
      intro v hv;have hg:wi.grownBy (wi.setCell ⟨w.heap.size,T,none⟩ (.int .i64 v)).drew (some w.heap.size):=World.grownBy.trans fA (fq aG.drew);have hsv:=hI.set (u:=(U:Int)) (v:=v) aj Bc hok2 (by rw[hr,hv])
      exact⟨by rw[hsn];exact hsv.drew,aM.grown hH hg (fun ad had e=>by injection e with e;exact HNH.out ad had e.symm),aM.grown hWy hg (fun ad had e=>by injection e with e;exact QJ.out ad had e.symm),au.grown hbx hg (fun e=>by injection e with e;omega)⟩
     have p0:wi.cell? ⟨wo.heap.size,0,none⟩=some (.int .i64 (T:Int)):=au.cell hbx rfl;have hji:(j:Int)< (z:Int):=by omega
     have hj0:(0:Int)<=(j:Int):=by omega
     have Wm:(T:Int)<4:=by omega
     have hT0:(0:Int)<=(T:Int):=by omega
     clear hI hH hWy hbx hu hsn hRO hok2 hr;rcases(by omega:U=0\/U=1\/U=2\/U=3) with rfl|rfl|rfl|rfl
     .have hor:bits .or .i64 (r:Int) 1=((r|||1:Nat):Int):=jl r 1 (by omega) (by omega)
      go_wp2_with fail
      go_region
      go_wp2_with fail
      go_roundw
      case rel=>exact⟨j+1,by omega,by go_num,(m_.out _ rfl).1,(m_.out _ rfl).2.1,(m_.out _ rfl).2.2.1,(m_.out _ rfl).2.2.2⟩
      case measure=>simp[intOf];omega
     .have hor:bits .or .i64 (r:Int) 2=((r|||2:Nat):Int):=jl r 2 (by omega) (by omega)
      go_wp2_with fail
      go_region
      go_wp2_with fail
      go_roundw
      case rel=>exact⟨j+1,by omega,by go_num,(m_.out _ rfl).1,(m_.out _ rfl).2.1,(m_.out _ rfl).2.2.1,(m_.out _ rfl).2.2.2⟩
      case measure=>simp[intOf];omega
     .have hor:bits .or .i64 (r:Int) 4=((r|||4:Nat):Int):=jl r 4 (by omega) (by omega)
      go_wp2_with fail
      go_region
      go_wp2_with fail
      go_roundw
      case rel=>exact⟨j+1,by omega,by go_num,(m_.out _ rfl).1,(m_.out _ rfl).2.1,(m_.out _ rfl).2.2.1,(m_.out _ rfl).2.2.2⟩
      case measure=>simp[intOf];omega
     .have hor:bits .or .i64 (r:Int) 8=((r|||8:Nat):Int):=jl r 8 (by omega) (by omega)
      go_wp2_with fail
      go_region
      go_wp2_with fail
      go_roundw
      case rel=>exact⟨j+1,by omega,by go_num,(m_.out _ rfl).1,(m_.out _ rfl).2.1,(m_.out _ rfl).2.2.1,(m_.out _ rfl).2.2.2⟩
      case measure=>simp[intOf];omega
    .obtain rfl:j=z:=by omega
     have hte:way.take j=way:=List.take_of_length_le (by have:=HZ.out;omega)
     rw[hte,<-Z5.out] at hI;have HI:=ah hI;have HHH:=ah hH;clear hI hH hWy hbx hte;go_wp2_with fail
     go_roundw
     case rel=>exact⟨k+1,by omega,by go_num,HI.out,HHH.out⟩
     case measure=>simp[intOf];omega
  .obtain rfl:k=q:=by omega
   rw[HE.out] at hI;have h4:(dD (bW D)).length=4:=by unfold dD;rw[List.length_map];exact(eX D).1
   have hrow:=hI.row;have HF:Hid (aT w (dD (bW D)) (.returned (.slice (some ⟨w.heap.size,0,none⟩) 4 4)) wo):=by
    show aT _ _ _ _
    refine aT.mk h4 aj ⟨⟨h4,by omega,fun _=>⟨_,0,rfl,hrow.lt,fun i x hx=>?_⟩⟩,fun ad had=>?_⟩ hI.below
    .rw[Nat.zero_add];refine hrow.cell ?_;rw[List.append_nil];unfold intCells;rw[List.getElem?_map,hx];rfl
    .injection had with had;exact⟨w.heap.size,_,had.symm,Nat.le_refl _,hrow,by simp[intCells,h4]⟩
   clear hI hH hrow h4;go_wp2_with fail
   go_ret;exact HF.out
theorem QZ {xs:List Int}{x:Int}(h:xs[0]? =some x):(xs.take 1).foldl max (xs.headD 0)=x:=by
 cases xs with
 |nil=>cases h
 |cons a r=>simp at h;subst h;simp
theorem UL {xs:List Int}{k:Nat}{x:Int}(h:xs[k]? =some x)(a:Int):(xs.take (k+1)).foldl max a=max ((xs.take k).foldl max a) x:=by
 rw[aR h,List.foldl_append,List.foldl_cons,List.foldl_nil]
theorem Xc (A:Option Addr)(n c:Nat)(xs:List Int)(w:World)(hx:aM w A n xs)(hn:0<n):
 Calls Tryz.prog 204 #[.slice A n c] w fun e w'=>e=.returned (.int .i64 (vX xs))/\Below w.heap.size w w':=by
 have hl:=hx.1;have hn9:=hx.2.1;obtain⟨b,off,x,rfl,hbl,hx0,c0⟩:=hx.at_ hn;have HX:=ah hx;have HL:=ah hl;have hms:=QZ hx0;obtain⟨h0,hh0⟩: ∃h0,xs.headD 0=h0:=⟨_,rfl⟩;have hmx:vX xs=xs.foldl max h0:=by unfold vX;rw[hh0]
 rw[hh0] at hms;rw[hmx];have HM:=ah hms;have hn1: ¬(n:Int)<1:=by omega
 have hni:(0:Int)< (n:Int):=by omega
 have c0':w.cell? ⟨b,off,none⟩=some (.int .i64 x):=by simpa using c0
 clear hx hx0 hl hms hh0 hmx;go_enter Tryz.func204,Tryz.ntmps204;go_wp2_with fail
 go_loopw [3,4] (fun mv i wr=> ∃k:Nat,1<=k/\k<=n/\i=.int .i64 k/\mv=.int .i64 ((xs.take k).foldl max h0)/\Below w.heap.size w wr) (fun _ i _=>n- (intOf i).toNat)
 case atStart=>exact⟨1,Nat.le_refl _,by omega,by go_num,by rw[HM.out],Below.refl _ _⟩
 case round=>
  obtain⟨k,hk1,hk,rfl,rfl,hb⟩:=hrel;by_cases hlt:k<n
  .obtain⟨b',off',y,hA,UJ,hy,c1⟩:=(HX.out.below hb aj).at_ hlt;injection hA with hA;injection hA with e1 e2 _;subst e1;subst e2;have HY:=ah (UL hy h0);have hki:(k:Int)< (n:Int):=by omega
   have hk0:(0:Int)<=(k:Int):=by omega
   obtain⟨M,hM⟩: ∃M,(xs.take k).foldl max h0=M:=⟨_,rfl⟩;rw[hM] at HY ⊢;clear hy hM;go_wp2_with fail
   go_roundw
   case rel=>exact⟨k+1,by omega,by omega,by go_num,(by rw[HY.out]),hb⟩
   case measure=>simp[intOf];omega
  .obtain rfl:k=n:=by omega
   have hte:xs.take k=xs:=List.take_of_length_le (by have:=HL.out;omega)
   rw[hte];obtain⟨M,hM⟩: ∃M,xs.foldl max h0=M:=⟨_,rfl⟩;rw[hM];have HM2:=ah hM;clear hM;have hfl: ¬(k:Int)< (k:Int):=by omega
   go_wp2_with fail
   go_ret;exact⟨gW HM2.out.symm,hb⟩
theorem Jb (W:List ay):(cZ W).Pairwise fun a b=>a<b:=by
 unfold cZ p8;rw[List.pairwise_map];refine List.Pairwise.imp (R:=fun a b:Nat=>a<b) (fun h=>by omega) (List.Pairwise.filter _ List.pairwise_lt_range)
theorem vU {W:List ay}{P:Nat->Bool}{k X:Nat}(hx:(cZ W)[k]? =some (X:Int)){j:Nat}(hj:j<X)(hf: ∀p y,p<k->(cZ W)[p]? =some y->P y.toNat=false)(hn:dV W j=false->P j=false):P j=false:=by
 cases hfj:dV W j
 .exact hn hfj
 .obtain⟨o,ho⟩: ∃o,W[j]? =some o:=by
   unfold dV at hfj;cases e:W[j]? with
   |none=>rw[e] at hfj;cases hfj
   |some o=>exact⟨o,rfl⟩
  obtain⟨p,hp⟩:=List.mem_iff_getElem?.1 (iX.2 ⟨j,o,ho,hfj,rfl⟩);have hpk:p<k:=by
   rcases Nat.lt_or_ge p k with h|h
   .exact h
   .exfalso
    obtain⟨l1,e1⟩:=List.getElem?_eq_some_iff.1 hx;obtain⟨l2,e2⟩:=List.getElem?_eq_some_iff.1 hp;by_cases e:p=k
    .subst e;rw[e1] at e2;omega
    .have:=(List.pairwise_iff_getElem.1 (Jb W)) k p l1 l2 (by omega)
     rw[e1,e2] at this;omega
  have:=hf p _ hpk hp
  rwa [Int.toNat_natCast] at this
theorem vV {W:List ay}{P:Nat->Bool}{k:Nat}(hk:(cZ W).length=k)(hf: ∀p y,p<k->(cZ W)[p]? =some y->P y.toNat=false){j:Nat}(hj:j<W.length)(hn:dV W j=false->P j=false):P j=false:=by
 cases hfj:dV W j
 .exact hn hfj
 .obtain⟨p,hp⟩:=List.mem_iff_getElem?.1 (iX.2 ⟨j,_,List.getElem?_eq_getElem hj,hfj,rfl⟩);have:=hf p _ (by rw[<-hk];exact(List.getElem?_eq_some_iff.1 hp).1) hp
  rwa [Int.toNat_natCast] at this
def aa3 (r:dQ)(D:bY)(v:Int):Prop:=(v= -1/\bB r D=none)\/(0<=v/\v<=3/\bB r D=some (bP D v))
theorem Ez (r:dQ)(B R tg:Nat)(V:DV)(D:bY)(w:World)(h:bO w B R tg (dR r) V D)(hv: ∀o∈D.wait,aJ o=true)(hc:Compat D.av)(hN:D.wait.length<=9000)(hf: ∀j,j<D.wait.length->dN D j=false):
 Calls Tryz.prog 188 #[.pointer (some ⟨R,0,none⟩)] w fun e w'=> ∃v,e=.returned (.int .i64 v)/\Below w.heap.size w w'/\aa3 r D v:=by
 obtain⟨Ad,Aw,Al,Ak,nd,n,nl,nk,cd,cw,cl,ck,rfl,hcs,f1,f2,f3,f4⟩:=h.forms;have hcw:=hcs.2.1;have HH:Hid (∀W,Below w.heap.size w W->bO W B R tg (dR r) ⟨.slice Ad nd cd,.slice Aw n cw,.slice Al nl cl,.slice Ak nk ck⟩ D):=fun W hW=>h.eZ hW
 have HX:Hid (∀W,Below w.heap.size w W->aC W Aw n D.wait):=fun W hW=>aC.aH ((h.eZ hW).aO.dh f2) (by omega)
 have HV:=ah hv;have HC:=ah hc;have TP:=ah hf;have HN:Hid (D.wait.length=n):=f2;have hn9:n<=9000:=by omega
 clear h hv hc hcs f1 f2 f3 f4 hf;cases r
 .have mm:w.cell? ⟨R,5,none⟩=some (dR .wait):=(HH.out w aG).cells.2.2.2.2.2;unfold dR at mm;simp only at mm;have OW: ∀X:World,(Instr.typeAssert (.iface 210 (.agg #[])) 150 210 true).run Tryz.prog X=.ok (.tuple #[.agg #[],.bool true]) X:=fun _=>by kernel_rfl
  have hwf:=Ja B R tg _ _ D w (HH.out w aG) HV.out HC.out (by have:=HN.out;omega)
  have hdg: ∀t:Int,0<=t->cB (bW D) t t=false:=oH D;have hcq:=SL (eX D) hdg;have hcl:=vC (eX D) hdg;have h4:(dD (bW D)).length=4:=by unfold dD;rw[List.length_map];exact(eX D).1
  unfold aT at hwf;rw[h4] at hwf;have HWF:=ah hwf;have HCQ:=ah hcq;have hmr:fI (bW D)≠ [] ->0<=vX (fI (bW D))/\vX (fI (bW D))<=3:=fun hne=>(zN hne (DT hne)).1
  have HMR:=ah hmr;clear hwf hdg hcq h4 hmr;go_enter Tryz.func188,Tryz.ntmps188;go_wp2_with fail
  refine HWF.out.mono ?_;rintro e w2 ⟨G,gc,rfl,hgc,hfg,hb2⟩;have hci:=D_ G gc (bW D) w2 (eX D) hfg.1;rw[HCQ.out] at hci;obtain⟨C,hC⟩: ∃C,fI (bW D)=C:=⟨_,rfl⟩;have HCC:=ah hC;rw[hC] at hci hcl HMR;have HCI:=ah hci;have HB2:=ah hb2;clear hci hC hfg hb2 HWF;go_wp2_with fail
  refine HCI.out.mono ?_;rintro e w3 ⟨CA,cc,rfl,hcc,⟨hr3,_⟩,hb3⟩;cases C with
  |nil=>
   have gZ:Hid (bB .wait D=none):=nP (fun j hj=>TP.out j hj) HCC.out
   have HB3:=ah (HB2.out.trans (hb3.mono HB2.out.size));clear hb3;go_wp2_with fail
   go_ret;exact⟨_,rfl,HB3.out,.inl ⟨rfl,gZ.out⟩⟩
  |cons a r=>
   have gZ:Hid (bB .wait D=some (bP D (vX (a::r)))):=by show _=_;rw[Gu (fun j hj=>TP.out j hj) (by rw[HCC.out];simp),HCC.out]
   have HB3:=ah (HB2.out.trans (hb3.mono HB2.out.size));have hmx:=Xc CA (a::r).length cc (a::r) w3 hr3 (by simp)
   have hmr:=HMR.out (by simp)
   obtain⟨z,hz⟩: ∃z,(a::r).length=z:=⟨_,rfl⟩;rw[hz] at hmx ⊢;obtain⟨M,hM⟩: ∃M,vX (a::r)=M:=⟨_,rfl⟩;rw[hM] at hmx hmr gZ;have HMX:=ah hmx;have hie:(!(a::r).isEmpty)=true:=rfl;clear hmx hb3 hr3 hz hM;go_wp2_with fail
   refine HMX.out.mono ?_;rintro e w4 ⟨rfl,hb4⟩;have tT:=ah (HB3.out.trans (hb4.mono HB3.out.size));clear hb4;go_wp2_with fail
   go_ret;exact⟨_,rfl,tT.out,.inr ⟨hmr.1,hmr.2,gZ.out⟩⟩
 .have mm:w.cell? ⟨R,5,none⟩=some (dR .die):=(HH.out w aG).cells.2.2.2.2.2;unfold dR at mm;simp only at mm;have OW: ∀X:World,(Instr.typeAssert (.iface 211 (.agg #[])) 150 210 true).run Tryz.prog X=.ok (.tuple #[.agg #[],.bool false]) X:=fun _=>by kernel_rfl
  have IZ: ∀X:World,(Instr.typeAssert (.iface 211 (.agg #[])) 150 211 true).run Tryz.prog X=.ok (.tuple #[.agg #[],.bool true]) X:=fun _=>by kernel_rfl
  go_enter Tryz.func188,Tryz.ntmps188;have hhd:=qN B R tg _ _ D w (HH.out w aG) HV.out (by have:=HN.out;omega)
  have zS:=ah hhd;clear hhd;go_wp2_with fail
  refine zS.out.mono ?_;rintro e w2 ⟨HA,hac,rfl,Xa,hfr,hb2⟩;obtain⟨q,hq⟩: ∃q,(cZ D.wait).length=q:=⟨_,rfl⟩;have HQ:=ah hq;rw[hq] at Xa hfr ⊢;have VE:=hfr.1.2.1;have HST:Hid (Below w.heap.size w w2/\aM w2 HA q (cZ D.wait)):=⟨hb2,hfr.1⟩;clear zS hb2 hfr hq;go_wp2_with fail
  go_loopw [35] (fun i wr=> ∃k:Nat,k<=q/\i=.int .i64 k/\Below w.heap.size w wr/\aM wr HA q (cZ D.wait)/\ ∀j x,j<k->(cZ D.wait)[j]? =some x->o9 D x.toNat=false) (fun i _=>q- (intOf i).toNat)
  case atStart=>exact⟨0,Nat.zero_le _,rfl,HST.out.1,HST.out.2,fun j x hj=>by omega⟩
  case round=>
   clear HST;obtain⟨wo,rfl⟩: ∃z:World,z=wr:=⟨_,rfl⟩;obtain⟨k,hk,rfl,nE,hH,hno⟩:=hrel;have hbs:=nE.size;by_cases zB:k<q
   .obtain⟨bh,BN,x0,Xb,hbl,hx,ch⟩:=hH.at_ zB;subst Xb;obtain⟨X,o,ho,hfx,rfl⟩:=iX.1 (List.mem_of_getElem? hx);have UH:X<n:=by have:=(List.getElem?_eq_some_iff.1 ho).1;have:=HN.out;omega
    obtain⟨b,off,o',hA',UJ,ho',c0,c1,c2⟩:=(HX.out wo nE).at_ UH;rw[ho] at ho';injection ho' with ho';subst ho';subst hA';have Bj:=HV.out o (List.mem_of_getElem? ho);obtain⟨htx,_,_⟩:=dW Bj;have hA:=HH.out wo nE;have r1:wo.cell? ⟨R,1,none⟩=some (.slice (some ⟨b,off,none⟩) n cw):=hA.cells.2.1;obtain⟨W,hW⟩: ∃W:World,W=wo.alloc (.cells #[.int .i64 o.tx,.int .i64 o.kind,.int .i64 o.item] 89):=⟨_,rfl⟩;have hbW:Below wo.heap.size wo W:=by rw[hW];exact aG.alloc aj _
    have hbx:au W wo.heap.size 89 [.int .i64 o.tx,.int .i64 o.kind,.int .i64 o.item] :=by rw[hW];exact heap_alloc_new wo _
    have hiw:=iW B R tg _ _ D o W (HH.out W (nE.trans (hbW.mono hbs))) Bj HC.out;have hne:aW D.av o≠ [] :=(blocked ho hfx (TP.out X (by have:=HN.out;omega))).2.2
    have hde:o9 D X=(dV D.wait X&&_):=IC ho;rw[hfx,Bool.true_and] at hde;have hnx:o9 D X=true->bB .die D=some (bP D o.tx):=fun hd=>Ke (fun j hj=>TP.out j hj) ho hd (fun j hj=>vU hx hj (hf:=fun p y hp hy=>hno p y hp hy) (fun hfj=>by unfold o9;cases D.wait[j]? with|none=>rfl|some p=>simp only;rw[hfj];rfl))
    have HW:=ah hW;have iD:=ah hbx;have nK:=ah hiw;have kJ:=ah hno;have Nw:=ah (nE.trans (hbW.mono hbs));have VF:=ah (hH.below hbW aj);have OE:=ah (zf (L:=D.av) (o:=o));have Q0:=ah hde;have EA:=ah hnx;have Zp:=ah hx;obtain⟨L,hL⟩: ∃z,aW D.av o=z:=⟨_,rfl⟩;rw[hL] at nK OE Q0 hne;obtain⟨tx,kd,it⟩:=o;unfold ay.val at nK;simp only at c0 c1 c2 htx HW iD nK Q0 EA;obtain⟨T,rfl⟩:=Int.eq_ofNat_of_zero_le htx.1;obtain⟨tx,En⟩: ∃z:Int,(T:Int)=z:=⟨_,rfl⟩;have XW:=ah En;rw[En] at c0 HW iD nK Q0 EA htx;have hki:(k:Int)< (q:Int):=by omega
    have hk0:(0:Int)<=(k:Int):=by omega
    have hXi:(X:Int)< (n:Int):=by omega
    have hX0:(0:Int)<=(X:Int):=by omega
    clear nE hH hA hx ho hfx Bj hW hbx hbW hiw hno hde hnx hL En;go_wp2_with fail
    rw[<-HW.out];refine nK.out.mono ?_;rintro e w4 ⟨WA,wc,rfl,hwc,hwf,hb4⟩;obtain⟨z,hz⟩: ∃z,L.length=z:=⟨_,rfl⟩;have HZ:=ah hz;have hz1:0<z:=by rw[<-hz];exact List.length_pos_iff.2 hne
    rw[hz] at hwc hwf ⊢;have hzi:(0:Int)< (z:Int):=by omega
    have KY:=hwf.1.2.1;obtain⟨bw,UK,x,hWA,hbw,hx0,cx⟩:=hwf.1.at_ (show 0<z by omega)
    have hval:L.headD 0=x:=by
     cases hq:L with
     |nil=>rw[hq] at hx0;cases hx0
     |cons a r=>rw[hq] at hx0;simp at hx0;simp[hx0]
    have hbq:o9 D X=decide (x<tx):=by rw[Q0.out];simp only[hval]
    subst hWA;have l0: ∀u:Later w4,u.1.cell? ⟨bw,UK,none⟩=some (.int .i64 x):=fun u=>by have:=Later.cell cx u;simpa using this
    have n0: ∀u:Later w4,u.1.cell? ⟨wo.heap.size,0,none⟩=some (.int .i64 tx):=fun u=>au.cell (au.below iD.out (hb4.trans (u.2.mono hb4.size)) aj) rfl
    have tT:=ah (Nw.out.trans (hb4.mono Nw.out.size));have Zq:=ah (VF.out.below hb4 aj);clear nK hb4 hwf hz c0 c1 c2 r1 ch hx0 cx hne;by_cases hlt:x<tx
    .have hld:decide (x<tx)=true:=by simpa using hlt
     have gZ:Hid (bB .die D=some (bP D tx)):=EA.out (by rw[hbq];simpa using hlt)
     go_wp2_with fail
     refine aQ ?_;repeat(go_big_quiet_step (fail))
     refine wpQuiet_nil ?_;rintro _ ⟨u,rfl⟩;have p0:=n0 u;have pl:=l0 u;have kW:=ah (tT.out.trans (u.2.mono tT.out.size));clear n0 l0;go_wp2_with fail
     go_ret;exact⟨_,rfl,kW.out,.inr ⟨htx.1,htx.2,gZ.out⟩⟩
    .have hld:decide (x<tx)=false:=by simpa using hlt
     have Xd:Hid (o9 D X=false):=by show _=_;rw[hbq];exact hld
     go_wp2_with fail
     refine aQ ?_;repeat(go_big_quiet_step (fail))
     refine wpQuiet_nil ?_;rintro _ ⟨u,rfl⟩;have kW:=ah (tT.out.trans (u.2.mono tT.out.size));have XJ:=ah (Zq.out.below u.2 aj);clear n0 l0;go_wp2_with fail
     go_roundw
     case rel=>exact⟨k+1,by omega,by go_num,kW.out,XJ.out,fun j y hj hy=>by
      by_cases e:j=k
      .subst e;rw[Zp.out] at hy;injection hy with hy;subst hy;rw[Int.toNat_natCast];exact Xd.out
      .exact kJ.out j y (by omega) hy⟩
     case measure=>simp[intOf];omega
   .obtain rfl:k=q:=by omega
    have gZ:Hid (bB .die D=none):=pR (fun j hj=>TP.out j hj) (fun j hj=>vV HQ.out (hf:=fun p y hp hy=>hno p y hp hy) hj (fun hfj=>by unfold o9;cases D.wait[j]? with|none=>rfl|some p=>simp only;rw[hfj];rfl))
    have Nw:=ah nE;clear nE hH hno;go_wp2_with fail
    go_ret;exact⟨_,rfl,Nw.out,.inl ⟨rfl,gZ.out⟩⟩
 .have mm:w.cell? ⟨R,5,none⟩=some (dR .bA):=(HH.out w aG).cells.2.2.2.2.2;unfold dR at mm;simp only at mm;have OW: ∀X:World,(Instr.typeAssert (.iface 212 (.agg #[])) 150 210 true).run Tryz.prog X=.ok (.tuple #[.agg #[],.bool false]) X:=fun _=>by kernel_rfl
  have IZ: ∀X:World,(Instr.typeAssert (.iface 212 (.agg #[])) 150 211 true).run Tryz.prog X=.ok (.tuple #[.agg #[],.bool false]) X:=fun _=>by kernel_rfl
  have KO: ∀X:World,(Instr.typeAssert (.iface 212 (.agg #[])) 150 212 true).run Tryz.prog X=.ok (.tuple #[.agg #[],.bool true]) X:=fun _=>by kernel_rfl
  go_enter Tryz.func188,Tryz.ntmps188;have hhd:=qN B R tg _ _ D w (HH.out w aG) HV.out (by have:=HN.out;omega)
  have zS:=ah hhd;clear hhd;go_wp2_with fail
  refine zS.out.mono ?_;rintro e w2 ⟨HA,hac,rfl,Xa,hfr,hb2⟩;obtain⟨q,hq⟩: ∃q,(cZ D.wait).length=q:=⟨_,rfl⟩;have HQ:=ah hq;rw[hq] at Xa hfr ⊢;have VE:=hfr.1.2.1;have HST:Hid (Below w.heap.size w w2/\aM w2 HA q (cZ D.wait)):=⟨hb2,hfr.1⟩;clear zS hb2 hfr hq;go_wp2_with fail
  go_loopw [70] (fun i wr=> ∃k:Nat,k<=q/\i=.int .i64 k/\Below w.heap.size w wr/\aM wr HA q (cZ D.wait)/\ ∀j x,j<k->(cZ D.wait)[j]? =some x->gK D x.toNat=false) (fun i _=>q- (intOf i).toNat)
  case atStart=>exact⟨0,Nat.zero_le _,rfl,HST.out.1,HST.out.2,fun j x hj=>by omega⟩
  case round=>
   clear HST;obtain⟨wo,rfl⟩: ∃z:World,z=wr:=⟨_,rfl⟩;obtain⟨k,hk,rfl,nE,hH,hno⟩:=hrel;have hbs:=nE.size;by_cases zB:k<q
   .obtain⟨bh,BN,x0,Xb,hbl,hx,ch⟩:=hH.at_ zB;subst Xb;obtain⟨X,o,ho,hfx,rfl⟩:=iX.1 (List.mem_of_getElem? hx);have UH:X<n:=by have:=(List.getElem?_eq_some_iff.1 ho).1;have:=HN.out;omega
    obtain⟨b,off,o',hA',UJ,ho',c0,c1,c2⟩:=(HX.out wo nE).at_ UH;rw[ho] at ho';injection ho' with ho';subst ho';subst hA';have Bj:=HV.out o (List.mem_of_getElem? ho);obtain⟨htx,_,_⟩:=dW Bj;have hA:=HH.out wo nE;have r1:wo.cell? ⟨R,1,none⟩=some (.slice (some ⟨b,off,none⟩) n cw):=hA.cells.2.1;obtain⟨W,hW⟩: ∃W:World,W=wo.alloc (.cells #[.int .i64 o.tx,.int .i64 o.kind,.int .i64 o.item] 89):=⟨_,rfl⟩;have hbW:Below wo.heap.size wo W:=by rw[hW];exact aG.alloc aj _
    have hbx:au W wo.heap.size 89 [.int .i64 o.tx,.int .i64 o.kind,.int .i64 o.item] :=by rw[hW];exact heap_alloc_new wo _
    have hiw:=iW B R tg _ _ D o W (HH.out W (nE.trans (hbW.mono hbs))) Bj HC.out;have hne:aW D.av o≠ [] :=(blocked ho hfx (TP.out X (by have:=HN.out;omega))).2.2
    have hde:gK D X=(dV D.wait X&&_):=uE ho;rw[hfx,Bool.true_and] at hde;have hnx:gK D X=true->bB .bA D=some (bP D ((aW D.av o).getLastD 0)):=fun hd=>D5 (fun j hj=>TP.out j hj) ho hd (fun j hj=>vU hx hj (hf:=fun p y hp hy=>hno p y hp hy) (fun hfj=>by unfold gK;cases D.wait[j]? with|none=>rfl|some p=>simp only;rw[hfj];rfl))
    have HW:=ah hW;have iD:=ah hbx;have nK:=ah hiw;have kJ:=ah hno;have Nw:=ah (nE.trans (hbW.mono hbs));have VF:=ah (hH.below hbW aj);have OE:=ah (zf (L:=D.av) (o:=o));have Q0:=ah hde;have EA:=ah hnx;have Zp:=ah hx;obtain⟨L,hL⟩: ∃z,aW D.av o=z:=⟨_,rfl⟩;rw[hL] at nK OE Q0 hne EA;obtain⟨tx,kd,it⟩:=o;unfold ay.val at nK;simp only at c0 c1 c2 htx HW iD nK Q0 EA;obtain⟨T,rfl⟩:=Int.eq_ofNat_of_zero_le htx.1;obtain⟨tx,En⟩: ∃z:Int,(T:Int)=z:=⟨_,rfl⟩;have XW:=ah En;rw[En] at c0 HW iD nK Q0 htx;have hki:(k:Int)< (q:Int):=by omega
    have hk0:(0:Int)<=(k:Int):=by omega
    have hXi:(X:Int)< (n:Int):=by omega
    have hX0:(0:Int)<=(X:Int):=by omega
    clear nE hH hA hx ho hfx Bj hW hbx hbW hiw hno hde hnx hL En;go_wp2_with fail
    rw[<-HW.out];refine nK.out.mono ?_;rintro e w4 ⟨WA,wc,rfl,hwc,hwf,hb4⟩;obtain⟨z,hz⟩: ∃z,L.length=z:=⟨_,rfl⟩;have HZ:=ah hz;have hz1:0<z:=by rw[<-hz];exact List.length_pos_iff.2 hne
    rw[hz] at hwc hwf ⊢;have hzi:(0:Int)< (z:Int):=by omega
    have KY:=hwf.1.2.1;obtain⟨bw,UK,x,hWA,hbw,hx0,cx⟩:=hwf.1.at_ (show z-1<z by omega)
    have hval:L.getLastD 0=x:=by
     have hne:L≠ [] :=by intro e;rw[e] at hx0;simp at hx0
     rw[List.getLastD_eq_getLast?,List.getLast?_eq_getElem?,HZ.out,hx0];rfl
    have iM:=OE.out x (List.mem_of_getElem? hx0);have hbq:gK D X=decide (tx<x):=by rw[Q0.out];simp only[hval]
    subst hWA;have l0: ∀u:Later w4,u.1.cell? ⟨bw,UK+(z-1),none⟩=some (.int .i64 x):=fun u=>Later.cell cx u
    have hzc:((z:Int) -1)=((z-1:Nat):Int):=by omega
    have hzw:IntKind.i64.wrap ((z:Int) -1)=((z-1:Nat):Int):=by rw[hzc];exact IntWalk.i64_in _ (by omega)
    have hzl:((z-1:Nat):Int)< (z:Int):=by omega
    have hz0:(0:Int)<=((z-1:Nat):Int):=by omega
    have n0: ∀u:Later w4,u.1.cell? ⟨wo.heap.size,0,none⟩=some (.int .i64 tx):=fun u=>au.cell (au.below iD.out (hb4.trans (u.2.mono hb4.size)) aj) rfl
    have tT:=ah (Nw.out.trans (hb4.mono Nw.out.size));have Zq:=ah (VF.out.below hb4 aj);clear nK hb4 hwf hz c0 c1 c2 r1 ch hx0 cx hne;by_cases hlt:tx<x
    .have hld:decide (tx<x)=true:=by simpa using hlt
     have gZ:Hid (bB .bA D=some (bP D x)):=by show _=_;rw[<-hval];exact EA.out (by rw[hbq];simpa using hlt)
     go_wp2_with fail
     refine aQ ?_;repeat(go_big_quiet_step (fail))
     refine wpQuiet_nil ?_;rintro _ ⟨u,rfl⟩;have p0:=n0 u;have pl:=l0 u;have kW:=ah (tT.out.trans (u.2.mono tT.out.size));clear n0 l0;go_wp2_with fail
     go_ret;exact⟨_,rfl,kW.out,.inr ⟨iM.1,iM.2,gZ.out⟩⟩
    .have hld:decide (tx<x)=false:=by simpa using hlt
     have Xd:Hid (gK D X=false):=by show _=_;rw[hbq];exact hld
     go_wp2_with fail
     refine aQ ?_;repeat(go_big_quiet_step (fail))
     refine wpQuiet_nil ?_;rintro _ ⟨u,rfl⟩;have kW:=ah (tT.out.trans (u.2.mono tT.out.size));have XJ:=ah (Zq.out.below u.2 aj);clear n0 l0;go_wp2_with fail
     go_roundw
     case rel=>exact⟨k+1,by omega,by go_num,kW.out,XJ.out,fun j y hj hy=>by
      by_cases e:j=k
      .subst e;rw[Zp.out] at hy;injection hy with hy;subst hy;rw[Int.toNat_natCast];exact Xd.out
      .exact kJ.out j y (by omega) hy⟩
     case measure=>simp[intOf];omega
   .obtain rfl:k=q:=by omega
    have gZ:Hid (bB .bA D=none):=mG (fun j hj=>TP.out j hj) (fun j hj=>vV HQ.out (hf:=fun p y hp hy=>hno p y hp hy) hj (fun hfj=>by unfold gK;cases D.wait[j]? with|none=>rfl|some p=>simp only;rw[hfj];rfl))
    have Nw:=ah nE;clear nE hH hno;go_wp2_with fail
    go_ret;exact⟨_,rfl,Nw.out,.inl ⟨rfl,gZ.out⟩⟩
end Go.Proofs.YtddkjbibjjehjaaGreatDoor
