/-
  Texts that the proof rests on, joined: part 17.
-/
import Derived.Deep.RegionLaw
import Derived.Test.YtddkjbibjjehjaaGreatDoorSXr16
set_option maxHeartbeats 16000000
set_option maxRecDepth 100000
namespace Go.Proofs.YtddkjbibjjehjaaGreatDoor
open Go.RowKit Go.BigFrame
set_option linter.unusedVariables false
theorem TA {list:List Int}{rows:List Nat}(h4:list.length<=4)(m:Nat): ∀pre,(ql list rows m pre).length<=4^m:=by
 induction m with
 |zero=>intro pre;simp[ql]
 |succ m ih=>
  intro pre;simp only[ql];have: ∀ (l:List Int) (f:Int->List (List Int)),(∀t,(f t).length<=4^m)->(l.flatMap f).length<=l.length*4^m:=by
   intro l f hf;induction l with
   |nil=>simp
   |cons x r ihl=>
    rw[List.flatMap_cons,List.length_append,List.length_cons,Nat.add_mul,Nat.one_mul];have:=hf x;omega
  refine Nat.le_trans (this list _ fun t=>?_) ?_
  .split
   .exact ih _
   .simp
  .rw[Nat.pow_succ,Nat.mul_comm];exact Nat.mul_le_mul_left _ h4
theorem Kj {f:Int->List (List Int)}{M:Nat}(hf: ∀t,(f t).length<=M)(l:List Int):(l.flatMap f).length<=l.length*M:=by
 induction l with
 |nil=>simp
 |cons x r ihl=>
  rw[List.flatMap_cons,List.length_append,List.length_cons,Nat.add_mul,Nat.one_mul];have:=hf x;omega
theorem P6 {f:Int->List (List Int)}{list:List Int}{k:Nat}{t:Int}(h:list[k]? =some t):(list.take (k+1)).flatMap f=(list.take k).flatMap f++f t:=by
 rw[aR h,List.flatMap_append];simp
def kN (list:List Int)(rows:List Nat)(pre:List Int)(t:Int)(q:Nat):Bool:= !(pre.any fun y=>y==t) && (list.take q).all (fun v=> !cB rows v t||pre.any fun y=>y==v)
theorem ME {list:List Int}{rows:List Nat}{pre:List Int}{t v:Int}{q:Nat}(h:list[q]? =some v):kN list rows pre t (q+1)=(kN list rows pre t q&& (!cB rows v t||pre.any fun y=>y==v)):=by
 unfold kN;rw[aR h,List.all_append];simp[Bool.and_assoc]
theorem TB {list:List Int}{rows:List Nat}{pre:List Int}{t:Int}{q:Nat}(h:kN list rows pre t q=false):kN list rows pre t list.length=false:=by
 cases h':kN list rows pre t list.length
 .rfl
 .exfalso
  have h2:kN list rows pre t q=true:=by
   unfold kN at h' ⊢;rw[Bool.and_eq_true] at h' ⊢;refine⟨h'.1,List.all_eq_true.2 fun x hx=>?_⟩
   exact(List.all_eq_true.1 h'.2) x (by rw[List.take_length];exact List.mem_of_mem_take hx)
  rw[h] at h2;cases h2
def Kk (list:List Int)(rows:List Nat)(m:Nat)(pre:List Int)(t:Int):List (List Int):=if kN list rows pre t list.length then ql list rows m (pre++ [t]) else []
theorem P7 {list:List Int}{rows:List Nat}{m:Nat}{pre:List Int} :ql list rows (m+1) pre=list.flatMap (Kk list rows m pre):=by
 simp only[ql];refine DK fun t _=>?_
 unfold Kk kN;rw[List.take_length]
theorem TD {list:List Int}{rows:List Nat}(h4:list.length<=4){m:Nat}(hm:m<=4){pre:List Int}(t:Int):(Kk list rows m pre t).length<=256:=by
 have h1:(4:Nat)^m<=4^4:=Nat.pow_le_pow_right (by omega) hm
 unfold Kk;split
 .exact Nat.le_trans (TA h4 m _) (by simpa using h1)
 .simp
structure Kl (A B R:Option Addr)(n h:Nat)(list pre:List Int)(rows:List Nat)(w:World):Prop where
 list:aM w A n list
 pre:aM w B h pre
 rows:aM w R 4 (dD rows)
theorem Kl.below {A B R:Option Addr}{n h:Nat}{list pre:List Int}{rows:List Nat}{w w':World}(t:Kl A B R n h list pre rows w)(hb:Below w.heap.size w w'):Kl A B R n h list pre rows w':=
 ⟨t.list.below hb aj,t.pre.below hb aj,t.rows.below hb aj⟩
def Wp (wi w2:World)(v2:Value)(h:Nat)(xs:List Int):Prop:= ∃B2 c2,v2=.slice B2 h c2/\aM w2 B2 h xs/\Below wi.heap.size wi w2
theorem Wp.of {wi Wa w2:World}{v v2:Value}{n h:Nat}{xs ys:List Int}(hb:Below wi.heap.size wi Wa)(hown:Wa.ownsRow wi.heap.size 3 1 v n (intCells xs))(hg:Wa.grownBy w2 v.ownBlock)(h2:w2.ownsRow wi.heap.size 3 1 v2 h (intCells ys))(hh:h<=100):Wp wi w2 v2 h ys:=by
 obtain⟨B2,c2,rfl,hc2⟩:=aD h2;exact⟨B2,c2,rfl,aM.aH h2 (by omega),Below.own hb hown aj hg⟩
theorem Wq (m:Nat): ∀ (A B R:Option Addr) (n c h ch rc:Nat) (list pre:List Int) (rows:List Nat) (w:World),Kl A B R n h list pre rows w->dA rows->(∀t∈list,0<=t/\t<=3)->n<=4->h+m=n->
 Calls Tryz.prog 50 #[.slice A n c,.slice R 4 rc,.slice B h ch] w (dP w (ql list rows m pre)):=by
 induction m with
 |zero=>
  intro A B R n c h ch rc list pre rows w ht h4 hr Pt hh;have hl:=ht.list.1;have hp:=ht.pre.1;obtain rfl:h=n:=by omega
  have HP:=ah ht.pre;have HST:Hid ((w.alloc (.cells #[] 3)).ownsRow w.heap.size 3 1 (.slice (some ⟨w.heap.size,0,none⟩) 0 0) 0 (intCells [])):=
   World.ownsRow_made w #[] 0 aj (by decide) rfl
  have mZ:Hid (aM (w.alloc (.cells #[] 3)) B h pre):=ht.pre.below ((Below.refl _ w).alloc aj _) aj;have hT:Hid (ql list rows 0 pre= [pre]):=rfl;clear ht h4 hr;go_enter Tryz.func50,Tryz.ntmps50;go_wp2_with (at_builtin;refine gI (.tmp 16) (.tmp 17) HST.out (by simp) mZ.out (by omega) rfl rfl rfl rfl ?_;intro v1 w1 hown1 hg1 jN;rw[List.nil_append,Nat.zero_add] at hown1;obtain⟨A1,c1,rfl,hc1⟩:=aD hown1)
  have hb1:Below w.heap.size w w1:=Below.own ((Below.refl _ w).alloc aj _) HST.out aj hg1;have Fg:=aN.aH (w0:=w) hown1 aj (by omega)
  have hs1:=hb1.size;have HO:Hid (dP w [pre] (.returned (.slice (some ⟨w1.heap.size,0,none⟩) 1 1)) (w1.alloc (.cells #[.slice A1 h c1] 45))):=
   dP.dB hp hc1 Fg hb1
  clear hown1 hg1 jN Fg HST mZ;go_ret;rw[hT.out];exact HO.out
 |succ m ih=>
  intro A B R n c h ch rc list pre rows w ht h4 hr Pt hh;have hl:=ht.list.1;have hp:=ht.pre.1;have HT0:=ah ht;have H4:=ah h4;have HR:=ah hr;have xZ:=ah ih;have hhn: ¬ h=n:=by omega
  have hdn:((h:Int)==(n:Int))=false:=by simp;omega
  have abK:Hid (ql list rows (m+1) pre=list.flatMap (Kk list rows m pre)):=P7;have HLEN:Hid (∀k,((list.take k).flatMap (Kk list rows m pre)).length<=1024):=by
   intro k;have h1:=Kj (f:=Kk list rows m pre) (M:=256) (fun t=>TD (by omega) (by omega) t) (list.take k)
   have:(list.take k).length<=4:=by simp;omega
   have:(list.take k).length*256<=4*256:=Nat.mul_le_mul_right _ this;omega
  clear ht h4 hr ih;generalize hF:Kk list rows m pre=F at*;have HF:Hid (∀t,F t=if kN list rows pre t list.length then ql list rows m (pre++ [t]) else []):=by
   intro t;rw[<-hF];rfl
  clear hF;have HST:Hid ((w.alloc (.cells #[] 45)).ownsRow w.heap.size 45 1 (.slice (some ⟨w.heap.size,0,none⟩) 0 0) 0 []):=
   World.ownsRow_made w #[] 0 aj (by decide) rfl
  go_enter Tryz.func50,Tryz.ntmps50;go_wp2_with fail
  go_loopw [7,8] (fun ov i wr=> ∃ (k:Nat),k<=n/\i=.int .i64 k/\yN w wr ov ((list.take k).flatMap F)) (fun _ i _=>n- (intOf i).toNat)
  case atStart=>exact⟨0,Nat.zero_le _,rfl,0,[],by omega,rfl,(Below.refl _ w).alloc aj _,HST.out,by simpa using eG.nil⟩
  case round=>
   clear HST;obtain⟨k,hk,rfl,hinv⟩:=hrel;have nQ:=ah hinv;obtain⟨N,rv,hN,ZU,hb,hown,hrows⟩:=hinv;obtain⟨Ao,co,rfl,hco⟩:=aD hown;have Vj:=ah ZU;clear ZU;by_cases hlt:k<n
   .have HT:=ah (HT0.out.below hb);obtain⟨b,off,t,rfl,hbl,ho,c0⟩:=HT.out.list.at_ hlt;have htr:=HR.out t (List.mem_of_getElem? ho);have HS:=ah (P6 (f:=F) ho);have hcH: ∀ (W:World) (x:Int),Below wr.heap.size wr W->Calls Tryz.prog 59 #[.slice B h ch,.int .i64 x] W fun e w'=>e=.returned (.bool (pre.any fun y=>y==x))/\Below W.heap.size W w':=fun W x hW=>
     xk B h ch pre x W (HT.out.pre.below hW aj)
    have HH:=ah hcH;have HOWN:=ah hown;have Gw:=ah hrows;have HO:=ah ho;clear hcH hown hrows ho;go_wp2_with fail
    refine(HH.out _ _ aG).mono ?_;rintro e w1 ⟨rfl,hb1⟩;go_wp2_with fail
    have HB1:Hid (Below w.heap.size w w1):=hb.trans (hb1.mono hb.size);go_loopw [9,10] (fun ok i wi=> ∃q:Nat,q<=n/\i=.int .i64 q/\ok=.bool (kN list rows pre t q)/\Below wr.heap.size wr wi) (fun _ i _=>n- (intOf i).toNat)
    case atStart=>exact⟨0,Nat.zero_le _,rfl,by simp[kN],hb1⟩
    case round=>
     clear hb1 HB1;obtain⟨wi,rfl⟩: ∃wi:World,wi=wr:=⟨_,rfl⟩;obtain⟨q,hq,rfl,rfl,hbi⟩:=hrel;by_cases hlt2:q<n
     .have HS2:Hid (∀v,list[q]? =some v->kN list rows pre t (q+1)=(kN list rows pre t q&& (!cB rows v t||pre.any fun y=>y==v))):=fun v hv=>ME hv
      have BH:Hid (kN list rows pre t q=false->F t= []):=fun h=>by rw[HF.out,TB h];rfl
      generalize kN list rows pre t q=ok at*;have LM:=ah hbi;clear hbi;cases ok
      .go_wp2_with fail
       go_roundw
       case rel=>exact⟨k+1,by omega,by go_num,by rw[HS.out,BH.out (by first|rfl|trivial),List.append_nil];exact nQ.out.later LM.out⟩
       case measure=>simp[intOf];omega
      .have HTi:=HT.out.below LM.out;obtain⟨b',off',v,nE,YC,ho2,c2⟩:=HTi.list.at_ hlt2;injection nE with nE;injection nE with e1 e2 _;subst e1;subst e2;have hvr:=HR.out v (List.mem_of_getElem? ho2);obtain⟨vn,rfl⟩:=Int.eq_ofNat_of_zero_le hvr.1;obtain⟨tn,rfl⟩:=Int.eq_ofNat_of_zero_le htr.1;have hvn:vn<4:=by omega
       have htn:tn<4:=by omega
       obtain⟨br,aco,rfl,acp,c3,h16⟩:=jM H4.out HTi.rows hvn;have hst:=HS2.out _ ho2;have hed:cB rows (vn:Int) (tn:Int)=(rows.getD vn 0).testBit tn:=rfl;rw[hed] at hst;obtain⟨eb,heb⟩: ∃eb,(rows.getD vn 0).testBit tn=eb:=⟨_,rfl⟩;rw[heb] at hst;have hcB: ∀W:World,Calls Tryz.prog 92 #[.int .i64 ((rows.getD vn 0:Nat):Int),.int .i64 (tn:Int)] W fun e w'=>e=.returned (.int .i64 (if eb then 1 else 0))/\W=w':=fun W=>by
        have:=Db (rows.getD vn 0) tn W (by omega) (by omega);rw[heb] at this;exact this
       have P8:=ah hcB;have YM:=ah hst;have L1:=Later.cell c2;have L2:=Later.cell c3;have L3:=Later.cell ((LM.out.cell (p:=⟨b,off+k,none⟩) hbl).trans c0);have l1:(vn:Int)<4:=by omega
       have l2:(0:Int)<=(vn:Int):=by omega
       have l3:(q:Int)<n:=by omega
       have l4:(k:Int)<n:=by omega
       have l5:(0:Int)<=(q:Int):=by omega
       have l6:(0:Int)<=(k:Int):=by omega
       have hsi:=LM.out.size;clear HTi ho2 c2 c3 hst heb hcB hed HS2 BH;generalize rows.getD vn 0=rk at*;cases eb
       .go_wp2_with fail
        refine aQ ?_;repeat(go_big_quiet_step ((go_at_call 92;exact wZ _ (P8.out _))))
        refine wpQuiet_nil ?_;rintro _ ⟨u,rfl⟩;go_wp2_with fail
        go_roundw
        case rel=>exact⟨q+1,by omega,by go_num,by rw[YM.out];rfl,LM.out.trans (u.2.mono hsi)⟩
        case measure=>simp[intOf];omega
       .obtain⟨bc,hbc⟩: ∃bc,(pre.any fun y=>y==(vn:Int))=bc:=⟨_,rfl⟩
        have hcI: ∀u:Later wi,Calls Tryz.prog 59 #[.slice B h ch,.int .i64 (vn:Int)] u.1 fun e w'=>e=.returned (.bool bc)/\Below u.1.heap.size u.1 w':=fun u=>by
         have:=HH.out u.1 (vn:Int) (LM.out.trans (u.2.mono hsi));rw[hbc] at this;exact this
        have HCI:=ah hcI;have abL:Hid (kN list rows pre (tn:Int) (q+1)=bc):=by
         show _=_
         rw[YM.out,hbc];simp
        clear hcI hbc YM;go_wp2_with fail
        refine aQ ?_;repeat(go_big_quiet_step ((first|(go_at_call 92;exact wZ _ (P8.out _))|(go_at_call 59;exact aA _ (HCI.out _)))))
        refine wpQuiet_nil ?_;rintro _ ⟨u,rfl⟩;go_wp2_with fail
        go_roundw
        case rel=>exact⟨q+1,by omega,by go_num,by rw[abL.out],LM.out.trans (u.2.mono hsi)⟩
        case measure=>simp[intOf];omega
     .have hqn:n=q:=by omega
      subst hqn;have HFT:Hid (F t=if kN list rows pre t n=true then ql list rows m (pre++ [t]) else []):=by
       have:=HF.out t;rw[hl] at this;exact this
      obtain⟨ok,hok⟩: ∃ok,kN list rows pre t n=ok:=⟨_,rfl⟩;rw[hok] at HFT ⊢;have LM:=ah hbi;clear hbi hok;cases ok
      .go_wp2_with fail
       go_roundw
       case rel=>exact⟨k+1,by omega,by go_num,by rw[HS.out,HFT.out,if_neg (by simp),List.append_nil];exact nQ.out.later LM.out⟩
       case measure=>simp[intOf];omega
      .have c0i:=(LM.out.cell (p:=⟨b,off+k,none⟩) hbl).trans c0;have HT2:=ah (HT.out.below LM.out);have Iw:=ah (own_below HOWN.out LM.out);have HR2:=ah (Gw.out.below LM.out);have jP:=hb.trans (LM.out.mono hb.size);have l4:(k:Int)<n:=by omega
       have l6:(0:Int)<=(k:Int):=by omega
       have iA:Hid (∀W,Below wi.heap.size wi W->aM W B h pre):=fun W hW=>HT2.out.pre.below hW aj
       have kV:Hid (Below wi.heap.size wi (wi.alloc (.cells #[] 3)).drew):=((Below.refl _ wi).alloc aj _).drew;have Gx:Hid ((wi.alloc (.cells #[] 3)).drew.ownsRow wi.heap.size 3 1 (.slice (some ⟨wi.heap.size,0,none⟩) 0 0) 0 (intCells [])):=(Ki wi).drew;have c0a:(wi.alloc (.cells #[] 3)).drew.cell? ⟨b,off+k,none⟩=some (.int .i64 t):=(kV.out.cell (p:=⟨b,off+k,none⟩) (Nat.lt_of_lt_of_le hbl LM.out.size)).trans c0i;have XG:=ah (YK wi t);have XH:=ah (YL wi t);go_wp2_with fail
       have HFP:Hid (F t=ql list rows m (pre++ [t])):=by
        show _=_
        rw[HFT.out];simp
       have HNM:Hid (∀M,(ql list rows m (pre++ [t])).length=M->N+M<=1024):=by
        intro M hM;have h1:=HLEN.out (k+1);rw[HS.out,HFP.out,List.length_append,Vj.out,hM] at h1;exact h1
       go_region_law (first
        |(refine kL (.tmp 68) (.tmp 69) (c:=ch) (Gx.out) (kV.out.size) (iA.out _ kV.out) ?_ ?_ ?_ ?_ ?_ ?_; (· omega); (· rfl); (· rfl); (· rfl); (· rfl);intro v1 w1' hown1 hg1 jN;have hb1':=Below.own kV.out Gx.out aj hg1;have hcw:=(hb1'.cell (p:=⟨b,off+k,none⟩) (Nat.lt_of_lt_of_le hbl LM.out.size)).trans c0i;have aaE:=hb1'.alloc hb1'.size (.cells #[.int .i64 t] 3 (0,0)))
        |(refine kL (.tmp 68) (.tmp 69) (c:=ch) (XG.out.row) (XG.out.below.size) (iA.out _ XG.out.below) ?_ ?_ ?_ ?_ ?_ ?_; (· omega); (· rfl); (· rfl); (· rfl); (· rfl);intro v1 w1' hown1 hg1 jN;have hl1:=XG.out.lit.OH hg1 XG.out.lt XG.out.ne;have hb1':=Below.own XG.out.below XG.out.row aj hg1)
        |(refine kL (.tmp 68) (.tmp 69) (c:=ch) (XH.out.row) (XH.out.below.size) (iA.out _ XH.out.below) ?_ ?_ ?_ ?_ ?_ ?_; (· omega); (· rfl); (· rfl); (· rfl); (· rfl);intro v1 w1' hown1 hg1 jN;have hl1:=XH.out.lit.OH hg1 XH.out.lt XH.out.ne;have hb1':=Below.own XH.out.below XH.out.row aj hg1)
        |(refine kL (.tmp 70) (.tmp 75) (c:=1) (hown1.alloc _) (aaE.size) (dB rfl t) ?_ ?_ ?_ ?_ ?_ ?_; (· omega); (· rfl); (· rfl); (· rfl); (· rfl);intro v2 w2' hown2 hg2 yO;rw[List.nil_append,Nat.zero_add] at hown2;obtain⟨B2,c2,rfl,hr2,hb2'⟩:=Wp.of aaE (hown1.alloc _) hg2 hown2 (by omega))
        |(refine kL (.tmp 70) (.tmp 75) (c:=1) (hown1) (hb1'.size) (hl1) ?_ ?_ ?_ ?_ ?_ ?_; (· omega); (· rfl); (· rfl); (· rfl); (· rfl);intro v2 w2' hown2 hg2 yO;rw[List.nil_append,Nat.zero_add] at hown2;obtain⟨B2,c2,rfl,hr2,hb2'⟩:=Wp.of hb1' hown1 hg2 hown2 (by omega))
        |(go_simp;go_at_call 50;refine(xZ.out _ B2 R n c (h+1) c2 rc list (pre++ [t]) rows w2' ⟨HT2.out.list.below hb2' aj,hr2,HT2.out.rows.below hb2' aj⟩ H4.out HR.out Pt (by omega)).mono ?_;rintro e w3' hret;obtain⟨A3,c3,M,rs,rfl,HM3,hc3,ho3,hr3,abM⟩:=hret.form;have YN:=hb2'.trans (abM.mono hb2'.size);have hM:=HNM.out M HM3.out;have TF:=own_below Iw.out YN;have aaF:=jP.trans (YN.mono jP.size))
        |(refine PY (.tmp 65) (.tmp 77) (c:=c3) (TF) (aaF.size) (ho3.1) ?_ ?_ ?_ ?_ ?_ ?_; (· omega); (· rfl); (· rfl); (· rfl); (· rfl);intro v4 w4' iy hg4 PV))
       all_goals
        have hinv:yN w w4' v4 ((list.take (k+1)).flatMap F):=by
         rw[HS.out,HFP.out];exact⟨N+M,rv++rs,hM,by rw[List.length_append,Vj.out,HM3.out],Below.own aaF TF aj hg4,iy,
          ((HR2.out.below YN).grown hg4 (zV TF)).append ((hr3.since (Nat.le_trans jP.size hb2'.size)).grown hg4 (zV TF))⟩
        have aaG:=ah hinv;clear hinv iy hg4 PV TF hr3 ho3 hown2 hg2 yO hown1 hg1 jN;go_wp2_with fail
        go_roundw
        case rel=>exact⟨k+1,by omega,by go_num,aaG.out⟩
        case measure=>simp[intOf];omega
   .have e:list.take k=list:=List.take_of_length_le (by omega)
    have ZU:=Vj.out;rw[e] at hrows ZU;have HO:Hid (dP w (ql list rows (m+1) pre) (.returned (.slice Ao N co)) wr):=by
     rw[abK.out];exact dP.aH ZU hco hown aj hrows hb
    clear hown hrows e ZU;go_wp2_with fail
    go_ret;exact HO.out
open Go.RowKit Go.BigFrame Go.Shelf
def kP (pre:List Int):Nat:=pre.foldl (fun g t=>g|||1<<<t.toNat) 0
theorem MF (pre:List Int)(t:Int):kP (pre++ [t])=kP pre|||1<<<t.toNat:=by simp[kP]
theorem P9 (i:Nat): ∀ (pre:List Int) (g:Nat),(pre.foldl (fun g t=>g|||1<<<t.toNat) g).testBit i=(g.testBit i||pre.any fun u=>u.toNat==i):=by
 intro pre;induction pre with
 |nil=>intro g;simp
 |cons t r ih=>
  intro g;rw[List.foldl_cons,ih,List.any_cons,Nat.testBit_or,Bool.or_assoc];congr 1
  congr 1
  rw[Nat.one_shiftLeft,Nat.testBit_two_pow];by_cases h:t.toNat=i<;>simp[h]
theorem zX (pre:List Int)(i:Nat):(kP pre).testBit i=pre.any fun u=>u.toNat==i:=by
 unfold kP;rw[P9];simp
theorem TG {pre:List Int}(h: ∀t∈pre,0<=t/\t<=3):kP pre<16:=by
 refine Nat.lt_pow_two_of_testBit (n:=4) _ fun i hi=>?_
 rw[zX,List.any_eq_false];intro u hu;have:=h u hu;simp;omega
theorem Km {R:List Nat}{pre:List Int}{t:Int} :(R.getD t.toNat 0&&&kP pre=0)↔(pre.any fun u=>cB R t u)=false:=by
 constructor
 .intro h;rw[List.any_eq_false];intro u hu he;have h1:(R.getD t.toNat 0&&&kP pre).testBit u.toNat=false:=by rw[h];simp
  rw[Nat.testBit_and,zX] at h1;unfold cB at he;rw[he,Bool.true_and,List.any_eq_false] at h1;exact h1 u hu (by simp)
 .intro h;refine Nat.eq_of_testBit_eq fun i=>?_
  rw[Nat.testBit_and,zX,Nat.zero_testBit];cases hb:(pre.any fun u=>u.toNat==i)
  .simp
  .rw[List.any_eq_true] at hb;obtain⟨u,hu,hui⟩:=hb;have abN:u.toNat=i:=by simpa using hui
   rw[List.any_eq_false] at h;have:=h u hu;unfold cB at this;rw[abN] at this;simpa using this
theorem YO {R:List Nat}{x:List Int}{k:Nat}{t:Int}(ht:x[k]? =some t)(ha:fM R [] (x.take k)=true)(h:R.getD t.toNat 0&&&kP (x.take k)=0):fM R [] (x.take (k+1))=true:=by
 rw[aR ht,mV,ha];simp only[fM,List.nil_append,Bool.true_and,Bool.and_true];rw[Km.1 h];rfl
theorem YP {R:List Nat}{x:List Int}{k:Nat}{t:Int}(ht:x[k]? =some t)(h: ¬(R.getD t.toNat 0&&&kP (x.take k)=0)):fM R [] x=false:=by
 have e:x=x.take k++(t::x.drop (k+1)):=by
  rw[List.getElem?_eq_some_iff] at ht;obtain⟨hlt,hx⟩:=ht;conv=>lhs;rw[<-List.take_append_drop k x]
  rw[List.drop_eq_getElem_cons hlt,hx]
 rw[e,mV];simp only[fM,List.nil_append];have:((x.take k).any fun u=>cB R t u)=true:=by
  cases hb:((x.take k).any fun u=>cB R t u)
  .exact absurd (Km.2 hb) h
  .rfl
 rw[this];simp
theorem P_ {x:List Int}{k:Nat}{t:Int}(ht:x[k]? =some t):kP (x.take (k+1))=kP (x.take k)|||1<<<t.toNat:=by
 rw[aR ht,MF]
theorem Gy {list:List Int}(h4:list.length<=4)(m:Nat): ∀pre,(fP list m pre).length<=4^m:=by
 induction m with
 |zero=>intro pre;simp[fP]
 |succ m ih=>
  intro pre;rw[r_];refine Nat.le_trans (Kj (M:=4^m) (fun t=>?_) _) ?_
  .unfold kM;split
   .simp
   .exact ih _
  .rw[Nat.pow_succ,Nat.mul_comm];exact Nat.mul_le_mul_left _ h4
theorem Gz {list:List Int}(m:Nat): ∀pre p,p∈fP list m pre-> ∀t∈p,t∈pre\/t∈list:=by
 induction m with
 |zero=>intro pre p hp t ht;simp only[fP,List.mem_singleton] at hp;subst hp;exact .inl ht
 |succ m ih=>
  intro pre p hp t ht;rw[r_,List.mem_flatMap] at hp;obtain⟨u,hu,hp⟩:=hp;unfold kM at hp;split at hp
  .cases hp
  .rcases ih _ _ hp t ht with h|h
   .rcases List.mem_append.1 h with h|h
    .exact .inl h
    .rw[List.mem_singleton] at h;subst h;exact .inr hu
   .exact .inr h
theorem su {list:List Int}(m:Nat): ∀pre p,p∈fP list m pre->p.length=pre.length+m:=by
 induction m with
 |zero=>intro pre p hp;simp only[fP,List.mem_singleton] at hp;subst hp;simp
 |succ m ih=>
  intro pre p hp;rw[r_,List.mem_flatMap] at hp;obtain⟨u,hu,hp⟩:=hp;unfold kM at hp;split at hp
  .cases hp
  .have:=ih _ _ hp;simp at this;omega
def nG (rv:List Value):Prop:= ∀ (i j:Nat) (a b:Addr) (n m c d:Nat),i≠j->rv[i]? =some (Value.slice (some a) n c)->rv[j]? =some (Value.slice (some b) m d)->a.block≠b.block
theorem nG.nil:nG [] :=fun i j a b n m c d _ h=>by simp at h
theorem nG.snoc {rv:List Value}{A:Option Addr}{n c:Nat}(h:nG rv)(hA: ∀ (i:Nat) (a:Addr) (m d:Nat) (b:Addr),A=some b->rv[i]? =some (Value.slice (some a) m d)->a.block≠b.block):nG (rv++ [Value.slice A n c]):=by
 intro i j a b n' m' c' d' hij hi hj;have at2: ∀k a n'' c'',(rv++ [Value.slice A n c])[k]? =some (.slice (some a) n'' c'')->rv[k]? =some (.slice (some a) n'' c'')\/(k=rv.length/\A=some a):=by
  intro k a n'' c'' hk;rcases Nat.lt_or_ge k rv.length with h1|h1
  .rw[List.getElem?_append_left h1] at hk;exact .inl hk
  .rw[List.getElem?_append_right h1] at hk;rcases Nat.eq_zero_or_pos (k-rv.length) with h0|h0
   .rw[h0] at hk;simp only[List.getElem?_cons_zero,Option.some.injEq] at hk;injection hk with e1 _ _;exact .inr ⟨by omega,e1⟩
   .rw[List.getElem?_eq_none (by simp;omega)] at hk;cases hk
 rcases at2 i a _ _ hi with h1|⟨e1,h1⟩
 .rcases at2 j b _ _ hj with h2|⟨e2,h2⟩
  .exact h i j a b _ _ _ _ hij h1 h2
  .exact hA i a _ _ b h2 h1
 .rcases at2 j b _ _ hj with h2|⟨e2,h2⟩
  .exact fun e=>hA j b _ _ a h1 h2 e.symm
  .omega
theorem eG.blocks {w0 w:World}{rv:List Value}{xss:List (List Int)}(h:eG w0 w rv xss): ∀ (i:Nat) (a:Addr) (m d:Nat),rv[i]? =some (Value.slice (some a) m d)->a.block<w.heap.size:=by
 intro i a m d hi;have hl:=(List.getElem?_eq_some_iff.1 hi).1;obtain⟨C,c,e,_,hr⟩:=h.2 i _ (List.getElem?_eq_getElem (by rw[<-h.1];exact hl))
 rw[hi] at e;injection e with e;injection e with e1 _ _;obtain⟨b,cur,e2,_,h2,_⟩:=hr.2 a e1.symm;rw[e2];exact lt_of_block h2
def gV (w0:World)(xss:List (List Int))(e:Ending)(w:World):Prop:=
 ∃A c rv,e=.returned (.slice A xss.length c)/\xss.length<=c/\uF w0 w A xss.length rv/\eG w0 w rv xss/\nG rv/\Below w0.heap.size w0 w
theorem gV.nil {w0 w:World}(h:Below w0.heap.size w0 w):gV w0 [] (.returned (.slice none 0 0)) w:=
 ⟨none,0,[],rfl,Nat.le_refl _,⟨⟨rfl,by simp,fun h=>absurd h (by simp)⟩,fun ad h=>by cases h⟩,eG.nil,nG.nil,h⟩
theorem gV.lists {w0 w:World}{xss:List (List Int)}{e:Ending}(h:gV w0 xss e w):dP w0 xss e w:=by
 obtain⟨A,c,rv,h1,h2,h3,h4,_,h5⟩:=h;exact⟨A,c,rv,h1,h2,h3,h4,h5⟩
structure fV (w0 w:World)(bo q:Nat)(xss:List (List Int))(V:World):Prop where
 below:Below w0.heap.size w0 V
 frozen:V.frozen? ⟨bo,0,none⟩=false
 out: ∃ov rv,V.cell? ⟨bo,0,none⟩=some ov/\V.ownsRow w0.heap.size 45 1 ov xss.length rv/\eG (six w) V rv xss/\nG rv/\ ∀g,ov.ownBlock=some g->g=q\/w.heap.size+6<=g
theorem oJ {V W:World}{base:Nat}{e:TypeId}{size n:Nat}{v:Value}{xs:List Value}(h:V.ownsRow base e size v n xs)(hk: ∀g,v.ownBlock=some g->W.heap[g]? =V.heap[g]?):W.ownsRow base e size v n xs:=by
 refine⟨h.1,?_⟩;rcases h.2 with h1|⟨g,cap,cur,e1,h2,h3,h4⟩
 .exact .inl h1
 .exact .inr ⟨g,cap,cur,e1,h2,(hk g (by rw[e1];simp[Value.ownBlock])).trans h3,h4⟩
theorem aN.turned {w0 V W:World}{A:Option Addr}{n:Nat}{xs:List Int}(h:aN w0 V A n xs)(hs:V.heap.size<=W.heap.size)(hk: ∀g,w0.heap.size<=g->g<V.heap.size->(∃cur,V.heap[g]? =some (.cells cur 3 (0,0)))->W.heap[g]? =V.heap[g]?):aN w0 W A n xs:=by
 have hblk: ∀ad,A=some ad-> ∃b cur,ad=⟨b,0,none⟩/\w0.heap.size<=b/\V.heap[b]? =some (.cells cur 3 (0,0))/\n<=cur.size/\W.heap[b]? =V.heap[b]? :=fun ad had=>by
  obtain⟨b,cur,e,h1,h2,h3⟩:=h.2 ad had;exact⟨b,cur,e,h1,h2,h3,hk b h1 (lt_of_block h2) ⟨cur,h2⟩⟩
 refine⟨⟨h.1.1,h.1.2.1,fun hn=>?_⟩,fun ad had=>?_⟩
 .obtain⟨b,off,hA,hlt,hc⟩:=h.1.2.2 hn;obtain⟨b',cur,e,_,_,_,hkb⟩:=hblk _ hA;injection e with e1 e2 _;subst e1;exact⟨b,off,hA,by omega,fun i x hx=>(World.cell?_of_block (w:=V) (a:=⟨b,off+i,none⟩) hkb).trans (hc i x hx)⟩
 .obtain⟨b,cur,e,h1,h2,h3,hkb⟩:=hblk ad had;exact⟨b,cur,e,h1,hkb.trans h2,h3⟩
theorem eG.turned {w0 V W:World}{rv:List Value}{xss:List (List Int)}(h:eG w0 V rv xss)(hs:V.heap.size<=W.heap.size)(hk: ∀g,w0.heap.size<=g->g<V.heap.size->(∃cur,V.heap[g]? =some (.cells cur 3 (0,0)))->W.heap[g]? =V.heap[g]?):eG w0 W rv xss:=
 ⟨h.1,fun i xs hi=>by obtain⟨C,c,e,hmc,hr⟩:=h.2 i xs hi;exact⟨C,c,e,hmc,hr.turned hs hk⟩⟩
theorem fV.open_ {w0 w:World}{bo q:Nat}{xss:List (List Int)}{V W:World}(h:fV w0 w bo q xss V)(hq:q<w.heap.size)(hw:w0.heap.size<=w.heap.size)(nE:bo<w.heap.size)(hst:gu w.heap.size V W):
 Below w0.heap.size w0 W/\W.frozen? ⟨bo,0,none⟩=false/\ ∃ov rv,W.cell? ⟨bo,0,none⟩=some ov/\W.ownsRow w0.heap.size 45 1 ov xss.length rv/\eG (six w) W rv xss/\nG rv/\(∀g,ov.ownBlock=some g->g=q\/w.heap.size+6<=g)/\
  ∀ (i:Nat) (a:Addr) (m d:Nat),rv[i]? =some (Value.slice (some a) m d)->a.block<V.heap.size:=by
 obtain⟨hb,hf,ov,rv,hc,hown,hr,hap,hg⟩:=h;have qX:bo<V.heap.size:=block_lt_of_cell hc;have kb:W.heap[bo]? =V.heap[bo]? :=hst.block bo qX (by omega)
 refine⟨⟨hst.os.trans hb.os,hst.tape.trans hb.tape,hst.output.trans hb.output,Nat.le_trans hb.size hst.size,fun k hk=>(hst.block k (Nat.lt_of_lt_of_le hk hb.size) (by omega)).trans (hb.block k hk)⟩,?_,ov,rv,(World.cell?_of_block (w:=V) (a:=⟨bo,0,none⟩) kb).trans hc,?_,?_,hap,hg,hr.blocks⟩
 .rw[World.frozen?_of_block (w:=V) (a:=⟨bo,0,none⟩) kb];exact hf
 .refine oJ hown fun g hge=>hst.block g ?_ (by have:=hg g hge;omega)
  rcases hown.2 with⟨h1,_⟩|⟨g',cap,cur,e1,_,h3,_⟩
  .rw[h1] at hge;cases hge
  .rw[e1] at hge;have:g'=g:=by simpa[Value.ownBlock] using hge
   subst this;exact lt_of_block h3
 .exact hr.turned hst.size fun g h6 RS _=>hst.block g RS (by rw[uG] at h6;omega)
theorem fV.step {w0 w:World}{bo q:Nat}{xss:List (List Int)}{V W:World}(h:fV w0 w bo q xss V)(hq:q<w.heap.size)(hw:w0.heap.size<=w.heap.size)(nE:bo<w.heap.size)(hst:gu w.heap.size V W):fV w0 w bo q xss W:=by
 obtain⟨h1,h2,ov,rv,h3,h4,h5,h6,h7,_⟩:=h.open_ hq hw nE hst;exact⟨h1,h2,ov,rv,h3,h4,h5,h6,h7⟩
theorem fV.start {w0 w:World}{bo q:Nat}(hb:Below w0.heap.size w0 w)(hc:w.cell? ⟨bo,0,none⟩=some (.slice (some ⟨q,0,none⟩) 0 0))(hf:w.frozen? ⟨bo,0,none⟩=false)(hown:w.ownsRow w0.heap.size 45 1 (.slice (some ⟨q,0,none⟩) 0 0) 0 []):fV w0 w bo q [] w:=
 ⟨hb,hf,_,[],hc,hown,eG.nil,nG.nil,fun g hg=>.inl (by simpa[Value.ownBlock,eq_comm] using hg)⟩
theorem fV.push {w0 w:World}{bo q:Nat}{xss:List (List Int)}{V V1 W:World}{ov Gp:Value}{rv:List Value}{A:Option Addr}{n:Nat}{x:List Int}(hw:w0.heap.size<=w.heap.size)(nE:bo<w.heap.size)(abO:w0.heap.size<=bo)(hq:q≠bo/\q<w.heap.size)
 (hb:Below w0.heap.size w0 V) (hf:V.frozen? ⟨bo,0,none⟩=false) (hc:V.cell? ⟨bo,0,none⟩=some ov) (hown:V.ownsRow w0.heap.size 45 1 ov xss.length rv) (hr:eG (six w) V rv xss) (hap:nG (rv++ [.slice A n n])) (hg: ∀g,ov.ownBlock=some g->g=q\/w.heap.size+6<=g)
 (hx:aN (six w) V A n x) (hxl:x.length=n) (hb1:Below V.heap.size V V1) (hlo:w.heap.size+6<=V.heap.size)
 (hown':W.ownsRow w0.heap.size 45 1 Gp (xss.length+1) (rv++ [.slice A n n])) (hgr:V1.grownBy W ov.ownBlock) (hnew:Gp.ownBlock=ov.ownBlock\/Gp.ownBlock=some V1.heap.size):
 fV w0 w bo q (xss++ [x]) (W.setCell ⟨bo,0,none⟩ Gp):=by
 have hs1:=hb1.size;have hgs:=World.grownBy.size hgr;have abP:bo<V.heap.size:=block_lt_of_cell hc;have hown1:V1.ownsRow w0.heap.size 45 1 ov xss.length rv:=own_below hown hb1;have hne:ov.ownBlock≠some bo:=fun e=>by have:=hg bo e;omega
 have aaH:W.heap[bo]? =V.heap[bo]? :=(hgr.block bo (by omega) (fun e=>hne e.symm)).trans (hb1.block bo abP)
 have hbW:Below w0.heap.size w0 W:=Below.own (hb.trans (hb1.mono hb.size)) hown1 aj hgr;have hint: ∀g,ov.ownBlock=some g-> ∀cur,V1.heap[g]? ≠some (.cells cur 3 (0,0)):=zV hown1;have turn: ∀g,V.heap.size >g->(∃cur,V.heap[g]? =some (.cells cur 3 (0,0)))->g≠bo->(W.setCell ⟨bo,0,none⟩ Gp).heap[g]? =V.heap[g]? :=by
  intro g RS ⟨cur,hcur⟩ hgb;refine(Below.heap_setCell W _ _ g (by simpa using hgb)).trans ?_
  refine(hgr.block g (by omega) ?_).trans (hb1.block g RS)
  intro e;exact hint g e.symm cur ((hb1.block g RS).trans hcur)
 refine⟨hbW.setCell (by simpa using abO) _,?_,Gp,rv++ [.slice A n n],World.cell?_setCell_same' _ _ _ ?_,?_,?_,hap,?_⟩
 .rw[World.frozen?_setCell,World.frozen?_of_block (w:=V) (a:=⟨bo,0,none⟩) aaH];exact hf
 .rw[World.cell?_of_block (w:=V) (a:=⟨bo,0,none⟩) aaH,hc];rfl
 .rw[List.length_append,List.length_singleton];refine oJ hown' fun g hge=>Below.heap_setCell W _ _ g ?_
  intro e;simp only at e;subst e;rcases hnew with h|h
  .rw[h] at hge;have:=hg _ hge;omega
  .rw[h] at hge;injection hge with hge;omega
 .refine eG.append (hr.turned (by simp[World.setCell];omega) fun g h6 RS hcur=>turn g RS hcur (by rw[uG] at h6;omega)) ?_
  exact eG.lit hxl aj (hx.turned (by simp[World.setCell];omega) fun g h6 RS hcur=>turn g RS hcur (by rw[uG] at h6;omega))
 .intro g hge;rcases hnew with h|h
  .rw[h] at hge;exact hg g hge
  .rw[h] at hge;injection hge with hge;exact .inr (by omega)
theorem vL {w:World}{bo q bx n0:Nat}{V V1 W:World}{ov Gp:Value}(nE:bo<w.heap.size)(hn0:n0<=bo/\n0<=q)(hne:bx≠bo/\bx≠q/\bx<w.heap.size)(hq:q<w.heap.size)
 (hg: ∀g,ov.ownBlock=some g->g=q\/w.heap.size+6<=g) (acr:n0<=w.heap.size) (hb1:Below V.heap.size V V1) (hgr:V1.grownBy W ov.ownBlock):
 sj w.heap.size bx n0 V (W.setCell ⟨bo,0,none⟩ Gp):=by
 have hs1:=hb1.size;have hgs:=World.grownBy.size hgr;refine⟨by simp[World.setCell];omega,fun k hk hc=>?_⟩
 refine(Below.heap_setCell W _ _ k ?_).trans ((hgr.block k (by omega) ?_).trans (hb1.block k hk))
 .simp only;omega
 .intro e;have:=hg k e.symm;omega
theorem vM {w:World}{bo q p:Nat}{V V1 W:World}{ov Gp v:Value}(hg: ∀g,ov.ownBlock=some g->g=q\/w.heap.size+6<=g)(hp:p<w.heap.size)(hpq:p≠q)(hpb:p≠bo)(hb1:Below V.heap.size V V1)(hgr:V1.grownBy W ov.ownBlock)
 (hc:V.cell? ⟨p,0,none⟩=some v):(W.setCell ⟨bo,0,none⟩ Gp).cell? ⟨p,0,none⟩=some v:=by
 have hpV:p<V.heap.size:=block_lt_of_cell hc;have hs1:=hb1.size;refine(World.cell?_of_block (w:=V) (a:=⟨p,0,none⟩) ?_).trans hc;refine(Below.heap_setCell W _ _ p (by simpa using hpb)).trans ((hgr.block p (by omega) ?_).trans (hb1.block p hpV))
 intro e;have:=hg p e.symm;omega
end Go.Proofs.YtddkjbibjjehjaaGreatDoor
