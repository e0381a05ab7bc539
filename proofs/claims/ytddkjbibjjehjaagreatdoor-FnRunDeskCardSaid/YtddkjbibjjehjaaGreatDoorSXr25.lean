/-
  Texts that the proof rests on, joined: part 25.
-/
import Derived.Test.YtddkjbibjjehjaaGreatDoorSXr22
import Derived.Test.YtddkjbibjjehjaaGreatDoorSXr24
set_option maxHeartbeats 16000000
set_option maxRecDepth 100000
namespace Go.Proofs.YtddkjbibjjehjaaGreatDoor
open Go.RowKit Go.BigFrame
set_option linter.unusedVariables false
def KE (L:List ay):List Int:= [aL L 0 0,aL L 0 1,aL L 0 2,aL L 1 0,aL L 1 1,aL L 1 2,aL L 2 0,aL L 2 1,aL L 2 2,aL L 3 0,aL L 3 1,aL L 3 2]
def iK (w:World)(g:Nat)(L:List ay):Prop:=au w g 215 (intCells (KE L))
theorem WG (L:List ay){t x:Nat}(ht:t<=3)(hx:x<=2):(intCells (KE L))[t*3+x]? =some (.int .i64 (aL L t x)):=by
 rcases(by omega:t=0\/t=1\/t=2\/t=3) with rfl|rfl|rfl|rfl<;>rcases(by omega:x=0\/x=1\/x=2) with rfl|rfl|rfl<;>rfl
theorem iK.cell {w:World}{g:Nat}{L:List ay}(h:iK w g L){t x:Nat}(ht:t<=3)(hx:x<=2):w.cell? ⟨g,t*3+x,none⟩=some (.int .i64 (aL L t x)):=au.cell h (WG L ht hx)
theorem iK.below {w w':World}{g:Nat}{L:List ay}(h:iK w g L)(hb:Below w.heap.size w w'):iK w' g L:=au.below h hb aj
theorem iK.lt {w:World}{g:Nat}{L:List ay}(h:iK w g L):g<w.heap.size:=au.lt h
theorem WH {L:List ay}{s:ay}{t x:Nat}(ht:t<=3)(hx:x<=2)(h1:s.tx=t)(h2:s.item=x){v:Int}(hv:gB t x (aL L t x) s=v):(intCells (KE L)).set (t*3+x) (.int .i64 v)=intCells (KE (L++ [s])):=by
 have key: ∀t' x':Int,aL (L++ [s]) t' x'=if t'=(t:Int)/\x'=(x:Int) then v else aL L t' x':=fun t' x'=>by
  rw[jr];by_cases h:t'=(t:Int)/\x'=(x:Int)
  .rw[if_pos h,h.1,h.2];exact hv
  .rw[if_neg h];unfold gB;rw[if_neg (by rw[h1,h2];rintro⟨e1,e2⟩;exact h ⟨e1.symm,e2.symm⟩)]
 rcases(by omega:t=0\/t=1\/t=2\/t=3) with rfl|rfl|rfl|rfl<;>rcases(by omega:x=0\/x=1\/x=2) with rfl|rfl|rfl
 all_goals simp[KE,intCells,key]
theorem Ud {L:List ay}{s:ay}(h:3<=s.kind):KE (L++ [s])=KE L:=by
 have: ∀t x:Int,aL (L++ [s]) t x=aL L t x:=fun t x=>by
  rw[jr];unfold gB;split
  .rw[if_neg (by omega),if_neg (by omega)]
  .rfl
 unfold KE;simp only[this]
theorem Qu (o:ay)(w:World):
 Calls Tryz.prog 197 #[o.val] w fun e w'=>e=.returned (.bool (o.kind==0||o.kind==1))/\Below w.heap.size w w':=by
 obtain⟨t,k,x⟩:=o;unfold ay.val;by_cases k0:k=0
 .subst k0;go_enter Tryz.func197,Tryz.ntmps197;go_wp2
  go_ret;exact⟨rfl,aG.alloc aj _⟩
 .have hk:(k==0)=false:=by simp[k0]
  go_enter Tryz.func197,Tryz.ntmps197;go_wp2
  go_ret;exact⟨aI (by simp[hk]),aG.alloc aj _⟩
def oQ (g:Nat)(L:List ay)(s:ay)(w:World)(e:Ending)(w':World):Prop:=e=.returned (.tuple #[])/\iK w' g (L++ [s])/\w.grownBy w' (some g)
theorem KF {w wd:World}{g:Nat}{L:List ay}{s:ay}{t x:Nat}(h:iK wd g L)(hb:Below w.heap.size w wd)(ht:t<=3)(hx:x<=2)(h1:s.tx=t)(h2:s.item=x){v:Int}(hv:gB t x (aL L t x) s=v):
 oQ g L s w (.returned (.tuple #[])) (wd.setCell ⟨g,t*3+x,none⟩ (.int .i64 v)):=by
 refine⟨rfl,?_,World.grownBy.trans (fq hb) fA⟩;unfold iK;rw[<-WH ht hx h1 h2 hv];exact au.set h _ _
theorem KG (g:Nat)(L:List ay)(s:ay)(w:World)(h:iK w g L)(hs:fB s=true):
 Calls Tryz.prog 181 #[.pointer (some ⟨g,0,none⟩),s.val] w (oQ g L s w):=by
 obtain⟨ht,hk,hx⟩:=fC.1 hs;obtain⟨t,k,x⟩:=s;simp only at ht hk hx;obtain⟨T,rfl⟩:=Int.eq_ofNat_of_zero_le ht.1;obtain⟨X,rfl⟩:=Int.eq_ofNat_of_zero_le hx.1;have Bc:T<=3:=by omega
 have hX2:X<=2:=by omega
 have H:=ah h;obtain⟨W,hW⟩: ∃W:World,W=w.alloc (.cells #[.int .i64 (T:Int),.int .i64 k,.int .i64 (X:Int)] 154):=⟨_,rfl⟩;have nD:Hid (Below w.heap.size w W):=by show Below _ _ _;rw[hW];exact aG.alloc aj _
 have Z4:Hid (∀u,Below W.heap.size W u->u.cell? ⟨w.heap.size,0,none⟩=some (.int .i64 (T:Int))/\u.cell? ⟨w.heap.size,1,none⟩=some (.int .i64 k)/\u.cell? ⟨w.heap.size,2,none⟩=some (.int .i64 (X:Int))):=fun u hu=>by
  have a0:W.cell? ⟨w.heap.size,0,none⟩=some (.int .i64 (T:Int)):=by rw[hW];exact aV _ _ _ _ _ rfl
  have a1:W.cell? ⟨w.heap.size,1,none⟩=some (.int .i64 k):=by rw[hW];exact aV _ _ _ _ _ rfl
  have a2:W.cell? ⟨w.heap.size,2,none⟩=some (.int .i64 (X:Int)):=by rw[hW];exact aV _ _ _ _ _ rfl
  exact⟨Later.cell a0 ⟨u,hu⟩,Later.cell a1 ⟨u,hu⟩,Later.cell a2 ⟨u,hu⟩⟩
 have HW:=ah hW;have Wm:(T:Int)<4:=by omega
 have hT0:(0:Int)<=(T:Int):=by omega
 have Y9:(X:Int)<3:=by omega
 have hX0:(0:Int)<=(X:Int):=by omega
 clear h hW hs;unfold ay.val;simp only;obtain⟨bt,hbt⟩: ∃b,(k==0||k==1)=b:=⟨_,rfl⟩
 have HT:Hid (∀W:World,Calls Tryz.prog 197 #[.agg #[.int .i64 (T:Int),.int .i64 k,.int .i64 (X:Int)]] W fun e w'=>e=.returned (.bool bt)/\Below W.heap.size W w'):=fun W=>by
  have:=Qu ⟨(T:Int),k,(X:Int)⟩ W;simp only at this;rw[hbt] at this;exact this
 cases bt
 .by_cases k2:k=2
  .subst k2;clear hbt;go_enter Tryz.func181,Tryz.ntmps181;go_wp2_with (go_at_call 197;go_loud (rw[<-HW.out];refine(HT.out W).mono ?_;rintro e w2 ⟨rfl,hb2⟩;have hbw2:=nD.out.trans (hb2.mono nD.out.size);obtain⟨e0,e1,e2⟩:=Z4.out _ hb2))
   have hT:=H.out.below hbw2;have hc:=hT.cell Bc hX2;have hf:=au.frozen hT (T*3+X);obtain⟨wd,hwd⟩: ∃wd:World,wd=w2.drew:=⟨_,rfl⟩;have HP:Hid (oQ g L ⟨(T:Int),2,(X:Int)⟩ w (.returned (.tuple #[])) (wd.setCell ⟨g,T*3+X,none⟩ (.int .i64 (-1)))):=by
    show oQ _ _ _ _ _ _
    rw[hwd];exact KF (show iK w2.drew g L from hT) hbw2.drew Bc hX2 rfl rfl (by unfold gB;simp)
   have hcd:wd.cell? ⟨g,T*3+X,none⟩=some (.int .i64 (aL L T X)):=by rw[hwd];exact hc
   have hfd:wd.frozen? ⟨g,T*3+X,none⟩=false:=by rw[hwd];exact hf
   have lY:=ah hwd;clear hT hc hf hwd hbw2 hb2;refine wp_region_still_tail 8 (by kernel_rfl) (by kernel_rfl) ?_
   simp only[List.take_succ_cons,List.take_zero,List.drop_succ_cons,List.drop_zero];repeat(first|still_step|fail)
   refine wpStill_nil ?_;change wpList _ _ _ _ _ w2.drew;rw[<-lY.out];go_wp2_with fail
   refine bodyPost_ret (results_none rfl _ _ _) rfl ?_;exact HP.out
  .have h34:3<=k:=by simp at hbt;omega
   have HN:Hid (∀w',Below w.heap.size w w'->oQ g L ⟨(T:Int),k,(X:Int)⟩ w (.returned (.tuple #[])) w'):=fun w' hb=>⟨rfl,by unfold iK;rw[Ud (s:=⟨(T:Int),k,(X:Int)⟩) h34];exact H.out.below hb,fq hb⟩
   have hk2:(k==2)=false:=by simp[k2]
   clear hbt;go_enter Tryz.func181,Tryz.ntmps181;go_wp2_with (go_at_call 197;go_loud (rw[<-HW.out];refine(HT.out W).mono ?_;rintro e w2 ⟨rfl,hb2⟩;have hbw2:=nD.out.trans (hb2.mono nD.out.size);obtain⟨e0,e1,e2⟩:=Z4.out _ hb2))
   refine bodyPost_ret (results_none rfl _ _ _) rfl ?_;exact HN.out _ hbw2
 .have h01:0<=k/\k<=1:=by
   simp only[Bool.or_eq_true,beq_iff_eq] at hbt;omega
  clear hbt;go_enter Tryz.func181,Tryz.ntmps181;go_wp2_with (go_at_call 197;go_loud (rw[<-HW.out];refine(HT.out W).mono ?_;rintro e w2 ⟨rfl,hb2⟩;have hbw2:=nD.out.trans (hb2.mono nD.out.size);obtain⟨e0,e1,e2⟩:=Z4.out _ hb2))
  have hT:=H.out.below hbw2;have hc:=hT.cell Bc hX2;have hf:=au.frozen hT (T*3+X);obtain⟨wd,hwd⟩: ∃wd:World,wd=w2.drew:=⟨_,rfl⟩;have HP:Hid (oQ g L ⟨(T:Int),k,(X:Int)⟩ w (.returned (.tuple #[])) (wd.setCell ⟨g,T*3+X,none⟩ (.int .i64 k))):=by
   show oQ _ _ _ _ _ _
   rw[hwd];exact KF (show iK w2.drew g L from hT) hbw2.drew Bc hX2 rfl rfl (by unfold gB;simp only[and_self,if_true];rw[if_neg (by omega),if_pos (by omega)])
  have hcd:wd.cell? ⟨g,T*3+X,none⟩=some (.int .i64 (aL L T X)):=by rw[hwd];exact hc
  have hfd:wd.frozen? ⟨g,T*3+X,none⟩=false:=by rw[hwd];exact hf
  have lY:=ah hwd;clear hT hc hf hwd hbw2 hb2;refine wp_region_still_tail 10 (by kernel_rfl) (by kernel_rfl) ?_
  simp only[List.take_succ_cons,List.take_zero,List.drop_succ_cons,List.drop_zero];repeat(first|still_step|fail)
  refine wpStill_nil ?_;change wpList _ _ _ _ _ w2.drew;rw[<-lY.out];go_wp2_with fail
  refine bodyPost_ret (results_none rfl _ _ _) rfl ?_;exact HP.out
def nL (n:Nat):List Int:=List.replicate n (-1)++List.replicate (12-n) 0
theorem Qv {n:Nat}(h:n<12):(intCells (nL n)).set n (.int .i64 (-1))=intCells (nL (n+1)):=by
 have hlt: ∀m:Nat,m<12->(intCells (nL m)).set m (.int .i64 (-1))=intCells (nL (m+1)):=by
  intro m hm;rcases(by omega:m=0\/m=1\/m=2\/m=3\/m=4\/m=5\/m=6\/m=7\/m=8\/m=9\/m=10\/m=11) with rfl|rfl|rfl|rfl|rfl|rfl|rfl|rfl|rfl|rfl|rfl|rfl<;>rfl
 exact hlt n h
theorem Qw {n:Nat}(h:n<=12):(intCells (nL n)).length=12:=by simp[intCells,nL];omega
def IV (w:World)(st:List ay)(e:Ending)(w':World):Prop:= ∃g,e=.returned (.pointer (some ⟨g,0,none⟩))/\w.heap.size<=g/\iK w' g st/\Below w.heap.size w w'
theorem KH (A:Option Addr)(n c:Nat)(st:List ay)(w:World)(hx:aC w A n st)(hv: ∀s∈st,fB s=true):
 Calls Tryz.prog 165 #[.slice A n c] w (IV w st):=by
 have hn:=hx.2.1;have hl:=hx.1;have HX:=ah hx;have HV:=ah hv;clear hx hv;go_enter Tryz.func165,Tryz.ntmps165;go_wp2_with fail
 have HST:Hid (Below w.heap.size w (w.alloc (.cells (intCells (nL 0)).toArray 215))/\au (w.alloc (.cells (intCells (nL 0)).toArray 215)) w.heap.size 215 (intCells (nL 0))):=⟨aG.alloc aj _,heap_alloc_new w _⟩;go_loopw [10] (fun i wr=> ∃t:Nat,t<=4/\i=.int .i64 t/\Below w.heap.size w wr/\au wr w.heap.size 215 (intCells (nL (t*3)))) (fun i _=>4- (intOf i).toNat)
 case atStart=>exact⟨0,by omega,rfl,HST.out.1,HST.out.2⟩
 case round=>
  clear HST;obtain⟨t,ht,rfl,hb,hr⟩:=hrel;by_cases hlt:t<4
  .have ht4:(t:Int)<4:=by omega
   have ht0:(0:Int)<=(t:Int):=by omega
   have HST:Hid (Below w.heap.size w wr/\au wr w.heap.size 215 (intCells (nL (t*3+0)))):=⟨hb,hr⟩;clear hb hr;go_wp2_with fail
   go_loopw [13] (fun i wr=> ∃x:Nat,x<=3/\i=.int .i64 x/\Below w.heap.size w wr/\au wr w.heap.size 215 (intCells (nL (t*3+x)))) (fun i _=>3- (intOf i).toNat)
   case atStart=>exact⟨0,by omega,rfl,HST.out.1,HST.out.2⟩
   case round=>
    clear HST;obtain⟨x,hx,rfl,hb,hr⟩:=hrel;by_cases acD:x<3
    .have hx3:(x:Int)<3:=by omega
     have hx0:(0:Int)<=(x:Int):=by omega
     have hlen:=Qw (n:=t*3+x) (by omega)
     have e:(intCells (nL (t*3+x)))[t*3+x]? =some ((intCells (nL (t*3+x)))[t*3+x]'(by omega)):=List.getElem?_eq_getElem (by omega)
     have hc:=hr.cell e;have hf:=hr.frozen (t*3+x);have hset:=hr.set (t*3+x) (.int .i64 (-1));rw[Qv (by omega)] at hset
     have HP:Hid (Below w.heap.size w (wr.setCell ⟨w.heap.size,t*3+x,none⟩ (.int .i64 (-1)))/\_):=And.intro (hb.setCell (by simp) _) hset
     generalize(intCells (nL (t*3+x)))[t*3+x]'(by omega)=v0 at hc
     clear e hset hr hb hlen;go_wp2_with fail
     go_roundw
     case rel=>exact⟨x+1,by omega,by go_num,HP.out.1,HP.out.2⟩
     case measure=>simp[intOf];omega
    .have hx3:x=3:=by omega
     have HP:Hid (Below w.heap.size w wr/\au wr w.heap.size 215 (intCells (nL ((t+1)*3)))):=⟨hb,by rw[hx3,show t*3+3=(t+1)*3 by omega] at hr;exact hr⟩
     clear hb hr;go_wp2_with fail
     go_roundw
     case rel=>exact⟨t+1,by omega,by go_num,HP.out.1,HP.out.2⟩
     case measure=>simp[intOf];omega
  .have ht4:t=4:=by omega
   have hnt: ¬((t:Int)<4):=by omega
   have hlt2:=ah hlt;have ht2:=ah ht;have HP:Hid (Below w.heap.size w wr/\iK wr w.heap.size (st.take 0)):=⟨hb,by rw[ht4] at hr;exact hr⟩
   clear hb hr ht4 hlt ht;go_wp2_with fail
   go_loopw [26] (fun i wr=> ∃k:Nat,k<=n/\i=.int .i64 k/\Below w.heap.size w wr/\iK wr w.heap.size (st.take k)) (fun i _=>n- (intOf i).toNat)
   case atStart=>exact⟨0,by omega,rfl,HP.out.1,HP.out.2⟩
   case round=>
    clear HP;obtain⟨k,hk,rfl,hb,hT⟩:=hrel;by_cases hkl:k<n
    .obtain⟨b,off,o,rfl,hbl,ho,c0,c1,c2⟩:=(HX.out.below hb aj).at_ hkl;have hok:=HV.out o (List.mem_of_getElem? ho);have hts:=aR ho;have Z5:=ah hts;have hbs:=hb.size;obtain⟨W,hW⟩: ∃W:World,W=wr.alloc (.cells #[.int .i64 o.tx,.int .i64 o.kind,.int .i64 o.item] 154):=⟨_,rfl⟩;have hTW:iK W w.heap.size (st.take k):=by rw[hW];exact hT.below (aG.alloc aj _)
     have nD:Hid (Below w.heap.size w W):=by show Below _ _ _;rw[hW];exact hb.alloc hbs _
     have hca:=KG w.heap.size (st.take k) o W hTW hok;unfold ay.val at hca;have HCA:=ah hca;have HW:=ah hW;clear hca hW hTW hT hts ho hok;obtain⟨tx,kd,it⟩:=o;simp only at c0 c1 c2 HCA HW;have hki:(k:Int)< (n:Int):=by omega
     have hk0:(0:Int)<=(k:Int):=by omega
     have hkd:decide ((k:Int)< (n:Int))=true:=by simp;omega
     have acE:decide (k<n)=true:=by simp;omega
     go_wp2_with (go_at_call 181;go_loud (rw[<-HW.out];refine HCA.out.mono ?_;rintro e w2 ⟨rfl,hT2,hg2⟩;have hb2:=Below.grown nD.out hg2 nD.out.size (fun k hk=>by injection hk with hk;omega);have iA:=ah (And.intro hb2 hT2);clear hb2 hT2 hg2))
     go_roundw
     case rel=>exact⟨k+1,by omega,by go_num,iA.out.1,by rw[Z5.out];exact iA.out.2⟩
     case measure=>simp[intOf];omega
    .have HP:Hid (IV w st (.returned (.pointer (some ⟨w.heap.size,0,none⟩))) wr):=⟨_,rfl,Nat.le_refl _,by have e:st.take k=st:=List.take_of_length_le (by omega);rw[e] at hT;exact hT,hb⟩
     clear hb hT;go_wp2_with fail
     go_ret;exact HP.out
def Fx (L:List ay)(t x least:Int):List Int:= [0,1,2,3].filter fun u=>u !=t&&decide (least<=aL L u x)
def Ab (L:List ay)(t x least:Int)(k:Nat):List Int:=((List.range k).map fun i:Nat=>(i:Int)).filter fun u=>u !=t&&decide (least<=aL L u x)
theorem KI (L:List ay)(t x least:Int)(k:Nat):Ab L t x least (k+1)=Ab L t x least k++if((k:Int) !=t&&decide (least<=aL L k x))=true then [(k:Int)] else [] :=by
 unfold Ab;rw[List.range_succ,List.map_append,List.filter_append];simp[List.filter_cons]
theorem KJ (L:List ay)(t x least:Int):Ab L t x least 4=Fx L t x least:=rfl
theorem Ee (g:Nat)(L:List ay)(t:Int)(X:Nat)(least:Int)(w:World)(h:iK w g L)(hX:X<=2):
 Calls Tryz.prog 198 #[.pointer (some ⟨g,0,none⟩),.int .i64 t,.int .i64 (X:Int),.int .i64 least] w (aT w (Fx L t (X:Int) least)):=by
 have hown0:=World.ownsRow_made (base:=w.heap.size) (e:=3) (size:=1) w #[] 0 aj (by decide) rfl
 have HST:Hid ((w.alloc (.cells #[] 3)).ownsRow w.heap.size 3 1 (.slice (some ⟨w.heap.size,0,none⟩) 0 0) 0 (intCells (Ab L t (X:Int) least 0))/\Below w.heap.size w (w.alloc (.cells #[] 3))):=⟨hown0,aG.alloc aj _⟩;have H:=ah h;clear h hown0;go_enter Tryz.func198,Tryz.ntmps198;go_wp2_with fail
 go_loopw [9,12] (fun ov i wr=> ∃ (k m:Nat),k<=4/\m<=k/\i=.int .i64 k/\Below w.heap.size w wr/\wr.ownsRow w.heap.size 3 1 ov m (intCells (Ab L t (X:Int) least k))) (fun _ i _=>4- (intOf i).toNat)
 case atStart=>exact⟨0,0,by omega,Nat.le_refl _,rfl,HST.out.2,HST.out.1⟩
 case round=>
  clear HST;obtain⟨k,m,hk,hmk,rfl,hb,hown⟩:=hrel;by_cases hlt:k<4
  .have hs:=hb.size;have HT:=ah (KI L t (X:Int) least k);have hc:=(H.out.below hb).cell (t:=k) (x:=X) (by omega) hX
   obtain⟨v,hv⟩: ∃v,aL L (k:Int) (X:Int)=v:=⟨_,rfl⟩;rw[hv] at HT hc;have hk4:(k:Int)<4:=by omega
   have hk0:(0:Int)<=(k:Int):=by omega
   have Y9:(X:Int)<3:=by omega
   have hX0:(0:Int)<=(X:Int):=by omega
   clear hv;by_cases e1:(k:Int)=t
   .subst e1;go_wp2_with fail
    go_roundw
    case rel=>exact⟨k+1,m,by omega,by omega,by go_num,hb,by rw[HT.out];simpa using hown⟩
    case measure=>simp[intOf];omega
   .have hne:((k:Int) !=t)=true:=by simp[e1]
    by_cases e2:least<=v
    .go_wp2_with (at_builtin;go_loud (refine gI (.tmp 29) (.tmp 31) (hown.alloc _) (by simp;omega) (dB rfl _) (by omega) rfl rfl rfl rfl ?_;intro v3 w3 hown3 hg3 aU))
     have hb3:=Below.own hb hown aj (World.grownBy.trans (World.grownBy_alloc wr _ _) hg3);go_roundw
     case rel=>exact⟨k+1,m+1,by omega,by omega,by go_num,hb3,by rw[HT.out];simpa[hne,e1,e2] using hown3⟩
     case measure=>simp[intOf];omega
    .have hdf:decide (least<=v)=false:=by simp;omega
     go_wp2_with fail
     go_roundw
     case rel=>exact⟨k+1,m,by omega,by omega,by go_num,hb,by rw[HT.out,hdf];simpa using hown⟩
     case measure=>simp[intOf];omega
  .obtain⟨Ao,co,rfl,hmc⟩:=aD hown;obtain rfl:k=4:=by omega
   rw[KJ] at hown;have HO:=ah (aT.mk (c:=co) (gY hown) hmc (aN.aH hown aj (by omega)) hb)
   clear hown;go_wp2_with fail
   go_ret;exact HO.out
theorem iQ:(152:TypeId)≠89/\(152:TypeId)≠154/\(152:TypeId)≠3/\(152:TypeId)≠215:=by decide
theorem Ac:(215:TypeId)≠89/\(215:TypeId)≠154/\(215:TypeId)≠3:=by decide
theorem Y_ {w:World}{a b:Nat}{T U:TypeId}{xs ys:List Value}(h1:au w a T xs)(h2:au w b U ys)(hne:T≠U):a≠b:=fun e=>by
 subst e;unfold au at h1 h2;rw[h1] at h2;injection h2 with h2;injection h2 with _ h2;exact hne h2
def qM (V:DV)(tg:Nat)(m:Value):List Value:= [V.d,V.w,V.l,V.k,.pointer (some ⟨tg,0,none⟩),m]
structure bO (w:World)(B R tg:Nat)(m:Value)(V:DV)(D:bY):Prop where
 box:au w R 152 (qM V tg m)
 aO:aP w B V D
 Ue:iK w tg D.av
 ok: ∀s∈D.av,fB s=true
 Qx:B<=R
 Qy:B<=tg
structure lK (R tg:Nat)(w:World)(V:DV)(w':World)(V':DV):Prop where
 os:w'.os=w.os
 tape:w'.tape=w.tape
 output:w'.output=w.output
 size:w.heap.size<=w'.heap.size
 block: ∀i,i<w.heap.size->i≠R->i≠tg->eT V i->w'.heap[i]? =w.heap[i]?
 nd:NB w.heap.size V.d V'.d
 nw:NB w.heap.size V.w V'.w
 nl:NB w.heap.size V.l V'.l
 nk:NB w.heap.size V.k V'.k
section
variable {R tg:Nat} {w w1 w2 w':World} {V V1 V2 V':DV}
theorem lK.cO {g:Nat}(h:lK R tg w V w' V')(hg:g<w.heap.size)(hn:eT V g):eT V' g:=
 ⟨h.nd.ne hg hn.1,h.nw.ne hg hn.2.1,h.nl.ne hg hn.2.2.1,h.nk.ne hg hn.2.2.2⟩
theorem lK.refl (R tg:Nat)(w:World)(V:DV):lK R tg w V w V:=⟨rfl,rfl,rfl,Nat.le_refl _,fun _ _ _ _ _=>rfl,.refl _ _,.refl _ _,.refl _ _,.refl _ _⟩
theorem lK.trans (h:lK R tg w V w1 V1)(k:lK R tg w1 V1 w2 V2):lK R tg w V w2 V2:=by
 have hs:=h.size;refine⟨k.os.trans h.os,k.tape.trans h.tape,k.output.trans h.output,Nat.le_trans hs k.size,fun i hi h1 h2 hn=>?_,h.nd.trans k.nd hs,h.nw.trans k.nw hs,h.nl.trans k.nl hs,h.nk.trans k.nk hs⟩
 exact(k.block i (by omega) h1 h2 (h.cO hi hn)).trans (h.block i hi h1 h2 hn)
theorem lK.of_below (R tg:Nat)(V:DV)(h:Below w.heap.size w w'):lK R tg w V w' V:=
 ⟨h.os,h.tape,h.output,h.size,fun i hi _ _ _=>h.block i hi,.refl _ _,.refl _ _,.refl _ _,.refl _ _⟩
theorem lK.eZ (h:lK R tg w V w1 V1)(hb:Below w1.heap.size w1 w'):lK R tg w V w' V1:=h.trans (.of_below R tg V1 hb)
theorem lK.row (h:lK R tg w V w' V'){g:Nat}{T:TypeId}{vs:List Value}(hr:au w g T vs)(h1:g≠R)(h2:g≠tg)(hn:eT V g):au w' g T vs:=(h.block g hr.lt h1 h2 hn).trans hr
theorem lK.ints (h:lK R tg w V w' V'){A:Option Addr}{n:Nat}{xs:List Int}(hr:aM w A n xs)(hn: ∀ad,A=some ad->ad.block≠R/\ad.block≠tg/\eT V ad.block):aM w' A n xs:=by
 obtain⟨h1,h2,h3⟩:=hr;refine⟨h1,h2,fun h0=>?_⟩
 obtain⟨b,off,hA,hlt,hc⟩:=h3 h0;obtain⟨n1,n2,n3⟩:=hn _ hA;have hh:=h.block b hlt n1 n2 n3;have hs:=h.size;exact⟨b,off,hA,by omega,fun i x hx=>(World.cell?_of_block (w:=w) (a:=⟨b,_,none⟩) hh).trans (hc i x hx)⟩
theorem lK.ops (h:lK R tg w V w' V'){A:Option Addr}{n:Nat}{xs:List ay}(hr:aC w A n xs)(hn: ∀ad,A=some ad->ad.block≠R/\ad.block≠tg/\eT V ad.block):aC w' A n xs:=by
 obtain⟨h1,h2,h3⟩:=hr;refine⟨h1,h2,fun h0=>?_⟩
 obtain⟨b,off,hA,hlt,hc⟩:=h3 h0;obtain⟨n1,n2,n3⟩:=hn _ hA;have hh:=h.block b hlt n1 n2 n3;have hs:=h.size;refine⟨b,off,hA,by omega,fun i o ho=>?_⟩
 obtain⟨c0,c1,c2⟩:=hc i o ho;exact⟨(World.cell?_of_block (w:=w) (a:=⟨b,_,none⟩) hh).trans c0,(World.cell?_of_block (w:=w) (a:=⟨b,_,none⟩) hh).trans c1,(World.cell?_of_block (w:=w) (a:=⟨b,_,none⟩) hh).trans c2⟩
end
section
variable {w w1 w' w3:World} {B R tg:Nat} {m:Value} {V:DV} {D:bY}
theorem bO.Za (h:bO w B R tg m V D):eT V R:=h.aO.cO h.box iQ.1 iQ.2.1 iQ.2.2.1
theorem bO.Uf (h:bO w B R tg m V D):eT V tg:=h.aO.cO h.Ue Ac.1 Ac.2.1 Ac.2.2
theorem bO.ne (h:bO w B R tg m V D):R≠tg:=Y_ h.box h.Ue iQ.2.2.2
theorem bO.eZ (h:bO w B R tg m V D)(hb:Below w.heap.size w w'):bO w' B R tg m V D:=⟨au.below h.box hb aj,h.aO.below hb,h.Ue.below hb,h.ok,h.Qx,h.Qy⟩
theorem bO.cells (h:bO w B R tg m V D):w.cell? ⟨R,0,none⟩=some V.d/\w.cell? ⟨R,1,none⟩=some V.w/\w.cell? ⟨R,2,none⟩=some V.l/\w.cell? ⟨R,3,none⟩=some V.k/\w.cell? ⟨R,4,none⟩=some (.pointer (some ⟨tg,0,none⟩))/\w.cell? ⟨R,5,none⟩=some m:=
 ⟨au.cell h.box rfl,au.cell h.box rfl,au.cell h.box rfl,au.cell h.box rfl,au.cell h.box rfl,au.cell h.box rfl⟩
theorem bO.lock (h:bO w B R tg m V D){t x:Nat}(ht:t<=3)(hx:x<=2):w.cell? ⟨tg,t*3+x,none⟩=some (.int .i64 (aL D.av t x)):=h.Ue.cell ht hx
theorem bO.soft (h:bO w B R tg m V D)(i:Nat):w.frozen? ⟨R,i,none⟩=false:=au.frozen h.box i
theorem bO.base (h:bO w B R tg m V D):B<=w.heap.size:=h.aO.base
theorem bO.ltR (h:bO w B R tg m V D):R<w.heap.size:=au.lt h.box
theorem bO.ltT (h:bO w B R tg m V D):tg<w.heap.size:=au.lt h.Ue
theorem bO.far (h:bO w B R tg m V D){g:Nat}(hg:w.heap.size<=g):g≠R/\g≠tg/\eT V g:=⟨by have:=h.ltR;omega,by have:=h.ltT;omega,h.aO.far hg⟩
theorem bO.low (h:bO w B R tg m V D){g:Nat}(hg:g<B):g≠R/\g≠tg/\eT V g:=⟨by have:=h.Qx;omega,by have:=h.Qy;omega,h.aO.low hg⟩
theorem bO.below (h:bO w B R tg m V D){V':DV}(hs:lK R tg w V w' V'):Below B w w':=
 ⟨hs.os,hs.tape,hs.output,hs.size,fun i hi=>by
  obtain⟨h1,h2,h3⟩:=h.low hi;exact hs.block i (by have:=h.base;omega) h1 h2 h3⟩
theorem bO.forms (h:bO w B R tg m V D): ∃ (Ad Aw Al Ak:Option Addr) (nd nw nl nk cd cw cl ck:Nat),V=⟨.slice Ad nd cd,.slice Aw nw cw,.slice Al nl cl,.slice Ak nk ck⟩/\(nd<=cd/\nw<=cw/\nl<=cl/\nk<=ck)/\D.done.length=nd/\D.wait.length=nw/\D.av.length=nl/\D.dead.length=nk:=h.aO.forms
theorem vP (w:World)(R i:Nat)(v:Value):w.grownBy (w.setCell ⟨R,i,none⟩ v) (some R):=fA
theorem bO.iF (h:bO w B R tg m V D){v:Value}{L:List ay}{n:Nat}(hg:w.grownBy w3 V.d.ownBlock)(ho:w3.ownsRow B 89 3 v n (aB L))(hat:v.ownBlock=V.d.ownBlock\/v.ownBlock=some w.heap.size):
 (w3.cell? ⟨R,0,none⟩=some V.d/\w3.frozen? ⟨R,0,none⟩=false)/\bO (w3.setCell ⟨R,0,none⟩ v) B R tg m ⟨v,V.w,V.l,V.k⟩ ⟨L,D.wait,D.av,D.dead⟩/\lK R tg w V (w3.setCell ⟨R,0,none⟩ v) ⟨v,V.w,V.l,V.k⟩:=by
 have hb3:au w3 R 152 (qM V tg m):=au.grown h.box hg h.Za.1;have ht3:iK w3 tg D.av:=au.grown h.Ue hg h.Uf.1;have hd3:=h.aO.iF hg ho hat;have hs:=vP w3 R 0 v;have hne:=h.ne;refine⟨⟨au.cell hb3 rfl,au.frozen hb3 0⟩,⟨au.set hb3 0 v,hd3.set (hd3.cO hb3 iQ.1 iQ.2.1 iQ.2.2.1) 0 v,au.grown ht3 hs (fun e=>hne (by injection e)),h.ok,h.Qx,h.Qy⟩,⟨hs.os.trans hg.os,hs.tape.trans hg.tape,hs.output.trans hg.output,Nat.le_trans hg.size hs.size,fun i hi h1 h2 hn=>?_,.uq hat aj,.refl _ _,.refl _ _,.refl _ _⟩⟩
 have:=hg.size;exact(hs.block i (by omega) (fun e=>h1 (by injection e))).trans (hg.block i hi (fun e=>hn.1 e.symm))
theorem bO.jC (h:bO w B R tg m V D){v:Value}{L:List ay}{n:Nat}(hg:w.grownBy w3 V.w.ownBlock)(ho:w3.ownsRow B 89 3 v n (aB L))(hat:v.ownBlock=V.w.ownBlock\/v.ownBlock=some w.heap.size):
 (w3.cell? ⟨R,1,none⟩=some V.w/\w3.frozen? ⟨R,1,none⟩=false)/\bO (w3.setCell ⟨R,1,none⟩ v) B R tg m ⟨V.d,v,V.l,V.k⟩ ⟨D.done,L,D.av,D.dead⟩/\lK R tg w V (w3.setCell ⟨R,1,none⟩ v) ⟨V.d,v,V.l,V.k⟩:=by
 have hb3:au w3 R 152 (qM V tg m):=au.grown h.box hg h.Za.2.1;have ht3:iK w3 tg D.av:=au.grown h.Ue hg h.Uf.2.1;have hd3:=h.aO.jC hg ho hat;have hs:=vP w3 R 1 v;have hne:=h.ne;refine⟨⟨au.cell hb3 rfl,au.frozen hb3 1⟩,⟨au.set hb3 1 v,hd3.set (hd3.cO hb3 iQ.1 iQ.2.1 iQ.2.2.1) 1 v,au.grown ht3 hs (fun e=>hne (by injection e)),h.ok,h.Qx,h.Qy⟩,⟨hs.os.trans hg.os,hs.tape.trans hg.tape,hs.output.trans hg.output,Nat.le_trans hg.size hs.size,fun i hi h1 h2 hn=>?_,.refl _ _,.uq hat aj,.refl _ _,.refl _ _⟩⟩
 have:=hg.size;exact(hs.block i (by omega) (fun e=>h1 (by injection e))).trans (hg.block i hi (fun e=>hn.2.1 e.symm))
theorem bO.Ba (h:bO w B R tg m V D){v:Value}{K:List Int}{n:Nat}(hg:w.grownBy w3 V.k.ownBlock)(ho:w3.ownsRow B 3 1 v n (intCells K))(hat:v.ownBlock=V.k.ownBlock\/v.ownBlock=some w.heap.size):
 (w3.cell? ⟨R,3,none⟩=some V.k/\w3.frozen? ⟨R,3,none⟩=false)/\bO (w3.setCell ⟨R,3,none⟩ v) B R tg m ⟨V.d,V.w,V.l,v⟩ ⟨D.done,D.wait,D.av,K⟩/\lK R tg w V (w3.setCell ⟨R,3,none⟩ v) ⟨V.d,V.w,V.l,v⟩:=by
 have hb3:au w3 R 152 (qM V tg m):=au.grown h.box hg h.Za.2.2.2;have ht3:iK w3 tg D.av:=au.grown h.Ue hg h.Uf.2.2.2;have hd3:=h.aO.Ba hg ho;have hs:=vP w3 R 3 v;have hne:=h.ne;refine⟨⟨au.cell hb3 rfl,au.frozen hb3 3⟩,⟨au.set hb3 3 v,hd3.set (hd3.cO hb3 iQ.1 iQ.2.1 iQ.2.2.1) 3 v,au.grown ht3 hs (fun e=>hne (by injection e)),h.ok,h.Qx,h.Qy⟩,⟨hs.os.trans hg.os,hs.tape.trans hg.tape,hs.output.trans hg.output,Nat.le_trans hg.size hs.size,fun i hi h1 h2 hn=>?_,.refl _ _,.refl _ _,.refl _ _,.uq hat aj⟩⟩
 have:=hg.size;exact(hs.block i (by omega) (fun e=>h1 (by injection e))).trans (hg.block i hi (fun e=>hn.2.2.2 e.symm))
theorem bO.put (h:bO w B R tg m V D){s:ay}{wt wl:World}{v:Value}{n:Nat}(hs:fB s=true)(hT:iK wt tg (D.av++ [s]))(hgt:w.grownBy wt (some tg))(hb:Below wt.heap.size wt wl)
 (hg:wl.grownBy w3 V.l.ownBlock) (ho:w3.ownsRow B 154 3 v n (aB (D.av++ [s]))) (hat:v.ownBlock=V.l.ownBlock\/v.ownBlock=some wl.heap.size):
 (w3.cell? ⟨R,2,none⟩=some V.l/\w3.frozen? ⟨R,2,none⟩=false)/\bO (w3.setCell ⟨R,2,none⟩ v) B R tg m ⟨V.d,V.w,v,V.k⟩ ⟨D.done,D.wait,D.av++ [s],D.dead⟩/\lK R tg w V (w3.setCell ⟨R,2,none⟩ v) ⟨V.d,V.w,v,V.k⟩:=by
 have hne:=h.ne;have hdt:aP wt B V D:=h.aO.apart hgt (fun b e=>by injection e with e;subst e;exact h.Uf)
 have hbt:au wt R 152 (qM V tg m):=au.grown h.box hgt (fun e=>hne (by injection e with e;exact e.symm))
 have hdl:=hdt.below hb;have hbl:=au.below hbt hb aj;have htl:=hT.below hb;have hnR:=hdl.cO hbl iQ.1 iQ.2.1 iQ.2.2.1;have hnT:=hdl.cO htl Ac.1 Ac.2.1 Ac.2.2;have hb3:au w3 R 152 (qM V tg m):=au.grown hbl hg hnR.2.2.1;have ht3:iK w3 tg (D.av++ [s]):=au.grown htl hg hnT.2.2.1;have hd3:=hdl.Gj hg ho;have hs3:=vP w3 R 2 v;have s1:=hgt.size;have s2:=hb.size;have s3:=hg.size;refine⟨⟨au.cell hb3 rfl,au.frozen hb3 2⟩,⟨au.set hb3 2 v,hd3.set (hd3.cO hb3 iQ.1 iQ.2.1 iQ.2.2.1) 2 v,au.grown ht3 hs3 (fun e=>hne (by injection e)),fun q hq=>?_,h.Qx,h.Qy⟩,⟨?_,?_,?_,Nat.le_trans s1 (Nat.le_trans s2 (Nat.le_trans s3 hs3.size)),fun i hi h1 h2 hn=>?_,.refl _ _,.refl _ _,.uq hat (by omega),.refl _ _⟩⟩
 .rcases List.mem_append.1 hq with hq|hq
  .exact h.ok q hq
  .rw[List.mem_singleton.1 hq];exact hs
 .rw[hs3.os,hg.os,hb.os,hgt.os]
 .rw[hs3.tape,hg.tape,hb.tape,hgt.tape]
 .rw[hs3.output,hg.output,hb.output,hgt.output]
 .exact(hs3.block i (by omega) (fun e=>h1 (by injection e))).trans ((hg.block i (by omega) (fun e=>hn.2.2.1 e.symm)).trans ((hb.block i (by omega)).trans (hgt.block i hi (fun e=>h2 (by injection e)))))
end
def GJ (B R tg:Nat)(m:Value)(V:DV)(w:World)(D:bY)(e:Ending)(w':World):Prop:=e=.returned (.tuple #[])/\ ∃V',bO w' B R tg m V' D/\lK R tg w V w' V'
theorem Qz {L:List ay}(h: ∀s∈L,fB s=true)(t x:Int):(aL L t x != -1)=decide (0<=aL L t x):=by
 have:=nX h t x;rw[Bool.eq_iff_iff,bne_iff_ne,decide_eq_true_eq];omega
theorem IW (B R tg:Nat)(m:Value)(V:DV)(D:bY)(s:ay)(w:World)(h:bO w B R tg m V D)(hs:fB s=true)(hL:D.av.length<=9000):
 Calls Tryz.prog 202 #[.pointer (some ⟨R,0,none⟩),s.val] w (GJ B R tg m V w ⟨D.done,D.wait,D.av++ [s],D.dead⟩):=by
 obtain⟨Ad,Aw,Al,Ak,nd,nw,nl,nk,cd,cw,cl,ck,rfl,_,_,_,h3,_⟩:=h.forms;obtain⟨W,hW⟩: ∃W:World,W=w.alloc (.cells #[.int .i64 s.tx,.int .i64 s.kind,.int .i64 s.item] 154):=⟨_,rfl⟩;have hbW:Below w.heap.size w W:=by rw[hW];exact aG.alloc aj _
 have Zb:Below w.heap.size w W.drew:=hbW.drew;have hA:=h.eZ Zb;have hbx:au W.drew w.heap.size 154 [.int .i64 s.tx,.int .i64 s.kind,.int .i64 s.item] :=by rw[hW];exact heap_alloc_new w _
 have hbx0:au W w.heap.size 154 [.int .i64 s.tx,.int .i64 s.kind,.int .i64 s.item] :=hbx;have htk:=KG tg D.av s W.drew hA.Ue hs;have cT:W.cell? ⟨R,4,none⟩=some (.pointer (some ⟨tg,0,none⟩)):=(h.eZ hbW).cells.2.2.2.2.1;have c0:W.cell? ⟨w.heap.size,0,none⟩=some (.int .i64 s.tx):=au.cell hbx0 rfl;have c1:W.cell? ⟨w.heap.size,1,none⟩=some (.int .i64 s.kind):=au.cell hbx0 rfl;have c2:W.cell? ⟨w.heap.size,2,none⟩=some (.int .i64 s.item):=au.cell hbx0 rfl;have abZ:w.heap.size≠tg:=by have:=h.ltT;omega
 have iD:=ah hbx;have Ym:=ah htk;have HS:=ah hs;have HAD:=ah hA;have HSD:Hid (lK R tg w ⟨.slice Ad nd cd,.slice Aw nw cw,.slice Al nl cl,.slice Ak nk ck⟩ W.drew ⟨.slice Ad nd cd,.slice Aw nw cw,.slice Al nl cl,.slice Ak nk ck⟩):=lK.of_below R tg _ Zb;have HW:=ah hW;have hB0:=hA.base;clear htk hs hbW Zb hA hbx hbx0 hW h;obtain⟨tx,kd,it⟩:=s;unfold ay.val;unfold ay.val at Ym;simp only at Ym iD HW c0 c1 c2;go_enter Tryz.func202,Tryz.ntmps202;go_wp2_with fail
 rw[<-HW.out];refine wp_region_still_tail 5 (by kernel_rfl) (by kernel_rfl) ?_
 simp only[List.take_succ_cons,List.take_zero,List.drop_succ_cons,List.drop_zero];repeat(first|still_step)
 refine wpStill_nil ?_;change wpList _ _ _ _ _ W.drew;clear c0 c1 c2 cT;go_wp2_with fail
 refine Ym.out.mono ?_;rintro e wt ⟨rfl,hT,hgt⟩;have hdt:aP wt B _ D:=HAD.out.aO.apart hgt (fun b e=>by injection e with e;subst e;exact HAD.out.Uf)
 have hrt:au wt R _ _:=au.grown HAD.out.box hgt (fun e=>HAD.out.ne (by injection e with e;exact e.symm))
 have hxt:au wt w.heap.size _ _:=au.grown iD.out hgt (fun e=>abZ (by injection e with e;exact e.symm))
 have hst:=hgt.size;obtain⟨wd,hwd⟩: ∃wd:World,wd=wt.drew:=⟨_,rfl⟩;have hbd:Below wt.heap.size wt wd:=by rw[hwd];exact aG.drew
 have hbl:Below wt.heap.size wt (wd.alloc (.cells #[.int .i64 tx,.int .i64 kd,.int .i64 it] 154)):=hbd.alloc hbd.size _;have r2:wd.cell? ⟨R,2,none⟩=some (.slice Al nl cl):=au.cell (au.below hrt hbd aj) rfl;have r2a:(wd.alloc (.cells #[.int .i64 tx,.int .i64 kd,.int .i64 it] 154)).cell? ⟨R,2,none⟩=some (.slice Al nl cl):=au.cell (au.below hrt hbl aj) rfl;have b0:wd.cell? ⟨w.heap.size,0,none⟩=some (.int .i64 tx):=au.cell (au.below hxt hbd aj) rfl;have b1:wd.cell? ⟨w.heap.size,1,none⟩=some (.int .i64 kd):=au.cell (au.below hxt hbd aj) rfl;have b2:wd.cell? ⟨w.heap.size,2,none⟩=some (.int .i64 it):=au.cell (au.below hxt hbd aj) rfl;have HOL:Hid ((wd.alloc (.cells #[.int .i64 tx,.int .i64 kd,.int .i64 it] 154)).ownsRow B 154 3 (.slice Al nl cl) nl (aB D.av)):=(hdt.below hbl).h_ h3;have hsl:B<=(wd.alloc (.cells #[.int .i64 tx,.int .i64 kd,.int .i64 it] 154)).heap.size:=(hdt.below hbl).base;have OO:=ah hbl;have HT:=ah (And.intro hT hgt);have lY:=ah hwd;have hnl:nl<=9000:=by omega
 clear hT hgt hdt hrt hxt hwd hbd hbl;go_wp2_with fail
 refine wp_region_any (by kernel_rfl) ?_
 change wpAny _ _ _ _ _ _ _ (World.drew _);rw[<-lY.out];refine bH 0 ?_;refine bH 1 ?_;refine bH 2 ?_;refine bH 3 ?_;refine bH 4 ?_;refine uW 5 6 (fun K hK=>?_) fun K hK=>?_
 .skip;go_simp;try(refine hK _ _ ?_;clear hK K)
  refine cK 6 fun K hK=>?_
  go_simp;try(refine hK _ _ ?_;clear hK K)
  refine cK 7 fun K hK=>?_
  go_simp;try(refine hK _ _ ?_;clear hK K)
  refine cK 8 fun K hK=>?_
  refine xO (.tmp 15) (.tmp 17) (c:=1) HOL.out (by omega) (aC.dB _ ⟨tx,kd,it⟩ _) ?_ ?_ ?_ ?_ ?_ ?_
  .omega
  .rfl
  .rfl
  .rfl
  .rfl
  intro v3 w3 hown3 hg3 aU;obtain⟨⟨e0,e1⟩,hA3,eu⟩:=HAD.out.put HS.out HT.out.1 HT.out.2 OO.out hg3 hown3 aU;obtain⟨A3,c3,rfl,_⟩:=aD hown3;have HF:=ah (And.intro hA3 (HSD.out.trans eu));clear hA3 eu hg3 hown3 aU;try(refine hK _ _ ?_;clear hK K)
  refine bH 9 ?_;refine bH 10 ?_;refine bH 11 ?_;refine cK 12 fun K hK=>?_
  go_simp;try(refine hK _ _ ?_;clear hK K)
  refine bM ?_;try go_simp
  go_end0
  exact⟨rfl,_,HF.out.1,HF.out.2⟩
 .skip;go_simp;try(refine hK _ _ ?_;clear hK K)
  refine uW 5 7 (fun K hK=>?_) fun K hK=>?_
  .skip;go_simp;try(refine hK _ _ ?_;clear hK K)
   refine cK 7 fun K hK=>?_
   go_simp;try(refine hK _ _ ?_;clear hK K)
   refine cK 8 fun K hK=>?_
   refine xO (.tmp 15) (.tmp 17) (c:=1) HOL.out (by omega) (aC.dB _ ⟨tx,kd,it⟩ _) ?_ ?_ ?_ ?_ ?_ ?_
   .omega
   .rfl
   .rfl
   .rfl
   .rfl
   intro v3 w3 hown3 hg3 aU;obtain⟨⟨e0,e1⟩,hA3,eu⟩:=HAD.out.put HS.out HT.out.1 HT.out.2 OO.out hg3 hown3 aU;obtain⟨A3,c3,rfl,_⟩:=aD hown3;have HF:=ah (And.intro hA3 (HSD.out.trans eu));clear hA3 eu hg3 hown3 aU;try(refine hK _ _ ?_;clear hK K)
   refine bH 9 ?_;refine bH 10 ?_;refine bH 11 ?_;refine cK 12 fun K hK=>?_
   go_simp;try(refine hK _ _ ?_;clear hK K)
   refine bM ?_;try go_simp
   go_end0
   exact⟨rfl,_,HF.out.1,HF.out.2⟩
  .skip;go_simp;try(refine hK _ _ ?_;clear hK K)
   refine cK 5 fun K hK=>?_
   go_simp;try(refine hK _ _ ?_;clear hK K)
   refine cK 8 fun K hK=>?_
   refine xO (.tmp 15) (.tmp 17) (c:=1) HOL.out (by omega) (aC.dB _ ⟨tx,kd,it⟩ _) ?_ ?_ ?_ ?_ ?_ ?_
   .omega
   .rfl
   .rfl
   .rfl
   .rfl
   intro v3 w3 hown3 hg3 aU;obtain⟨⟨e0,e1⟩,hA3,eu⟩:=HAD.out.put HS.out HT.out.1 HT.out.2 OO.out hg3 hown3 aU;obtain⟨A3,c3,rfl,_⟩:=aD hown3;have HF:=ah (And.intro hA3 (HSD.out.trans eu));clear hA3 eu hg3 hown3 aU;try(refine hK _ _ ?_;clear hK K)
   refine bH 9 ?_;refine bH 10 ?_;refine bH 11 ?_;refine cK 12 fun K hK=>?_
   go_simp;try(refine hK _ _ ?_;clear hK K)
   refine bM ?_;try go_simp
   go_end0
   exact⟨rfl,_,HF.out.1,HF.out.2⟩
end Go.Proofs.YtddkjbibjjehjaaGreatDoor
