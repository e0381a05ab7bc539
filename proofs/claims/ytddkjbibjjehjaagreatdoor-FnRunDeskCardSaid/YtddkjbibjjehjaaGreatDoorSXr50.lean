/-
  Texts that the proof rests on, joined: part 50.
-/
import Derived.Test.YtddkjbibjjehjaaGreatDoorSXr49
set_option maxHeartbeats 16000000
set_option maxRecDepth 100000
namespace Go.Proofs.YtddkjbibjjehjaaGreatDoor
open Go.RowKit Go.BigFrame
set_option linter.unusedVariables false
def nine:List ByteArray:= [⟨#[48]⟩,⟨#[49]⟩,⟨#[120]⟩,⟨#[44]⟩,⟨#[99]⟩,⟨#[114]⟩,⟨#[119]⟩,⟨#[52]⟩,⟨#[32]⟩]
def EM:List ByteArray:= [⟨#[44,99,48]⟩,⟨#[44]⟩,⟨#[32]⟩,⟨#[44,119,49,120]⟩,⟨#[120]⟩]
theorem U7: ∀b∈nine,b.size<=4:=by decide
theorem RF: ∀b∈EM,b.size<=4:=by decide
def abh (rb p:Nat)(s:ByteArray)(w:World)(e:Ending)(w':World):Prop:=
 ∃ (t:ByteArray) (q:Nat),e=.returned (.string t)/\t.size<=s.size+4/\q<=p+3/\Rd w' rb q/\Only rb w w'
theorem U8 (s:ByteArray)(a b:Nat):(s.extract a b).size<=s.size:=by
 rw[ByteArray.size_extract];omega
theorem Xp {w:World}(xs:List ByteArray):au (w.alloc (.cells (xs.map Value.string).toArray 9)) w.heap.size 9 (xs.map Value.string):=heap_alloc_new w _
theorem N_ (rb p:Nat)(s:ByteArray)(w:World)(h:Rd w rb p)(hp:p<=90000)(hs:s.size<=1000000):
 Calls Tryz.prog 23 #[.pointer (some ⟨rb,0,none⟩),.string s] w (abh rb p s w):=by
 obtain⟨n,hn⟩: ∃n,s.size=n:=⟨_,rfl⟩;have HN:=ah hn;unfold abh;rw[hn] at hs;go_enter Tryz.func23,Tryz.ntmps23;go_wp2_with fail
 refine(jo rb p _ w h (by omega) (by omega)).mono ?_
 rintro e w1 ⟨v,rfl,hr1,_,hv,ho1⟩;obtain⟨hv0,hv1⟩:=hv (by omega)
 obtain⟨k,rfl⟩:=Int.eq_ofNat_of_zero_le hv0;go_wp2_with fail
 refine(jo rb (p+1) 5 w1 hr1 (by omega) (by omega)).mono ?_
 rintro e w2 ⟨sw,rfl,hr2,_,hsw,ho2⟩;obtain⟨hs0,hs1⟩:=hsw (by omega)
 have hr2':Rd w2 rb (p+1+1):=hr2;obtain⟨q,hq⟩: ∃q,q=p+1+1:=⟨_,rfl⟩;rw[<-hq] at hr2';have Iw:Hid (Only rb w w2):=ho1.trans ho2;have HR2:=ah hr2';have hqp:q<=p+2:=by omega
 have hqb:q<=100000:=by omega
 have hX:=U8 s 0 k;have hY:=U8 s (k+1) n;have k0:(0:Int)<=(k:Int):=by omega
 clear h hr1 ho1 hr2 ho2 hr2' hv hsw hv0 hq;have U9:Hid (∀t:ByteArray,t.size<=n->(∃ (t':ByteArray) (q':Nat),Ending.returned (Value.string t)=.returned (.string t')/\t'.size<=s.size+4/\q'<=p+3/\Rd w2 rb q'/\Only rb w w2)):=fun t ht=>⟨t,q,rfl,by rw[HN.out];omega,by omega,HR2.out,Iw.out⟩
 have HF5:Hid (Calls Tryz.prog 19 #[.pointer (some ⟨rb,0,none⟩),.slice (some ⟨w2.heap.size,0,none⟩) 5 5] (w2.alloc (.cells (EM.map Value.string).toArray 9)) fun e w'=> ∃b∈EM,e=.returned (.string b)/\Rd w' rb (q+1)/\Only rb (w2.alloc (.cells (EM.map Value.string).toArray 9)) w'):=
  Ju rb q w2.heap.size EM 9 _ (HR2.out.alloc _) (by omega) (Xp EM) (by decide) (by decide) (by have:=HR2.out.lt;omega)
 unfold EM at HF5;simp only[List.map_cons,List.map_nil] at HF5;rcases(by omega:sw=0\/sw=1\/sw=2\/sw=3\/sw=4) with rfl|rfl|rfl|rfl|rfl
 case inr.inr.inl=>
  have l1:(k:Int)<=(n:Int):=by omega
  go_wp2_with fail
  go_ret;exact U9.out _ (by rw[<-HN.out];exact hX)
 case inr.inr.inr.inl=>
  go_wp2_with (go_at_call 19;refine HF5.out.mono ?_;rintro e w4 ⟨b,hb,rfl,hr4,Ce⟩;have hb4:b.size<=4:=RF b hb)
  go_ret;exact⟨_,_,rfl,by simp only[ByteArray.size_append];omega,by omega,hr4,Iw.out.trans (((Only.refl _ _).alloc _).trans Ce)⟩
 case inr.inr.inr.inr=>
  go_wp2_with fail
  go_ret;exact U9.out _ (by rw[HN.out];exact Nat.le_refl _)
 all_goals
  by_cases hk:k<n
  .have hk1:(k:Int)< (n:Int):=by omega
   have hk2:(k:Int)<=(n:Int):=by omega
   have hk3:(k:Int)+1<=(n:Int):=by omega
   have hk4:IntKind.i64.wrap ((k:Int)+1)=(k:Int)+1:=IntWalk.i64_in _ (by omega)
   have hk5:((k:Int)+1).toNat=k+1:=by omega
   have hk6:(0:Int)<=(k:Int)+1:=by omega
   obtain⟨X,KD⟩: ∃X,s.extract 0 k=X:=⟨_,rfl⟩;obtain⟨Y,hYY⟩: ∃Y,s.extract (k+1) n=Y:=⟨_,rfl⟩;have Yl:X.size=k:=by rw[<-KD,ByteArray.size_extract];omega
   have hYs:Y.size=n- (k+1):=by rw[<-hYY,ByteArray.size_extract];omega
   clear hX hY;go_wp2_with fail
   obtain⟨wd,hwd⟩: ∃wd:World,wd=w2.drew:=⟨_,rfl⟩;have lY:=ah hwd;have X3:Hid (Rd wd rb q):=by rw[hwd];exact HR2.out.drewN 1
   have jX:=ah (Xp (w:=wd) nine);unfold nine at jX;simp only[List.map_cons,List.map_nil] at jX;have jg:Hid (Only rb w wd):=by rw[hwd];exact Iw.out.drewN 1
   clear hwd Iw;have Iw:=jg;refine wp_region_any (by kernel_rfl) ?_
   change wpAny _ _ _ _ _ _ _ (World.drew _);rw[<-lY.out];refine bH 0 ?_;refine bH 1 ?_;refine bH 2 ?_;refine bH 3 ?_;refine bH 7 ?_;refine bH 8 ?_;refine bH 9 ?_;refine bH 10 ?_;refine cK 4 fun K hK=>?_
   go_simp;try(refine hK _ _ ?_;clear hK K)
   refine cK 5 fun K hK=>?_
   go_simp;go_wp2_with (go_at_call 19;go_loud (refine(Ju rb q wd.heap.size nine 9 _ (X3.out.alloc _) (by omega) jX.out (by decide) (by decide) (by have:=X3.out.lt;omega)).mono ?_;rintro e w4 ⟨b,hb,rfl,hr4,Ce⟩;have hbs:=U7 b hb;have hc1: ¬(9223372036854775807<k+b.size):=(by omega);have hc2: ¬(9223372036854775807<k+b.size+(n- (k+1))):=(by omega)))
   try(refine hK _ _ ?_;clear hK K)
   refine bH 6 ?_;refine bH 11 ?_;refine bH 12 ?_;refine bM ?_;try go_simp
   go_wp2_with fail
   go_ret;exact⟨_,_,rfl,by simp only[ByteArray.size_append];omega,by omega,hr4,Iw.out.trans (((Only.refl _ _).alloc _).trans Ce)⟩
  .have hk1: ¬(k:Int)< (n:Int):=by omega
   go_wp2_with fail
   go_ret;exact U9.out _ (by rw[HN.out];exact Nat.le_refl _)
theorem Lv {w w1 w2:World}{rb:Nat}(hb:Below w.heap.size w w1)(hrb:w.heap.size<=rb)(hO:Only rb w1 w2):Below w.heap.size w w2:=by
 have hs:=hb.size;exact hb.trans ⟨hO.os,hO.tape,hO.output,hO.size,fun k hk=>hO.heap (by omega) (by omega)⟩
structure Oa (w0:World)(rb Q:Nat)(v:Value)(m:Nat)(w:World):Prop where
 row: ∃xs:List (List UInt8),w.ownsRow w0.heap.size 9 1 v m (strCells xs)/\ ∀l∈xs,l.length<=2000
 rd: ∃p,Rd w rb p/\p<=Q
 only:Only rb w0 w
theorem Oa.step {w0 w w':World}{rb Q Q' p m:Nat}{v:Value}(h:Oa w0 rb Q v m w)(hr:Rd w' rb p)(hp:p<=Q')(ho:Only rb w w')(hrb:rb<w0.heap.size):Oa w0 rb Q' v m w':=by
 obtain⟨⟨xs,hx,hl⟩,_,hO⟩:=h;exact⟨⟨xs,bN hx ho hrb,hl⟩,⟨p,hr,hp⟩,hO.trans ho⟩
theorem Oa.alloc {w0 w:World}{rb Q m:Nat}{v:Value}(h:Oa w0 rb Q v m w)(o:Obj):Oa w0 rb Q v m (w.alloc o):=by
 obtain⟨⟨xs,hx,hl⟩,⟨p,hr,hp⟩,hO⟩:=h;exact⟨⟨xs,hx.alloc _,hl⟩,⟨p,hr.alloc _,hp⟩,hO.alloc _⟩
def twelve:List ByteArray:= [{ data:= #[115,101,114,105,97,108] },{ data:= #[111,114,100,101,114] },{ data:= #[99,121,99,108,101] },{ data:= #[115,110,97,112,115,104,111,116] },{ data:= #[115,116,114,105,99,116] },{ data:= #[114,105,103,111,114,111,117,115] },{ data:= #[99,111,109,109,105,116,115] },{ data:= #[99,97,115,99,97,100,101,115] },{ data:= #[114,101,99,111,118,101,114,97,98,108,101] },{ data:= #[119,97,105,116] },{ data:= #[100,105,101] },{ data:= #[119,111,117,110,100] }]
def zx:List ByteArray:= [⟨#[]⟩,{ data:= #[104,101,108,112] },{ data:= #[115,101,114,105,97,108] },⟨#[115,101,114,105,97,108,32,120]⟩,⟨#[119,97,108,107,32,114,48,120]⟩,⟨#[111,114,100,101,114,32]⟩,⟨#[119,97,105,116,32,114,48,120,44,32,99,48]⟩,⟨#[100,105,101,32,114,52,120]⟩,⟨#[99,121,99,108,101,32,99,48,44,99,48]⟩]
theorem RG: ∀b∈twelve,b.size<=12:=by decide
theorem U_: ∀b∈zx,b.size<=12:=by decide
theorem B_ (A:Option Addr)(n c:Nat)(w:World)(hx:LQ w A n)(hc:n<=c):
 Calls Tryz.prog 10 #[.slice A n c] w fun e w'=> ∃ (R:Option Addr) (m rc:Nat) (ls:List (List UInt8)),e=.returned (.slice R m rc)/\m<=rc/\m<=5/\eO w' R m ls/\(∀l∈ls,l.length<=2000)/\Below w.heap.size w w':=by
 have HM:=ah (EW A n c w hx hc);clear hx;go_enter Tryz.func10,Tryz.ntmps10;go_wp2_with fail
 refine HM.out.mono ?_;rintro e w1 ⟨rb,rfl,hrb,hr,hb⟩;have hlt:=hr.lt;have HB:=ah hb;have HS0:Hid (Oa w1 rb 0 (.slice (some ⟨w1.heap.size,0,none⟩) 0 0) 0 (w1.alloc (.cells #[] 9))):=
  ⟨⟨[],World.ownsRow_made w1 #[] 0 aj (by decide) rfl,fun l h=>by cases h⟩,⟨0,hr.alloc _,Nat.le_refl _⟩,(Only.refl rb w1).alloc _⟩
 clear hb HM;go_wp2_with fail
 refine(pG rb 0 _ 4 4 [3,5,2,0] _ ((hr.alloc _).alloc _) (by omega) (Yc (by simp) 3 5 2 0) (by omega) (pI (by omega))).mono ?_
 rintro e w2 ⟨N,rfl,hN,hr2,ho2⟩;have hN2:0<=N/\N<=5:=by
  simp only[List.mem_cons,List.not_mem_nil,or_false] at hN;omega
 obtain⟨J0,rfl⟩:=Int.eq_ofNat_of_zero_le hN2.1;have HST:Hid (Oa w1 rb (51000-10100*J0) (.slice (some ⟨w1.heap.size,0,none⟩) 0 0) 0 w2):=(HS0.out.alloc _).step hr2 (by omega) ho2 hlt
 clear HS0 hr2 hr ho2 hN;go_wp2_with fail
 go_loopw [4,5] (fun ov i wr=> ∃ (m j:Nat),m+j<=5/\i=.int .i64 j/\Oa w1 rb (51000-10100*j) ov m wr) (fun _ i _=>(intOf i).toNat)
 case atStart=>exact⟨0,J0,by omega,rfl,HST.out⟩
 case round=>
  clear HST;obtain⟨wo,rfl⟩: ∃z:World,z=wr:=⟨_,rfl⟩;obtain⟨ov,rfl⟩: ∃z:Value,z=u4:=⟨_,rfl⟩;obtain⟨m,j,hmj,rfl,hS⟩:=hrel;have HS:=ah hS;obtain⟨⟨xs,hx,hxl⟩,⟨q0,hrq,hq0⟩,J7⟩:=hS;obtain⟨Ao,co,rfl,hmc⟩:=aD hx;have acT:=hrq.lt;by_cases hj:0<j
  .have HF:Hid (Calls Tryz.prog 19 #[.pointer (some ⟨rb,0,none⟩),.slice (some ⟨wo.heap.size,0,none⟩) 12 12] (wo.alloc (.cells (twelve.map Value.string).toArray 9)) fun e w'=> ∃b∈twelve,e=.returned (.string b)/\Rd w' rb (q0+1)/\Only rb (wo.alloc (.cells (twelve.map Value.string).toArray 9)) w'):=
    Ju rb q0 wo.heap.size twelve 9 _ (hrq.alloc _) (by omega) (Xp twelve) (by decide) (by decide) (by omega)
   have xE:Hid (∀w',Only rb (wo.alloc (.cells (twelve.map Value.string).toArray 9)) w'->Only rb wo w'):=fun w' h=>((Only.refl rb wo).alloc _).trans h
   generalize Xq:(wo.alloc (.cells (twelve.map Value.string).toArray 9))=WL at HF xE;unfold twelve at Xq;simp only[List.map_cons,List.map_nil] at Xq;have HLW:=ah Xq;clear hx hxl Xq J7;go_wp2_with fail
   rw[HLW.out];refine HF.out.mono ?_;rintro e w3 ⟨b,wh,rfl,hr3,abj⟩;have hbs:=RG b wh;have ho3:=xE.out w3 abj;have hlt3:=hr3.lt;clear wh abj HF xE HLW;go_wp2_with fail
   refine(pG rb (q0+1) _ 3 3 [12,12,16] _ (hr3.alloc _) (by omega) (aae rfl 12 12 16) (by omega) (pI hlt3)).mono ?_
   rintro e w4 ⟨K,rfl,hK,hr4,Ce⟩;have hK2:0<=K/\K<=16:=by
    simp only[List.mem_cons,List.not_mem_nil,or_false] at hK;omega
   obtain⟨K,rfl⟩:=Int.eq_ofNat_of_zero_le hK2.1;have hO4:=(ho3.alloc (.cells #[.int .i64 12,.int .i64 12,.int .i64 16] 3)).trans Ce;clear hK ho3 Ce hr3;go_wp2_with fail
   refine(yB (q0+1+1) (by omega) rb (q0+1+1) K w4 hr4 aj (by omega)).mono ?_
   rintro e w5 ⟨v5,m5,ys,p5,rfl,hown5,hm5,F9,XO,Sr,abk⟩;obtain⟨R5,c5,rfl,Jy⟩:=aD hown5;have XW:=ah (lu R5 m5 c5 ys w5 (aC.aH hown5 (by omega)) abk)
   have hyl:ys.length=m5:=g_ hown5;have htl:=rQ ys;obtain⟨T,hT⟩: ∃T:ByteArray,T=⟨⟨bX ys⟩⟩:=⟨_,rfl⟩;have hTs:T.size<=100:=by
    rw[hT];show(bX ys).length<=100
    omega
   unfold dw at XW;rw[<-hT] at XW;have abl:=hO4.trans Sr;clear hown5 abk hT htl hyl hO4 Sr hr4;go_wp2_with fail
   refine XW.out.mono ?_;rintro e w6 ⟨rfl,hb6⟩;have LH:=F9.below hb6;have LG:=abl.trans (Only.of_below hb6);obtain⟨X,hX⟩: ∃X:ByteArray,b++⟨#[32]⟩++T=X:=⟨_,rfl⟩;have Yl:X.size<=200:=by
    rw[<-hX,ByteArray.size_append,ByteArray.size_append];have:(⟨#[32]⟩:ByteArray).size=1:=rfl;omega
   have HX:=ah hX;clear XW hb6 abl F9 hX;go_wp2_with fail
   try rw[HX.out]
   refine(jo rb p5 10 w6 LH (by omega) (by omega)).mono ?_
   rintro e w7 ⟨v,rfl,ZO,_,hv,ho7⟩;have hO7:=LG.trans ho7;have acU:=ZO.lt;have hj1:((j-1:Nat):Int)=(j:Int) -1:=by omega
   have HJ1:=ah hj1;clear LH LG ho7 hv hj1;by_cases v0:v=0
   .subst v0;have HF:Hid (Calls Tryz.prog 19 #[.pointer (some ⟨rb,0,none⟩),.slice (some ⟨w7.heap.size,0,none⟩) 9 9] (w7.alloc (.cells (zx.map Value.string).toArray 9)) fun e w'=> ∃b∈zx,e=.returned (.string b)/\Rd w' rb (p5+1+1)/\Only rb (w7.alloc (.cells (zx.map Value.string).toArray 9)) w'):=
     Ju rb (p5+1) w7.heap.size zx 9 _ (ZO.alloc _) (by omega) (Xp zx) (by decide) (by decide) (by omega)
    have xE:Hid (∀w',Only rb (w7.alloc (.cells (zx.map Value.string).toArray 9)) w'->Only rb w7 w'):=fun w' h=>((Only.refl rb w7).alloc _).trans h
    generalize Xq:(w7.alloc (.cells (zx.map Value.string).toArray 9))=WL at HF xE;unfold zx at Xq;simp only[List.map_cons,List.map_nil] at Xq;have HLW:=ah Xq;clear Xq;go_wp2_with fail
    rw[HLW.out];refine HF.out.mono ?_;rintro e w8 ⟨s,hs9,rfl,hr8,abm⟩;have hss:s.size<=2000:=by have:=U_ s hs9;omega
    have BP:Hid (Oa w1 rb (51000-10100*(j-1)) (.slice Ao m co) m w8):=HS.out.step hr8 (by omega) (hO7.trans (xE.out w8 abm)) hlt
    clear hs9 abm HF xE HLW hr8 ZO hO7 HS;obtain⟨⟨xs8,O5,X5⟩,⟨q9,Vn,VE⟩,Va⟩:=BP.out;have hlx: ∀l∈xs8++ [s.data.toList],l.length<=2000:=fun l hl=>by
     rcases List.mem_append.1 hl with hl|hl
     .exact X5 l hl
     .rw[List.mem_singleton.1 hl];have:s.data.toList.length=s.size:=(Lib.size_eq s).symm;omega
    have HLX:=ah hlx;clear hlx X5;go_wp2_with (at_builtin;go_loud (refine oz (.tmp 40) (.tmp 42) (O5.alloc _) (by simp;have:=Va.size;omega) (rG rfl (s:=s) (x:=s.data.toList) rfl) (by omega) rfl rfl rfl rfl ?_;intro v10 w10 uU Lx LB))
    have uV:=World.grownBy.trans (World.grownBy_alloc _ _ _) Lx;have HE:Hid (Oa w1 rb (51000-10100*(j-1)) v10 (m+1) w10):=⟨⟨_,uU,HLX.out⟩,⟨q9,Vn.grown uV fun k hk=>by have:=(World.ownsRow.lt O5 k hk).1;omega,VE⟩,Va.own O5 aj uV⟩
    clear uU Lx uV LB O5 Vn Va;go_wp2_with fail
    go_roundw
    case rel=>exact⟨m+1,j-1,by omega,by rw[HJ1.out],HE.out⟩
    case measure=>simp[intOf];omega
   .by_cases v1:v=1
    .subst v1;go_wp2_with fail
     refine(N_ rb (p5+1) X w7 ZO (by omega) (by omega)).mono ?_
     rintro e w8 ⟨s,q8,rfl,hs8,hq8,hr8,ho8⟩;have hss:s.size<=2000:=by omega
     have BP:Hid (Oa w1 rb (51000-10100*(j-1)) (.slice Ao m co) m w8):=HS.out.step hr8 (by omega) (hO7.trans ho8) hlt
     clear hs8 hq8 hr8 ho8 ZO hO7 HS;obtain⟨⟨xs8,O5,X5⟩,⟨q9,Vn,VE⟩,Va⟩:=BP.out;have hlx: ∀l∈xs8++ [s.data.toList],l.length<=2000:=fun l hl=>by
      rcases List.mem_append.1 hl with hl|hl
      .exact X5 l hl
      .rw[List.mem_singleton.1 hl];have:s.data.toList.length=s.size:=(Lib.size_eq s).symm;omega
     have HLX:=ah hlx;clear hlx X5;go_wp2_with (at_builtin;go_loud (refine oz (.tmp 40) (.tmp 42) (O5.alloc _) (by simp;have:=Va.size;omega) (rG rfl (s:=s) (x:=s.data.toList) rfl) (by omega) rfl rfl rfl rfl ?_;intro v10 w10 uU Lx LB))
     have uV:=World.grownBy.trans (World.grownBy_alloc _ _ _) Lx;have HE:Hid (Oa w1 rb (51000-10100*(j-1)) v10 (m+1) w10):=⟨⟨_,uU,HLX.out⟩,⟨q9,Vn.grown uV fun k hk=>by have:=(World.ownsRow.lt O5 k hk).1;omega,VE⟩,Va.own O5 aj uV⟩
     clear uU Lx uV LB O5 Vn Va;go_wp2_with fail
     go_roundw
     case rel=>exact⟨m+1,j-1,by omega,by rw[HJ1.out],HE.out⟩
     case measure=>simp[intOf];omega
    .obtain⟨s,hs⟩: ∃s,X=s:=⟨_,rfl⟩;rw[hs] at Yl HX ⊢;have hss:s.size<=2000:=by omega
     have BP:Hid (Oa w1 rb (51000-10100*(j-1)) (.slice Ao m co) m w7):=HS.out.step ZO (by omega) hO7 hlt
     clear ZO hO7 HS hs;obtain⟨⟨xs8,O5,X5⟩,⟨q9,Vn,VE⟩,Va⟩:=BP.out;have hlx: ∀l∈xs8++ [s.data.toList],l.length<=2000:=fun l hl=>by
      rcases List.mem_append.1 hl with hl|hl
      .exact X5 l hl
      .rw[List.mem_singleton.1 hl];have:s.data.toList.length=s.size:=(Lib.size_eq s).symm;omega
     have HLX:=ah hlx;clear hlx X5;go_wp2_with (at_builtin;go_loud (refine oz (.tmp 40) (.tmp 42) (O5.alloc _) (by simp;have:=Va.size;omega) (rG rfl (s:=s) (x:=s.data.toList) rfl) (by omega) rfl rfl rfl rfl ?_;intro v10 w10 uU Lx LB))
     have uV:=World.grownBy.trans (World.grownBy_alloc _ _ _) Lx;have HE:Hid (Oa w1 rb (51000-10100*(j-1)) v10 (m+1) w10):=⟨⟨_,uU,HLX.out⟩,⟨q9,Vn.grown uV fun k hk=>by have:=(World.ownsRow.lt O5 k hk).1;omega,VE⟩,Va.own O5 aj uV⟩
     clear uU Lx uV LB O5 Vn Va;go_wp2_with fail
     go_roundw
     case rel=>exact⟨m+1,j-1,by omega,by rw[HJ1.out],HE.out⟩
     case measure=>simp[intOf];omega
  .obtain rfl:j=0:=by omega
   have HR:Hid (∃ (R:Option Addr) (m' rc:Nat) (ls:List (List UInt8)),Ending.returned (.slice Ao m co)=.returned (.slice R m' rc)/\m'<=rc/\m'<=5/\eO wo R m' ls/\(∀l∈ls,l.length<=2000)/\Below w.heap.size w wo):=
    ⟨Ao,m,co,xs,rfl,hmc,by omega,eO.aH hx (by omega),hxl,Lv HB.out hrb J7⟩
   clear hx hxl J7;go_wp2_with fail
   go_ret;exact HR.out
theorem Ob (ls:List (List UInt8)):(gT ls).count 10=ls.length:=by
 induction ls with
 |nil=>rfl
 |cons l r ih=>
  have h:=List.count_eq_zero.2 (CK l).2;unfold gT at ih ⊢;rw[List.flatMap_cons,List.count_append,List.count_append,h,ih,List.length_cons,List.count_singleton_self];omega
theorem Vb (ls:List (List UInt8))(k:Nat):gT ls=gT (ls.take k)++gT (ls.drop k):=by
 unfold gT;rw[<-List.flatMap_append,List.take_append_drop]
theorem Vd (ls:List (List UInt8))(k:Nat):(gT (ls.take k)).length<=(gT ls).length/\(gT ls).take (gT (ls.take k)).length=gT (ls.take k):=by
 have h:=Vb ls k;generalize gT (ls.take k)=a at*;generalize gT (ls.drop k)=b at*;rw[h];exact⟨by simp,by simp⟩
theorem Ve {ls:List (List UInt8)}(h:gT ls= []):ls= [] :=by
 cases ls with
 |nil=>rfl
 |cons l r=>
  unfold gT at h;simp at h
theorem Oc {l:List UInt8}{k:Nat}{x:UInt8}(h:l[k]? =some x):(l.take (k+1)).count 10=(l.take k).count 10+if x=10 then 1 else 0:=by
 rw[aR h,List.count_append];congr 1
 by_cases e:x=10
 .subst e;rfl
 .rw[if_neg e];exact List.count_eq_zero.2 (by simpa using fun e'=>e e'.symm)
theorem Jv (l:List UInt8)(w:World)(hn:l.length<=1073741824):
 Calls Tryz.prog 11 #[.string ⟨⟨l⟩⟩] w fun e w'=>e=.returned (.int .i64 (l.count 10))/\Below w.heap.size w w':=by
 obtain⟨n,hl⟩: ∃n,l.length=n:=⟨_,rfl⟩;have HL:=ah hl;have hsz:(⟨⟨l⟩⟩:ByteArray).size=n:=hl;obtain⟨s,hs⟩: ∃s:ByteArray,s=⟨⟨l⟩⟩:=⟨_,rfl⟩;rw[<-hs] at hsz ⊢;rw[hl] at hn;have HS:=ah hs;clear hl hs;go_enter Tryz.func11,Tryz.ntmps11;go_wp2_with fail
 go_loopw [3,4] (fun nv iv wr=> ∃ (k c:Nat),k<=n/\c<=k/\iv=.int .i64 k/\nv=.int .i64 c/\Hid (c=(l.take k).count 10)/\Below w.heap.size w wr) (fun _ i _=>n- (intOf i).toNat)
 case atStart=>exact⟨0,0,Nat.zero_le _,Nat.le_refl _,rfl,rfl,ah rfl,Below.refl _ _⟩
 case round=>
  obtain⟨k,c,hk,hc,rfl,rfl,HC,hb⟩:=hrel;by_cases hlt:k<n
  .obtain⟨x,hx⟩: ∃x,l[k]? =some x:=⟨_,List.getElem?_eq_getElem (by rw[HL.out];exact hlt)⟩
   have e1: ∀h,s[k]'h=x:=by
    intro h;have hs:=HS.out;subst hs;have:=(List.getElem?_eq_some_iff.1 hx).2;exact this
   have hlt2:(k:Int)< (n:Int):=by omega
   have hlt3:k<s.size:=by omega
   have HN:=ah (Oc hx);clear hx;by_cases hxd:x=10
   .have hxe:((x.toNat:Int)==10)=true:=by rw[hxd];rfl
    have Cy:Hid (c+1=(l.take (k+1)).count 10):=by show _=_;rw[HN.out,if_pos hxd,<-HC.out]
    clear hxd HN;go_wp2_with fail
    go_roundw
    case rel=>exact⟨k+1,c+1,by omega,by omega,by go_num,by go_num,Cy,hb⟩
    case measure=>simp[intOf];omega
   .have hxe:((x.toNat:Int)==10)=false:=by
     have h:=(UW x 10).symm;simp at h ⊢;intro e;apply hxd
     apply UInt8.toNat_inj.1
     have h2:(10:UInt8).toNat=10:=rfl;omega
    have Cy:Hid (c=(l.take (k+1)).count 10):=by show _=_;rw[HN.out,if_neg hxd,<-HC.out];rfl
    clear hxd HN;go_wp2_with fail
    go_roundw
    case rel=>exact⟨k+1,c,by omega,by omega,by go_num,rfl,Cy,hb⟩
    case measure=>simp[intOf];omega
  .obtain rfl:k=n:=by omega
   have HE:Hid (c=l.count 10):=by
    show _=_
    rw[HC.out,List.take_of_length_le (by rw[HL.out];exact Nat.le_refl _)]
   go_wp2_with fail
   go_ret;exact⟨by show Ending.returned (.int .i64 (c:Int))=_;rw[HE.out],hb⟩
theorem eO.front {w:World}{A:Option Addr}{n k:Nat}{xs:List (List UInt8)}(h:eO w A n xs)(hk:k<=n):eO w A k (xs.take k):=by
 obtain⟨h1,h2,h3⟩:=h;refine⟨by rw[List.length_take];omega,by omega,fun h0=>?_⟩
 obtain⟨b,off,hA,hb,hc⟩:=h3 (by omega)
 exact⟨b,off,hA,hb,fun i x hx=>hc i x (by
  rw[List.getElem?_take] at hx;split at hx
  .exact hx
  .cases hx)⟩
theorem EN {ls:List (List UInt8)}(h:ls.length<=20):NI ls=gT ls:=by unfold NI;rw[if_pos h]
theorem LC (A:Option Addr)(n c:Nat)(w:World)(hin:BytesIn w A n c)(hL:Laid w):
 Calls Tryz.prog 4 #[.slice A n c] w fun e w'=>e=.returned (.bool true)/\Below w.heap.size w w':=by
 obtain⟨hx,hnc⟩:=hin;have hn:=hx.1;by_cases hbig:1048576<n
 .clear hx;go_enter Tryz.func4,Tryz.ntmps4;go_wp2_with fail
  go_ret;exact⟨rfl,Below.refl _ _⟩
 .have HD:=ah (B_ A n c w hx hnc);have HLD:=ah hL;clear hx hL;go_enter Tryz.func4,Tryz.ntmps4;go_wp2_with fail
  refine HD.out.mono ?_;rintro e w1 ⟨R,m,rc,ls,rfl,hmc,hm5,hr,hll,hb1⟩;have hlen:=hr.1;have HB1:=ah hb1;have HR:=ah hr;have Uq:Hid (CO ls):=ah (fun l hl=>by have:=hll l hl;omega)
  have Nz:=ah hlen;have htk: ∀k,(ls.take k).length<=20:=fun k=>by rw[List.length_take];omega
  have HK:Hid (∀k,k<=m-> ∀W,Below w1.heap.size w1 W->Calls Tryz.prog 8 #[.slice R k rc] W (nA W (gT (ls.take k)))):=ah (fun k hk W hW=>by
   have h:=BD R k rc (ls.take k) W ((HR.out.front hk).below hW aj) (fun l hl=>Uq.out l (List.mem_of_mem_take hl)) (HLD.out.below (HB1.out.trans (hW.mono HB1.out.size)))
   rw[EN (htk k)] at h;exact h)
  have HA:Hid (∀W,Below w1.heap.size w1 W->Calls Tryz.prog 8 #[.slice R m rc] W (nA W (gT ls))):=ah (fun W hW=>by
   have h:=HK.out m aj W hW;rw[List.take_of_length_le (by omega)] at h
   exact h)
  have HS:Hid (∀W,Below w1.heap.size w1 W->Calls Tryz.prog 6 #[.slice R m rc] W (nA W (gT ls))):=ah (fun W hW=>by
   have h:=zk R m rc ls W (HR.out.below hW aj) Uq.out;rw[EN (by omega)] at h
   exact h)
  have HLE:Hid ((gT ls).length<=6000):=ah (by have:=EG ls;omega)
  have Vj:Hid (∀W,Calls Tryz.prog 11 #[.string ⟨⟨gT ls⟩⟩] W fun e w'=>e=.returned (.int .i64 (m:Int))/\Below W.heap.size W w'):=ah (fun W=>by
   have h:=Jv (gT ls) W (by have:=HLE.out;omega)
   rw[Ob,Nz.out] at h;exact h)
  have HPR:=ah (Vd ls);have HZ:Hid (gT ls= [] ->m=0):=ah (fun h=>by rw[Ve h] at hlen;simpa using hlen.symm)
  have HZ2:Hid (m=0->gT ls= []):=ah (fun h=>by
   have:ls= [] :=List.eq_nil_of_length_eq_zero (by omega)
   rw[this];rfl)
  unfold nA dw at HA HS HK;obtain⟨T,hT⟩: ∃T:ByteArray,(⟨⟨gT ls⟩⟩:ByteArray)=T:=⟨_,rfl⟩;rw[hT] at HA HS Vj;have HT:=ah hT;have hTs:T.size<=6000:=by rw[<-hT];exact HLE.out
  have hbe:(T.toList==T.toList)=true:=by simp
  have Fq:(T==T)=true:=by rw[MapKept.bytes_beq]
  have hbn:(T !=T)=false:=by unfold bne;rw[Fq];rfl
  clear hll hr hb1 htk hT;by_cases hm0:m=0
  .have hTe:T=⟨#[]⟩:=by rw[<-HT.out,HZ2.out hm0]
   have hb0:(T==⟨#[]⟩)=true:=by rw[hTe];rfl
   subst hm0;clear hlen;go_wp2_with fail
   refine(HA.out w1 aG).mono ?_;rintro e w2 ⟨rfl,hb2⟩;go_wp2_with fail
   refine(HS.out w2 hb2).mono ?_;rintro e w3 ⟨rfl,hb3⟩;have BM:Below w1.heap.size w1 w3:=hb2.trans (hb3.mono hb2.size);go_wp2_with fail
   refine(HS.out w3 BM).mono ?_;rintro e w4 ⟨rfl,hb4⟩;have acd:Below w1.heap.size w1 w4:=BM.trans (hb4.mono BM.size);go_wp2_with fail
   go_ret;exact⟨rfl,HB1.out.trans (acd.mono HB1.out.size)⟩
  .have hem:T.toList.isEmpty=false:=by
    cases h:T.toList.isEmpty with
    |false=>rfl
    |true=>
     rw[ByteArray.toList_eq,List.isEmpty_iff] at h;exact absurd (HZ.out (by rw[<-HT.out] at h;exact h)) hm0
   clear hlen;go_wp2_with fail
   refine(HA.out w1 aG).mono ?_;rintro e w2 ⟨rfl,hb2⟩;go_wp2_with fail
   refine(HS.out w2 hb2).mono ?_;rintro e w3 ⟨rfl,hb3⟩;have BM:Below w1.heap.size w1 w3:=hb2.trans (hb3.mono hb2.size);have abn:=ah BM;clear BM hb2 hb3;go_wp2_with fail
   go_loopw [5] (fun i wr=> ∃k:Nat,k<=m+1/\i=.int .i64 k/\Below w1.heap.size w1 wr) (fun i _=>m+1- (intOf i).toNat)
   case atStart=>exact⟨0,by omega,rfl,abn.out⟩
   case round=>
    clear abn;obtain⟨k,hk,rfl,hb⟩:=hrel;by_cases hkm:k<=m
    .have HKK:=ah (HK.out k hkm wr hb);obtain⟨E,hE⟩: ∃E:ByteArray,(⟨⟨gT (ls.take k)⟩⟩:ByteArray)=E:=⟨_,rfl⟩;rw[hE] at HKK;obtain⟨hp1,hp2⟩:=HPR.out k;have hEs:E.size<=T.size:=by rw[<-hE,<-HT.out];exact hp1
     have hXE:T.extract 0 E.size=E:=by
      rw[<-HT.out,rH,<-hE];show(⟨⟨List.take ((gT (ls.take k)).length-0) (List.drop 0 (gT ls))⟩⟩:ByteArray)=_
      rw[Nat.sub_zero,List.drop_zero,hp2]
     obtain⟨s,hs⟩: ∃s,E.size=s:=⟨_,rfl⟩;obtain⟨t,ht⟩: ∃t,T.size=t:=⟨_,rfl⟩;rw[hs] at hXE hEs;rw[ht] at hEs;have ht6:t<=6000:=by omega
     have hkk:(k:Int)<=(m:Int):=by omega
     have hkr:(k:Int)<=(rc:Int):=by omega
     have hst:(s:Int)<=(t:Int):=by omega
     have hgt:decide ((t:Int)< (s:Int))=false:=by simp;omega
     have hee:(E==E)=true:=by rw[MapKept.bytes_beq]
     have hen:(E !=E)=false:=by unfold bne;rw[hee];rfl
     have hel:(E.toList==E.toList)=true:=by simp
     clear hE hp1 hp2;go_wp2_with fail
     refine HKK.out.mono ?_;rintro e w5 ⟨rfl,hb5⟩;go_wp2_with fail
     go_roundw
     case rel=>exact⟨k+1,by omega,by go_num,hb.trans (hb5.mono hb.size)⟩
     case measure=>simp[intOf];omega
    .obtain rfl:k=m+1:=by omega
     have hkk: ¬(((m+1:Nat):Int)<=(m:Int)):=by omega
     go_wp2_with fail
     refine(Vj.out wr).mono ?_;rintro e w5 ⟨rfl,hb5⟩;have hbf:=hb.trans (hb5.mono hb.size);go_wp2_with fail
     go_ret;exact⟨rfl,HB1.out.trans (hbf.mono HB1.out.size)⟩
end Go.Proofs.YtddkjbibjjehjaaGreatDoor
