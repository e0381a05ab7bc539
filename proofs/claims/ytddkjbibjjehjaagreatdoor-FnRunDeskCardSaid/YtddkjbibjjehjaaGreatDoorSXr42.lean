/-
  Texts that the proof rests on, joined: part 42.
-/
import Derived.Test.YtddkjbibjjehjaaGreatDoorSXr35
import Derived.Test.YtddkjbibjjehjaaGreatDoorSXr40
import Derived.Test.YtddkjbibjjehjaaGreatDoorSXr41
set_option maxHeartbeats 16000000
set_option maxRecDepth 100000
namespace Go.Proofs.YtddkjbibjjehjaaGreatDoor
open Go.RowKit Go.BigFrame
set_option linter.unusedVariables false
def Au (b:List UInt8)(most:Nat)(f:List ay->List UInt8):Prop:= ∀ (l t:List UInt8) (w:World),l.length<=1073741824->fK 32 l= [b,t] ->
 Calls Tryz.prog 12 #[.string ⟨⟨l⟩⟩] w (nA w (dL most f t))
theorem ny {b:ByteArray}{B:List ay->Nat->Bool}(hB:Ev b B)(A:Option Addr)(c:Nat)(w:World):
 Calls Tryz.prog 26 #[.string b,.slice A 0 c] w fun e w'=>e=.returned (.tuple #[.int .i64 (-1),.bool true])/\Below w.heap.size w w':=by
 have h:=I_ hB A 0 c [] w aC.nil;have e:aF ([] :List ay)=true:=by decide
 unfold eF at h;rw[e] at h;exact h
theorem K9 (b:ByteArray)(h0:b≠ { data:= #[114,101,99,111,118,101,114,97,98,108,101] })(h1:b≠ { data:= #[99,97,115,99,97,100,101,115] })(h2:b≠ { data:= #[115,116,114,105,99,116] })(h3:b≠ { data:= #[114,105,103,111,114,111,117,115] })(h4:b≠ { data:= #[99,111,109,109,105,116,115] })(A:Option Addr)(n c i:Nat)(w:World):
 Calls Tryz.prog 49 #[.string b,.slice A n c,.int .i64 (i:Int)] w fun e w'=>e=.returned (.tuple #[.bool false,.bool false])/\Below w.heap.size w w':=by
 have s0:=gN h0;have s1:=gN h1;have s2:=gN h2;have s3:=gN h3;have s4:=gN h4;simp only at s0 s1 s2 s3 s4;go_enter Tryz.func49,Tryz.ntmps49;go_wp2_with fail
 go_ret2
 exact⟨rfl,Below.refl _ _⟩
theorem kT (b:ByteArray)(h0:b≠ { data:= #[114,101,99,111,118,101,114,97,98,108,101] })(h1:b≠ { data:= #[99,97,115,99,97,100,101,115] })(h2:b≠ { data:= #[115,116,114,105,99,116] })(h3:b≠ { data:= #[114,105,103,111,114,111,117,115] })(h4:b≠ { data:= #[99,111,109,109,105,116,115] })(A:Option Addr)(n c:Nat)(w:World):
 Calls Tryz.prog 26 #[.string b,.slice A n c] w fun e w'=>e=.returned (.tuple #[.int .i64 (-1),.bool false])/\Below w.heap.size w w':=by
 obtain⟨W,hW⟩: ∃W:World,W=w.alloc (.cells #[.int .i64 0,.int .i64 2,.int .i64 0] 89):=⟨_,rfl⟩;have hbW:Below w.heap.size w W:=by rw[hW];exact aG.alloc aj _
 have HC:=ah (K9 b h0 h1 h2 h3 h4 (some ⟨w.heap.size,0,none⟩) 1 1 0 W);have HW:=ah hW;clear hW;go_enter Tryz.func26,Tryz.ntmps26;go_wp2_with fail
 rw[<-HW.out];refine HC.out.mono ?_;rintro e w2 ⟨rfl,hb2⟩;have tu:=hbW.trans (hb2.mono hbW.size);go_wp2_with fail
 go_ret2
 exact⟨rfl,tu⟩
theorem K_:Au ([115,101,114,105,97,108] :List UInt8) 16 (fun s=>rR (jk s)):=by
 intro l t w hl hs;have ht:t.length<=1073741824:=by
  have:=gG 32 l t (by rw[hs];simp)
  omega
 have HS:Hid (Calls Tryz.prog 24 #[.string ⟨⟨l⟩⟩,.int .u8 32] w (dH w [([115,101,114,105,97,108] :List UInt8),t])):=by
  have:=dI l 32 w hl;rw[hs] at this;exact this
 have HP:=ah (fun w=>fE t w ht)
 have Bv:=ah (@gH 16 (fun s=>rR (jk s)) t)
 have zh:=ah (@jJ (fun s=>rR (jk s)) t)
 generalize dL 16 (fun s=>rR (jk s)) t=R at*
 have GZ:Hid (aF (aX t)=true->fF (aX t)/\(aX t).length<=16):=ah (fun h=>⟨d9 h,((bn _).1 h).1⟩)
 generalize hxs:aX t=xs at*;generalize hV:aF xs=V at*;have HF:=ah (fun A c w=>kT { data:= #[115,101,114,105,97,108] } (by decide) (by decide) (by decide) (by decide) (by decide) A 0 c w)
 have HR:Hid (∀w,Calls Tryz.prog 27 #[.string { data:= #[115,101,114,105,97,108] }] w fun e w'=>e=.returned (.bool false)/\w=w'):=ah (fun w=>fZ { data:= #[115,101,114,105,97,108] } w)
 clear hs ht hl hxs hV;go_enter Tryz.func12,Tryz.ntmps12;go_wp2_with fail
 refine HS.out.mono ?_;intro e w1 h1;obtain⟨b,off,c,rfl,hc,ko,hb1⟩:=h1.two;rw[show(⟨⟨([115,101,114,105,97,108] :List UInt8)⟩⟩:ByteArray)= { data:= #[115,101,114,105,97,108] } from rfl] at ko
 obtain⟨c0,c1,kr⟩:=id ko;go_wp2_with fail
 refine(HP.out w1).mono ?_;intro e w2 h2;obtain⟨A4,c4,rfl,hc4,qY,hb2⟩:=h2;have sU:=ah qY.1;have ht2:=ko.below hb2 aj;have HB2:=ah (hb1.trans (hb2.mono hb1.size));generalize hm:xs.length=m at*;clear c0 c1 kr ko hb1 hb2 qY;obtain⟨c0,c1,kr⟩:=id ht2;go_wp2_with fail
 refine(HF.out _ _ _).mono ?_;rintro e w3 ⟨rfl,hb3⟩;have dY:Below w2.heap.size w2 w3:=(aG.alloc aj _).trans (hb3.mono (by simp))
 have ht3:=ht2.below dY aj;have z8:Hid (aC w3 A4 m xs):=sU.out.below dY aj;have HB3:=ah (HB2.out.trans (dY.mono HB2.out.size));clear c0 c1 kr ht2 hb3 dY sU HB2;obtain⟨c0,c1,kr⟩:=id ht3;cases V
 .go_wp2_with fail
  go_ret;exact⟨by rw[Bv.out (by trivial)];rfl,HB3.out⟩
 .go_wp2_with fail
  refine(HR.out _).mono ?_;rintro e w4 ⟨rfl,rfl⟩;have hRR:=zh.out (by trivial)
  go_wp2_with fail
  refine(E5 A4 m c4 xs w3 z8.out).mono ?_;rintro e w4 ⟨rfl,hb4⟩;go_wp2_with fail
  refine(Md _ _).mono ?_;rintro e w5 ⟨rfl,rfl⟩;go_wp2_with fail
  go_ret;exact⟨by rw[hRR];rfl,HB3.out.trans (hb4.mono HB3.out.size)⟩
theorem ND:Au ([111,114,100,101,114] :List UInt8) 16 (fun s=>Ie (jY s)):=by
 intro l t w hl hs;have ht:t.length<=1073741824:=by
  have:=gG 32 l t (by rw[hs];simp)
  omega
 have HS:Hid (Calls Tryz.prog 24 #[.string ⟨⟨l⟩⟩,.int .u8 32] w (dH w [([111,114,100,101,114] :List UInt8),t])):=by
  have:=dI l 32 w hl;rw[hs] at this;exact this
 have HP:=ah (fun w=>fE t w ht)
 have Bv:=ah (@gH 16 (fun s=>Ie (jY s)) t)
 have zh:=ah (@jJ (fun s=>Ie (jY s)) t)
 generalize dL 16 (fun s=>Ie (jY s)) t=R at*
 have GZ:Hid (aF (aX t)=true->fF (aX t)/\(aX t).length<=16):=ah (fun h=>⟨d9 h,((bn _).1 h).1⟩)
 have HSM:Hid (aF (aX t)=true-> ∀o∈jY (aX t),Small o):=ah (fun h=>Ai h)
 have HO:Hid (∀ {A:Option Addr} {n c:Nat} (w:World),aC w A n (aX t)->n<=c->aF (aX t)=true->Calls Tryz.prog 30 #[.slice A n c] w (dP w (jY (aX t)))):=ah (fun w hx hnc hv=>by have:=Fu _ _ _ (aX t) w hx hnc;rw[hv] at this;exact this)
 generalize hxs:aX t=xs at*;generalize hV:aF xs=V at*;have HF:=ah (fun A c w=>kT { data:= #[111,114,100,101,114] } (by decide) (by decide) (by decide) (by decide) (by decide) A 0 c w)
 have HR:Hid (∀w,Calls Tryz.prog 27 #[.string { data:= #[111,114,100,101,114] }] w fun e w'=>e=.returned (.bool false)/\w=w'):=ah (fun w=>fZ { data:= #[111,114,100,101,114] } w)
 clear hs ht hl hxs hV;go_enter Tryz.func12,Tryz.ntmps12;go_wp2_with fail
 refine HS.out.mono ?_;intro e w1 h1;obtain⟨b,off,c,rfl,hc,ko,hb1⟩:=h1.two;rw[show(⟨⟨([111,114,100,101,114] :List UInt8)⟩⟩:ByteArray)= { data:= #[111,114,100,101,114] } from rfl] at ko
 obtain⟨c0,c1,kr⟩:=id ko;go_wp2_with fail
 refine(HP.out w1).mono ?_;intro e w2 h2;obtain⟨A4,c4,rfl,hc4,qY,hb2⟩:=h2;have sU:=ah qY.1;have ht2:=ko.below hb2 aj;have HB2:=ah (hb1.trans (hb2.mono hb1.size));generalize hm:xs.length=m at*;clear c0 c1 kr ko hb1 hb2 qY;obtain⟨c0,c1,kr⟩:=id ht2;go_wp2_with fail
 refine(HF.out _ _ _).mono ?_;rintro e w3 ⟨rfl,hb3⟩;have dY:Below w2.heap.size w2 w3:=(aG.alloc aj _).trans (hb3.mono (by simp))
 have ht3:=ht2.below dY aj;have z8:Hid (aC w3 A4 m xs):=sU.out.below dY aj;have HB3:=ah (HB2.out.trans (dY.mono HB2.out.size));clear c0 c1 kr ht2 hb3 dY sU HB2;obtain⟨c0,c1,kr⟩:=id ht3;cases V
 .go_wp2_with fail
  go_ret;exact⟨by rw[Bv.out (by trivial)];rfl,HB3.out⟩
 .go_wp2_with fail
  refine(HR.out _).mono ?_;rintro e w4 ⟨rfl,rfl⟩;have hRR:=zh.out (by trivial)
  have hsm:=HSM.out (by trivial)
  go_wp2_with fail
  refine(HO.out w3 z8.out (by omega) (by trivial)).mono ?_
  rintro e w4 ⟨A5,c5,rv,rfl,Jy,EY,F9,hb4⟩;have tu:=HB3.out.trans (hb4.mono HB3.out.size);generalize jY xs=oo at*;cases oo with
  |nil=>
   go_wp2_with fail
   go_ret;exact⟨by rw[hRR];rfl,tu⟩
  |cons o r=>
   obtain⟨b5,ab5,A6,n6,c6,rfl,hcell,ab6,hx6⟩:=Er EY F9;have ZQ:0< (o::r).length:=by simp
   generalize(o::r).length=n5 at*;have hn6:(0:Int)< (n5:Int):=by omega
   have hz6:((n5:Int)==0)=false:=by simp;omega
   go_wp2_with fail
   refine(qj A6 n6 c6 o w4 hx6 (hsm o (by simp))).mono ?_
   rintro e w5 ⟨rfl,hb5⟩;go_wp2_with fail
   go_ret;exact⟨by rw[hRR];rfl,tu.trans (hb5.mono tu.size)⟩
theorem NG:Au ([99,121,99,108,101] :List UInt8) 16 (fun s=>fO (pq s)):=by
 intro l t w hl hs;have ht:t.length<=1073741824:=by
  have:=gG 32 l t (by rw[hs];simp)
  omega
 have HS:Hid (Calls Tryz.prog 24 #[.string ⟨⟨l⟩⟩,.int .u8 32] w (dH w [([99,121,99,108,101] :List UInt8),t])):=by
  have:=dI l 32 w hl;rw[hs] at this;exact this
 have HP:=ah (fun w=>fE t w ht)
 have Bv:=ah (@gH 16 (fun s=>fO (pq s)) t)
 have zh:=ah (@jJ (fun s=>fO (pq s)) t)
 generalize dL 16 (fun s=>fO (pq s)) t=R at*
 have GZ:Hid (aF (aX t)=true->fF (aX t)/\(aX t).length<=16):=ah (fun h=>⟨d9 h,((bn _).1 h).1⟩)
 have HSM:Hid (aF (aX t)=true->Small (pq (aX t))):=ah (fun h=>Aj h)
 have HR4:Hid (aF (aX t)=true->dA (qA (committed (aX t)))/\(dD (qA (committed (aX t)))).length=4):=ah (fun h=>y7 h)
 generalize hxs:aX t=xs at*;generalize hV:aF xs=V at*;have HF:=ah (fun A c w=>kT { data:= #[99,121,99,108,101] } (by decide) (by decide) (by decide) (by decide) (by decide) A 0 c w)
 have HR:Hid (∀w,Calls Tryz.prog 27 #[.string { data:= #[99,121,99,108,101] }] w fun e w'=>e=.returned (.bool false)/\w=w'):=ah (fun w=>fZ { data:= #[99,121,99,108,101] } w)
 clear hs ht hl hxs hV;go_enter Tryz.func12,Tryz.ntmps12;go_wp2_with fail
 refine HS.out.mono ?_;intro e w1 h1;obtain⟨b,off,c,rfl,hc,ko,hb1⟩:=h1.two;rw[show(⟨⟨([99,121,99,108,101] :List UInt8)⟩⟩:ByteArray)= { data:= #[99,121,99,108,101] } from rfl] at ko
 obtain⟨c0,c1,kr⟩:=id ko;go_wp2_with fail
 refine(HP.out w1).mono ?_;intro e w2 h2;obtain⟨A4,c4,rfl,hc4,qY,hb2⟩:=h2;have sU:=ah qY.1;have ht2:=ko.below hb2 aj;have HB2:=ah (hb1.trans (hb2.mono hb1.size));generalize hm:xs.length=m at*;clear c0 c1 kr ko hb1 hb2 qY;obtain⟨c0,c1,kr⟩:=id ht2;go_wp2_with fail
 refine(HF.out _ _ _).mono ?_;rintro e w3 ⟨rfl,hb3⟩;have dY:Below w2.heap.size w2 w3:=(aG.alloc aj _).trans (hb3.mono (by simp))
 have ht3:=ht2.below dY aj;have z8:Hid (aC w3 A4 m xs):=sU.out.below dY aj;have HB3:=ah (HB2.out.trans (dY.mono HB2.out.size));clear c0 c1 kr ht2 hb3 dY sU HB2;obtain⟨c0,c1,kr⟩:=id ht3;cases V
 .go_wp2_with fail
  go_ret;exact⟨by rw[Bv.out (by trivial)];rfl,HB3.out⟩
 .go_wp2_with fail
  refine(HR.out _).mono ?_;rintro e w4 ⟨rfl,rfl⟩;have hRR:=zh.out (by trivial)
  have hsm:=HSM.out (by trivial)
  have Xg:=GZ.out (by trivial)
  go_wp2_with fail
  refine(uD A4 m c4 xs w3 z8.out).mono ?_;rintro e w4 ⟨A5,c5,rfl,Jy,Qd,hb4⟩;generalize hm5:(committed xs).length=m5 at*;have hx5:=Qd.1;go_wp2_with fail
  refine(DZ A5 m5 c5 (committed xs) w4 hx5 (fun o ho=>Xg.1 o (yI ho))).mono ?_
  rintro e w5 h5;obtain⟨A6,c6,rfl,hc6,hf6,hb5⟩:=h5;obtain⟨h4,h4l⟩:dA (qA (committed xs))/\(dD (qA (committed xs))).length=4:=HR4.out (by trivial)
  have hx6:=hf6.1;rw[h4l] at hx6 hc6;rw[h4l];go_wp2_with fail
  refine(qF (qA (committed xs)) h4 A6 c6 w5 hx6).mono ?_;rintro e w6 ⟨A7,c7,rfl,ZY,hx7,hb6⟩;generalize hm7:(fI (qA (committed xs))).length=m7 at*;go_wp2_with fail
  refine(qj A7 m7 c7 _ w6 hx7 hsm).mono ?_;rintro e w7 ⟨rfl,EP⟩;go_wp2_with fail
  go_ret;have tu:=HB3.out.trans (hb4.mono HB3.out.size);have hbG:=tu.trans (hb5.mono tu.size);have hbH:=hbG.trans (hb6.mono hbG.size);exact⟨by rw[hRR];rfl,hbH.trans (EP.mono hbH.size)⟩
theorem FI:Au ([115,110,97,112,115,104,111,116] :List UInt8) 16 (fun s=>fO (lT s)):=by
 intro l t w hl hs;have ht:t.length<=1073741824:=by
  have:=gG 32 l t (by rw[hs];simp)
  omega
 have HS:Hid (Calls Tryz.prog 24 #[.string ⟨⟨l⟩⟩,.int .u8 32] w (dH w [([115,110,97,112,115,104,111,116] :List UInt8),t])):=by
  have:=dI l 32 w hl;rw[hs] at this;exact this
 have HP:=ah (fun w=>fE t w ht)
 have Bv:=ah (@gH 16 (fun s=>fO (lT s)) t)
 have zh:=ah (@jJ (fun s=>fO (lT s)) t)
 generalize dL 16 (fun s=>fO (lT s)) t=R at*
 have GZ:Hid (aF (aX t)=true->fF (aX t)/\(aX t).length<=16):=ah (fun h=>⟨d9 h,((bn _).1 h).1⟩)
 have HSM:Hid (aF (aX t)=true->Small (lT (aX t))):=ah (fun h=>xR h)
 generalize hxs:aX t=xs at*;generalize hV:aF xs=V at*;have HF:=ah (fun A c w=>kT { data:= #[115,110,97,112,115,104,111,116] } (by decide) (by decide) (by decide) (by decide) (by decide) A 0 c w)
 have HR:Hid (∀w,Calls Tryz.prog 27 #[.string { data:= #[115,110,97,112,115,104,111,116] }] w fun e w'=>e=.returned (.bool false)/\w=w'):=ah (fun w=>fZ { data:= #[115,110,97,112,115,104,111,116] } w)
 clear hs ht hl hxs hV;go_enter Tryz.func12,Tryz.ntmps12;go_wp2_with fail
 refine HS.out.mono ?_;intro e w1 h1;obtain⟨b,off,c,rfl,hc,ko,hb1⟩:=h1.two;rw[show(⟨⟨([115,110,97,112,115,104,111,116] :List UInt8)⟩⟩:ByteArray)= { data:= #[115,110,97,112,115,104,111,116] } from rfl] at ko
 obtain⟨c0,c1,kr⟩:=id ko;go_wp2_with fail
 refine(HP.out w1).mono ?_;intro e w2 h2;obtain⟨A4,c4,rfl,hc4,qY,hb2⟩:=h2;have sU:=ah qY.1;have ht2:=ko.below hb2 aj;have HB2:=ah (hb1.trans (hb2.mono hb1.size));generalize hm:xs.length=m at*;clear c0 c1 kr ko hb1 hb2 qY;obtain⟨c0,c1,kr⟩:=id ht2;go_wp2_with fail
 refine(HF.out _ _ _).mono ?_;rintro e w3 ⟨rfl,hb3⟩;have dY:Below w2.heap.size w2 w3:=(aG.alloc aj _).trans (hb3.mono (by simp))
 have ht3:=ht2.below dY aj;have z8:Hid (aC w3 A4 m xs):=sU.out.below dY aj;have HB3:=ah (HB2.out.trans (dY.mono HB2.out.size));clear c0 c1 kr ht2 hb3 dY sU HB2;obtain⟨c0,c1,kr⟩:=id ht3;cases V
 .go_wp2_with fail
  go_ret;exact⟨by rw[Bv.out (by trivial)];rfl,HB3.out⟩
 .go_wp2_with fail
  refine(HR.out _).mono ?_;rintro e w4 ⟨rfl,rfl⟩;have hRR:=zh.out (by trivial)
  have hsm:=HSM.out (by trivial)
  go_wp2_with fail
  refine(Fz A4 m c4 xs w3 z8.out).mono ?_;rintro e w4 ⟨A5,c5,rfl,Jy,Qd,hb4⟩;generalize hm5:(lT xs).length=m5 at*;go_wp2_with fail
  refine(qj A5 m5 c5 _ w4 Qd.1 hsm).mono ?_;rintro e w5 ⟨rfl,hb5⟩;go_wp2_with fail
  go_ret;have tu:=HB3.out.trans (hb4.mono HB3.out.size);exact⟨by rw[hRR];rfl,tu.trans (hb5.mono tu.size)⟩
theorem Ri:Au ([119,97,105,116] :List UInt8) 12 (fun s=>bX (dO dQ.wait s).done):=by
 intro l t w hl hs;have ht:t.length<=1073741824:=by
  have:=gG 32 l t (by rw[hs];simp)
  omega
 have HS:Hid (Calls Tryz.prog 24 #[.string ⟨⟨l⟩⟩,.int .u8 32] w (dH w [([119,97,105,116] :List UInt8),t])):=by
  have:=dI l 32 w hl;rw[hs] at this;exact this
 have HP:=ah (fun w=>fE t w ht)
 have Bv:=ah (@gH 12 (fun s=>bX (dO dQ.wait s).done) t)
 have zh:Hid (∀h2:(aX t).length<=12,aF (aX t)=true->dL 12 (fun s=>bX (dO dQ.wait s).done) t=(fun s=>bX (dO dQ.wait s).done) (aX t)):=ah (fun h2 h=>oF h h2)
 have HG2:Hid (¬(aX t).length<=12->dL 12 (fun s=>bX (dO dQ.wait s).done) t=xA):=ah (fun h=>pJ h)
 generalize dL 12 (fun s=>bX (dO dQ.wait s).done) t=R at*
 have GZ:Hid (aF (aX t)=true->fF (aX t)/\(aX t).length<=16):=ah (fun h=>⟨d9 h,((bn _).1 h).1⟩)
 have HD:Hid (aF (aX t)=true->(aX t).length<=12->(dO dQ.wait (aX t)).done.length<=1000/\fF (dO dQ.wait (aX t)).done):=ah (fun h h2=>xS h h2 dQ.wait)
 have HIT:Hid (aF (aX t)=true->bZ (aX t)):=ah (fun h=>p9 h)
 generalize hxs:aX t=xs at*;generalize hV:aF xs=V at*;have HF:=ah (fun A c w=>kT { data:= #[119,97,105,116] } (by decide) (by decide) (by decide) (by decide) (by decide) A 0 c w)
 have HR:Hid (∀w,Calls Tryz.prog 27 #[.string { data:= #[119,97,105,116] }] w fun e w'=>e=.returned (.bool true)/\w=w'):=ah (fun w=>fZ { data:= #[119,97,105,116] } w)
 clear hs ht hl hxs hV;go_enter Tryz.func12,Tryz.ntmps12;go_wp2_with fail
 refine HS.out.mono ?_;intro e w1 h1;obtain⟨b,off,c,rfl,hc,ko,hb1⟩:=h1.two;rw[show(⟨⟨([119,97,105,116] :List UInt8)⟩⟩:ByteArray)= { data:= #[119,97,105,116] } from rfl] at ko
 obtain⟨c0,c1,kr⟩:=id ko;go_wp2_with fail
 refine(HP.out w1).mono ?_;intro e w2 h2;obtain⟨A4,c4,rfl,hc4,qY,hb2⟩:=h2;have sU:=ah qY.1;have ht2:=ko.below hb2 aj;have HB2:=ah (hb1.trans (hb2.mono hb1.size));generalize hm:xs.length=m at*;clear c0 c1 kr ko hb1 hb2 qY;obtain⟨c0,c1,kr⟩:=id ht2;go_wp2_with fail
 refine(HF.out _ _ _).mono ?_;rintro e w3 ⟨rfl,hb3⟩;have dY:Below w2.heap.size w2 w3:=(aG.alloc aj _).trans (hb3.mono (by simp))
 have ht3:=ht2.below dY aj;have z8:Hid (aC w3 A4 m xs):=sU.out.below dY aj;have HB3:=ah (HB2.out.trans (dY.mono HB2.out.size));clear c0 c1 kr ht2 hb3 dY sU HB2;obtain⟨c0,c1,kr⟩:=id ht3;cases V
 .go_wp2_with fail
  go_ret;exact⟨by rw[Bv.out (by trivial)];rfl,HB3.out⟩
 .go_wp2_with fail
  refine(HR.out _).mono ?_;rintro e w4 ⟨rfl,rfl⟩;by_cases ED:m<=12
  .have OL:(m:Int)<=12:=by omega
   have hmd:decide ((12:Int)< (m:Int))=false:=by simp;omega
   have hRR:=zh.out ED (by trivial)
   have Xg:=GZ.out (by trivial)
   have hd:=HD.out (by trivial) ED
   clear zh HG2 Bv;go_wp2_with fail
   refine(sQ (b:= { data:= #[119,97,105,116] }) (r:=dQ.wait) rfl A4 m c4 xs w3 z8.out (by omega) (HIT.out (by trivial))).mono ?_
   rintro e w4 ⟨V5,rfl,hD,hb4⟩;obtain⟨Ad,Aw,Al,Ak,nd,nw,nl,nk,cd,cw,cl,ck,rfl,hcs,h1,h2,h3,h4⟩:=hD.forms;have hro:aC w4 Ad nd (dO dQ.wait xs).done:=aC.aH (hD.doneN h1) (by have:=hd.1;omega)
   have hfd: ∀W:World,(Instr.field 67 (.agg #[.slice Ad nd cd,.slice Aw nw cw,.slice Al nl cl,.slice Ak nk ck]) 0).run Tryz.prog W=.ok (.slice Ad nd cd) W:=fun _=>by kernel_rfl
   have HST:=ah (lu Ad nd cd _ w4 hro hd.2);have tu:=HB3.out.trans (hb4.mono HB3.out.size);clear hD hro hb4 h1 h2 h3 h4;unfold DV.val;simp only;go_wp2_with fail
   refine HST.out.mono ?_;rintro e w5 ⟨rfl,hb5⟩;go_wp2_with fail
   go_ret;exact⟨by rw[hRR];rfl,tu.trans (hb5.mono tu.size)⟩
  .have OL:(12:Int)< (m:Int):=by omega
   have hmd:decide ((12:Int)< (m:Int))=true:=by simp;omega
   have hRR:=HG2.out ED;clear zh HG2;go_wp2_with fail
   go_ret;exact⟨by rw[hRR];rfl,HB3.out⟩
theorem UY:Au ([100,105,101] :List UInt8) 12 (fun s=>bX (dO dQ.die s).done):=by
 intro l t w hl hs;have ht:t.length<=1073741824:=by
  have:=gG 32 l t (by rw[hs];simp)
  omega
 have HS:Hid (Calls Tryz.prog 24 #[.string ⟨⟨l⟩⟩,.int .u8 32] w (dH w [([100,105,101] :List UInt8),t])):=by
  have:=dI l 32 w hl;rw[hs] at this;exact this
 have HP:=ah (fun w=>fE t w ht)
 have Bv:=ah (@gH 12 (fun s=>bX (dO dQ.die s).done) t)
 have zh:Hid (∀h2:(aX t).length<=12,aF (aX t)=true->dL 12 (fun s=>bX (dO dQ.die s).done) t=(fun s=>bX (dO dQ.die s).done) (aX t)):=ah (fun h2 h=>oF h h2)
 have HG2:Hid (¬(aX t).length<=12->dL 12 (fun s=>bX (dO dQ.die s).done) t=xA):=ah (fun h=>pJ h)
 generalize dL 12 (fun s=>bX (dO dQ.die s).done) t=R at*
 have GZ:Hid (aF (aX t)=true->fF (aX t)/\(aX t).length<=16):=ah (fun h=>⟨d9 h,((bn _).1 h).1⟩)
 have HD:Hid (aF (aX t)=true->(aX t).length<=12->(dO dQ.die (aX t)).done.length<=1000/\fF (dO dQ.die (aX t)).done):=ah (fun h h2=>xS h h2 dQ.die)
 have HIT:Hid (aF (aX t)=true->bZ (aX t)):=ah (fun h=>p9 h)
 generalize hxs:aX t=xs at*;generalize hV:aF xs=V at*;have HF:=ah (fun A c w=>kT { data:= #[100,105,101] } (by decide) (by decide) (by decide) (by decide) (by decide) A 0 c w)
 have HR:Hid (∀w,Calls Tryz.prog 27 #[.string { data:= #[100,105,101] }] w fun e w'=>e=.returned (.bool true)/\w=w'):=ah (fun w=>fZ { data:= #[100,105,101] } w)
 clear hs ht hl hxs hV;go_enter Tryz.func12,Tryz.ntmps12;go_wp2_with fail
 refine HS.out.mono ?_;intro e w1 h1;obtain⟨b,off,c,rfl,hc,ko,hb1⟩:=h1.two;rw[show(⟨⟨([100,105,101] :List UInt8)⟩⟩:ByteArray)= { data:= #[100,105,101] } from rfl] at ko
 obtain⟨c0,c1,kr⟩:=id ko;go_wp2_with fail
 refine(HP.out w1).mono ?_;intro e w2 h2;obtain⟨A4,c4,rfl,hc4,qY,hb2⟩:=h2;have sU:=ah qY.1;have ht2:=ko.below hb2 aj;have HB2:=ah (hb1.trans (hb2.mono hb1.size));generalize hm:xs.length=m at*;clear c0 c1 kr ko hb1 hb2 qY;obtain⟨c0,c1,kr⟩:=id ht2;go_wp2_with fail
 refine(HF.out _ _ _).mono ?_;rintro e w3 ⟨rfl,hb3⟩;have dY:Below w2.heap.size w2 w3:=(aG.alloc aj _).trans (hb3.mono (by simp))
 have ht3:=ht2.below dY aj;have z8:Hid (aC w3 A4 m xs):=sU.out.below dY aj;have HB3:=ah (HB2.out.trans (dY.mono HB2.out.size));clear c0 c1 kr ht2 hb3 dY sU HB2;obtain⟨c0,c1,kr⟩:=id ht3;cases V
 .go_wp2_with fail
  go_ret;exact⟨by rw[Bv.out (by trivial)];rfl,HB3.out⟩
 .go_wp2_with fail
  refine(HR.out _).mono ?_;rintro e w4 ⟨rfl,rfl⟩;by_cases ED:m<=12
  .have OL:(m:Int)<=12:=by omega
   have hmd:decide ((12:Int)< (m:Int))=false:=by simp;omega
   have hRR:=zh.out ED (by trivial)
   have Xg:=GZ.out (by trivial)
   have hd:=HD.out (by trivial) ED
   clear zh HG2 Bv;go_wp2_with fail
   refine(sQ (b:= { data:= #[100,105,101] }) (r:=dQ.die) rfl A4 m c4 xs w3 z8.out (by omega) (HIT.out (by trivial))).mono ?_
   rintro e w4 ⟨V5,rfl,hD,hb4⟩;obtain⟨Ad,Aw,Al,Ak,nd,nw,nl,nk,cd,cw,cl,ck,rfl,hcs,h1,h2,h3,h4⟩:=hD.forms;have hro:aC w4 Ad nd (dO dQ.die xs).done:=aC.aH (hD.doneN h1) (by have:=hd.1;omega)
   have hfd: ∀W:World,(Instr.field 67 (.agg #[.slice Ad nd cd,.slice Aw nw cw,.slice Al nl cl,.slice Ak nk ck]) 0).run Tryz.prog W=.ok (.slice Ad nd cd) W:=fun _=>by kernel_rfl
   have HST:=ah (lu Ad nd cd _ w4 hro hd.2);have tu:=HB3.out.trans (hb4.mono HB3.out.size);clear hD hro hb4 h1 h2 h3 h4;unfold DV.val;simp only;go_wp2_with fail
   refine HST.out.mono ?_;rintro e w5 ⟨rfl,hb5⟩;go_wp2_with fail
   go_ret;exact⟨by rw[hRR];rfl,tu.trans (hb5.mono tu.size)⟩
  .have OL:(12:Int)< (m:Int):=by omega
   have hmd:decide ((12:Int)< (m:Int))=true:=by simp;omega
   have hRR:=HG2.out ED;clear zh HG2;go_wp2_with fail
   go_ret;exact⟨by rw[hRR];rfl,HB3.out⟩
theorem NH:Au ([119,111,117,110,100] :List UInt8) 12 (fun s=>bX (dO dQ.bA s).done):=by
 intro l t w hl hs;have ht:t.length<=1073741824:=by
  have:=gG 32 l t (by rw[hs];simp)
  omega
 have HS:Hid (Calls Tryz.prog 24 #[.string ⟨⟨l⟩⟩,.int .u8 32] w (dH w [([119,111,117,110,100] :List UInt8),t])):=by
  have:=dI l 32 w hl;rw[hs] at this;exact this
 have HP:=ah (fun w=>fE t w ht)
 have Bv:=ah (@gH 12 (fun s=>bX (dO dQ.bA s).done) t)
 have zh:Hid (∀h2:(aX t).length<=12,aF (aX t)=true->dL 12 (fun s=>bX (dO dQ.bA s).done) t=(fun s=>bX (dO dQ.bA s).done) (aX t)):=ah (fun h2 h=>oF h h2)
 have HG2:Hid (¬(aX t).length<=12->dL 12 (fun s=>bX (dO dQ.bA s).done) t=xA):=ah (fun h=>pJ h)
 generalize dL 12 (fun s=>bX (dO dQ.bA s).done) t=R at*
 have GZ:Hid (aF (aX t)=true->fF (aX t)/\(aX t).length<=16):=ah (fun h=>⟨d9 h,((bn _).1 h).1⟩)
 have HD:Hid (aF (aX t)=true->(aX t).length<=12->(dO dQ.bA (aX t)).done.length<=1000/\fF (dO dQ.bA (aX t)).done):=ah (fun h h2=>xS h h2 dQ.bA)
 have HIT:Hid (aF (aX t)=true->bZ (aX t)):=ah (fun h=>p9 h)
 generalize hxs:aX t=xs at*;generalize hV:aF xs=V at*;have HF:=ah (fun A c w=>kT { data:= #[119,111,117,110,100] } (by decide) (by decide) (by decide) (by decide) (by decide) A 0 c w)
 have HR:Hid (∀w,Calls Tryz.prog 27 #[.string { data:= #[119,111,117,110,100] }] w fun e w'=>e=.returned (.bool true)/\w=w'):=ah (fun w=>fZ { data:= #[119,111,117,110,100] } w)
 clear hs ht hl hxs hV;go_enter Tryz.func12,Tryz.ntmps12;go_wp2_with fail
 refine HS.out.mono ?_;intro e w1 h1;obtain⟨b,off,c,rfl,hc,ko,hb1⟩:=h1.two;rw[show(⟨⟨([119,111,117,110,100] :List UInt8)⟩⟩:ByteArray)= { data:= #[119,111,117,110,100] } from rfl] at ko
 obtain⟨c0,c1,kr⟩:=id ko;go_wp2_with fail
 refine(HP.out w1).mono ?_;intro e w2 h2;obtain⟨A4,c4,rfl,hc4,qY,hb2⟩:=h2;have sU:=ah qY.1;have ht2:=ko.below hb2 aj;have HB2:=ah (hb1.trans (hb2.mono hb1.size));generalize hm:xs.length=m at*;clear c0 c1 kr ko hb1 hb2 qY;obtain⟨c0,c1,kr⟩:=id ht2;go_wp2_with fail
 refine(HF.out _ _ _).mono ?_;rintro e w3 ⟨rfl,hb3⟩;have dY:Below w2.heap.size w2 w3:=(aG.alloc aj _).trans (hb3.mono (by simp))
 have ht3:=ht2.below dY aj;have z8:Hid (aC w3 A4 m xs):=sU.out.below dY aj;have HB3:=ah (HB2.out.trans (dY.mono HB2.out.size));clear c0 c1 kr ht2 hb3 dY sU HB2;obtain⟨c0,c1,kr⟩:=id ht3;cases V
 .go_wp2_with fail
  go_ret;exact⟨by rw[Bv.out (by trivial)];rfl,HB3.out⟩
 .go_wp2_with fail
  refine(HR.out _).mono ?_;rintro e w4 ⟨rfl,rfl⟩;by_cases ED:m<=12
  .have OL:(m:Int)<=12:=by omega
   have hmd:decide ((12:Int)< (m:Int))=false:=by simp;omega
   have hRR:=zh.out ED (by trivial)
   have Xg:=GZ.out (by trivial)
   have hd:=HD.out (by trivial) ED
   clear zh HG2 Bv;go_wp2_with fail
   refine(sQ (b:= { data:= #[119,111,117,110,100] }) (r:=dQ.bA) rfl A4 m c4 xs w3 z8.out (by omega) (HIT.out (by trivial))).mono ?_
   rintro e w4 ⟨V5,rfl,hD,hb4⟩;obtain⟨Ad,Aw,Al,Ak,nd,nw,nl,nk,cd,cw,cl,ck,rfl,hcs,h1,h2,h3,h4⟩:=hD.forms;have hro:aC w4 Ad nd (dO dQ.bA xs).done:=aC.aH (hD.doneN h1) (by have:=hd.1;omega)
   have hfd: ∀W:World,(Instr.field 67 (.agg #[.slice Ad nd cd,.slice Aw nw cw,.slice Al nl cl,.slice Ak nk ck]) 0).run Tryz.prog W=.ok (.slice Ad nd cd) W:=fun _=>by kernel_rfl
   have HST:=ah (lu Ad nd cd _ w4 hro hd.2);have tu:=HB3.out.trans (hb4.mono HB3.out.size);clear hD hro hb4 h1 h2 h3 h4;unfold DV.val;simp only;go_wp2_with fail
   refine HST.out.mono ?_;rintro e w5 ⟨rfl,hb5⟩;go_wp2_with fail
   go_ret;exact⟨by rw[hRR];rfl,tu.trans (hb5.mono tu.size)⟩
  .have OL:(12:Int)< (m:Int):=by omega
   have hmd:decide ((12:Int)< (m:Int))=true:=by simp;omega
   have hRR:=HG2.out ED;clear zh HG2;go_wp2_with fail
   go_ret;exact⟨by rw[hRR];rfl,HB3.out⟩
theorem Av:Au ([114,101,99,111,118,101,114,97,98,108,101] :List UInt8) 16 (fun s=>Lib.itoa (aY (wB s) s.length)):=by
 intro l t w hl hs;have ht:t.length<=1073741824:=by
  have:=gG 32 l t (by rw[hs];simp)
  omega
 have HS:Hid (Calls Tryz.prog 24 #[.string ⟨⟨l⟩⟩,.int .u8 32] w (dH w [([114,101,99,111,118,101,114,97,98,108,101] :List UInt8),t])):=by
  have:=dI l 32 w hl;rw[hs] at this;exact this
 have HP:=ah (fun w=>fE t w ht)
 have Bv:=ah (@gH 16 (fun s=>Lib.itoa (aY (wB s) s.length)) t)
 have zh:=ah (@jJ (fun s=>Lib.itoa (aY (wB s) s.length)) t)
 generalize dL 16 (fun s=>Lib.itoa (aY (wB s) s.length)) t=R at*
 have GZ:Hid (aF (aX t)=true->fF (aX t)/\(aX t).length<=16):=ah (fun h=>⟨d9 h,((bn _).1 h).1⟩)
 generalize hxs:aX t=xs at*;generalize hV:aF xs=V at*;have HF:=ah (fun A c w=>ny (b:= { data:= #[114,101,99,111,118,101,114,97,98,108,101] }) (B:=wB) (fun A n c i s w hx hi=>Bo A n c i s w hx hi) A c w)
 have HR:Hid (∀w,Calls Tryz.prog 27 #[.string { data:= #[114,101,99,111,118,101,114,97,98,108,101] }] w fun e w'=>e=.returned (.bool false)/\w=w'):=ah (fun w=>fZ { data:= #[114,101,99,111,118,101,114,97,98,108,101] } w)
 clear hs ht hl hxs hV;go_enter Tryz.func12,Tryz.ntmps12;go_wp2_with fail
 refine HS.out.mono ?_;intro e w1 h1;obtain⟨b,off,c,rfl,hc,ko,hb1⟩:=h1.two;rw[show(⟨⟨([114,101,99,111,118,101,114,97,98,108,101] :List UInt8)⟩⟩:ByteArray)= { data:= #[114,101,99,111,118,101,114,97,98,108,101] } from rfl] at ko
 obtain⟨c0,c1,kr⟩:=id ko;go_wp2_with fail
 refine(HP.out w1).mono ?_;intro e w2 h2;obtain⟨A4,c4,rfl,hc4,qY,hb2⟩:=h2;have sU:=ah qY.1;have ht2:=ko.below hb2 aj;have HB2:=ah (hb1.trans (hb2.mono hb1.size));generalize hm:xs.length=m at*;clear c0 c1 kr ko hb1 hb2 qY;obtain⟨c0,c1,kr⟩:=id ht2;go_wp2_with fail
 refine(HF.out _ _ _).mono ?_;rintro e w3 ⟨rfl,hb3⟩;have dY:Below w2.heap.size w2 w3:=(aG.alloc aj _).trans (hb3.mono (by simp))
 have ht3:=ht2.below dY aj;have z8:Hid (aC w3 A4 m xs):=sU.out.below dY aj;have HB3:=ah (HB2.out.trans (dY.mono HB2.out.size));clear c0 c1 kr ht2 hb3 dY sU HB2;obtain⟨c0,c1,kr⟩:=id ht3;cases V
 .go_wp2_with fail
  go_ret;exact⟨by rw[Bv.out (by trivial)];rfl,HB3.out⟩
 .go_wp2_with fail
  refine(HR.out _).mono ?_;rintro e w4 ⟨rfl,rfl⟩;have hRR:=zh.out (by trivial)
  have Xg:=GZ.out (by trivial)
  have hS:=mg (b:= { data:= #[114,101,99,111,118,101,114,97,98,108,101] }) (B:=wB) (fun A n c i s w hx hi=>Bo A n c i s w hx hi) A4 m c4 xs w3 z8.out
  have hz:=kF (wB xs) xs.length;rw[hm] at hS hz;generalize aY (wB xs) m=z at*;have Q6:=ah hS;clear hS;go_wp2_with fail
  refine Q6.out.mono ?_;rintro e w4 ⟨rfl,hb4⟩;go_wp2_with fail
  refine(kH z hz.1 (by omega) w4).mono ?_
  rintro e w5 ⟨rfl,rfl⟩;go_wp2_with fail
  go_ret;exact⟨by rw[hRR];rfl,HB3.out.trans (hb4.mono HB3.out.size)⟩
theorem FJ:Au ([99,97,115,99,97,100,101,115] :List UInt8) 16 (fun s=>Lib.itoa (aY (wC s) s.length)):=by
 intro l t w hl hs;have ht:t.length<=1073741824:=by
  have:=gG 32 l t (by rw[hs];simp)
  omega
 have HS:Hid (Calls Tryz.prog 24 #[.string ⟨⟨l⟩⟩,.int .u8 32] w (dH w [([99,97,115,99,97,100,101,115] :List UInt8),t])):=by
  have:=dI l 32 w hl;rw[hs] at this;exact this
 have HP:=ah (fun w=>fE t w ht)
 have Bv:=ah (@gH 16 (fun s=>Lib.itoa (aY (wC s) s.length)) t)
 have zh:=ah (@jJ (fun s=>Lib.itoa (aY (wC s) s.length)) t)
 generalize dL 16 (fun s=>Lib.itoa (aY (wC s) s.length)) t=R at*
 have GZ:Hid (aF (aX t)=true->fF (aX t)/\(aX t).length<=16):=ah (fun h=>⟨d9 h,((bn _).1 h).1⟩)
 generalize hxs:aX t=xs at*;generalize hV:aF xs=V at*;have HF:=ah (fun A c w=>ny (b:= { data:= #[99,97,115,99,97,100,101,115] }) (B:=wC) (fun A n c i s w hx hi=>Bp A n c i s w hx hi) A c w)
 have HR:Hid (∀w,Calls Tryz.prog 27 #[.string { data:= #[99,97,115,99,97,100,101,115] }] w fun e w'=>e=.returned (.bool false)/\w=w'):=ah (fun w=>fZ { data:= #[99,97,115,99,97,100,101,115] } w)
 clear hs ht hl hxs hV;go_enter Tryz.func12,Tryz.ntmps12;go_wp2_with fail
 refine HS.out.mono ?_;intro e w1 h1;obtain⟨b,off,c,rfl,hc,ko,hb1⟩:=h1.two;rw[show(⟨⟨([99,97,115,99,97,100,101,115] :List UInt8)⟩⟩:ByteArray)= { data:= #[99,97,115,99,97,100,101,115] } from rfl] at ko
 obtain⟨c0,c1,kr⟩:=id ko;go_wp2_with fail
 refine(HP.out w1).mono ?_;intro e w2 h2;obtain⟨A4,c4,rfl,hc4,qY,hb2⟩:=h2;have sU:=ah qY.1;have ht2:=ko.below hb2 aj;have HB2:=ah (hb1.trans (hb2.mono hb1.size));generalize hm:xs.length=m at*;clear c0 c1 kr ko hb1 hb2 qY;obtain⟨c0,c1,kr⟩:=id ht2;go_wp2_with fail
 refine(HF.out _ _ _).mono ?_;rintro e w3 ⟨rfl,hb3⟩;have dY:Below w2.heap.size w2 w3:=(aG.alloc aj _).trans (hb3.mono (by simp))
 have ht3:=ht2.below dY aj;have z8:Hid (aC w3 A4 m xs):=sU.out.below dY aj;have HB3:=ah (HB2.out.trans (dY.mono HB2.out.size));clear c0 c1 kr ht2 hb3 dY sU HB2;obtain⟨c0,c1,kr⟩:=id ht3;cases V
 .go_wp2_with fail
  go_ret;exact⟨by rw[Bv.out (by trivial)];rfl,HB3.out⟩
 .go_wp2_with fail
  refine(HR.out _).mono ?_;rintro e w4 ⟨rfl,rfl⟩;have hRR:=zh.out (by trivial)
  have Xg:=GZ.out (by trivial)
  have hS:=mg (b:= { data:= #[99,97,115,99,97,100,101,115] }) (B:=wC) (fun A n c i s w hx hi=>Bp A n c i s w hx hi) A4 m c4 xs w3 z8.out
  have hz:=kF (wC xs) xs.length;rw[hm] at hS hz;generalize aY (wC xs) m=z at*;have Q6:=ah hS;clear hS;go_wp2_with fail
  refine Q6.out.mono ?_;rintro e w4 ⟨rfl,hb4⟩;go_wp2_with fail
  refine(kH z hz.1 (by omega) w4).mono ?_
  rintro e w5 ⟨rfl,rfl⟩;go_wp2_with fail
  go_ret;exact⟨by rw[hRR];rfl,HB3.out.trans (hb4.mono HB3.out.size)⟩
theorem La:Au ([115,116,114,105,99,116] :List UInt8) 16 (fun s=>Lib.itoa (aY (kU false s) s.length)):=by
 intro l t w hl hs;have ht:t.length<=1073741824:=by
  have:=gG 32 l t (by rw[hs];simp)
  omega
 have HS:Hid (Calls Tryz.prog 24 #[.string ⟨⟨l⟩⟩,.int .u8 32] w (dH w [([115,116,114,105,99,116] :List UInt8),t])):=by
  have:=dI l 32 w hl;rw[hs] at this;exact this
 have HP:=ah (fun w=>fE t w ht)
 have Bv:=ah (@gH 16 (fun s=>Lib.itoa (aY (kU false s) s.length)) t)
 have zh:=ah (@jJ (fun s=>Lib.itoa (aY (kU false s) s.length)) t)
 generalize dL 16 (fun s=>Lib.itoa (aY (kU false s) s.length)) t=R at*
 have GZ:Hid (aF (aX t)=true->fF (aX t)/\(aX t).length<=16):=ah (fun h=>⟨d9 h,((bn _).1 h).1⟩)
 generalize hxs:aX t=xs at*;generalize hV:aF xs=V at*;have HF:=ah (fun A c w=>ny (b:= { data:= #[115,116,114,105,99,116] }) (B:=kU false) (fun A n c i s w hx hi=>Bq A n c i s w hx hi) A c w)
 have HR:Hid (∀w,Calls Tryz.prog 27 #[.string { data:= #[115,116,114,105,99,116] }] w fun e w'=>e=.returned (.bool false)/\w=w'):=ah (fun w=>fZ { data:= #[115,116,114,105,99,116] } w)
 clear hs ht hl hxs hV;go_enter Tryz.func12,Tryz.ntmps12;go_wp2_with fail
 refine HS.out.mono ?_;intro e w1 h1;obtain⟨b,off,c,rfl,hc,ko,hb1⟩:=h1.two;rw[show(⟨⟨([115,116,114,105,99,116] :List UInt8)⟩⟩:ByteArray)= { data:= #[115,116,114,105,99,116] } from rfl] at ko
 obtain⟨c0,c1,kr⟩:=id ko;go_wp2_with fail
 refine(HP.out w1).mono ?_;intro e w2 h2;obtain⟨A4,c4,rfl,hc4,qY,hb2⟩:=h2;have sU:=ah qY.1;have ht2:=ko.below hb2 aj;have HB2:=ah (hb1.trans (hb2.mono hb1.size));generalize hm:xs.length=m at*;clear c0 c1 kr ko hb1 hb2 qY;obtain⟨c0,c1,kr⟩:=id ht2;go_wp2_with fail
 refine(HF.out _ _ _).mono ?_;rintro e w3 ⟨rfl,hb3⟩;have dY:Below w2.heap.size w2 w3:=(aG.alloc aj _).trans (hb3.mono (by simp))
 have ht3:=ht2.below dY aj;have z8:Hid (aC w3 A4 m xs):=sU.out.below dY aj;have HB3:=ah (HB2.out.trans (dY.mono HB2.out.size));clear c0 c1 kr ht2 hb3 dY sU HB2;obtain⟨c0,c1,kr⟩:=id ht3;cases V
 .go_wp2_with fail
  go_ret;exact⟨by rw[Bv.out (by trivial)];rfl,HB3.out⟩
 .go_wp2_with fail
  refine(HR.out _).mono ?_;rintro e w4 ⟨rfl,rfl⟩;have hRR:=zh.out (by trivial)
  have Xg:=GZ.out (by trivial)
  have hS:=mg (b:= { data:= #[115,116,114,105,99,116] }) (B:=kU false) (fun A n c i s w hx hi=>Bq A n c i s w hx hi) A4 m c4 xs w3 z8.out
  have hz:=kF (kU false xs) xs.length;rw[hm] at hS hz;generalize aY (kU false xs) m=z at*;have Q6:=ah hS;clear hS;go_wp2_with fail
  refine Q6.out.mono ?_;rintro e w4 ⟨rfl,hb4⟩;go_wp2_with fail
  refine(kH z hz.1 (by omega) w4).mono ?_
  rintro e w5 ⟨rfl,rfl⟩;go_wp2_with fail
  go_ret;exact⟨by rw[hRR];rfl,HB3.out.trans (hb4.mono HB3.out.size)⟩
theorem FK:Au ([114,105,103,111,114,111,117,115] :List UInt8) 16 (fun s=>Lib.itoa (aY (kU true s) s.length)):=by
 intro l t w hl hs;have ht:t.length<=1073741824:=by
  have:=gG 32 l t (by rw[hs];simp)
  omega
 have HS:Hid (Calls Tryz.prog 24 #[.string ⟨⟨l⟩⟩,.int .u8 32] w (dH w [([114,105,103,111,114,111,117,115] :List UInt8),t])):=by
  have:=dI l 32 w hl;rw[hs] at this;exact this
 have HP:=ah (fun w=>fE t w ht)
 have Bv:=ah (@gH 16 (fun s=>Lib.itoa (aY (kU true s) s.length)) t)
 have zh:=ah (@jJ (fun s=>Lib.itoa (aY (kU true s) s.length)) t)
 generalize dL 16 (fun s=>Lib.itoa (aY (kU true s) s.length)) t=R at*
 have GZ:Hid (aF (aX t)=true->fF (aX t)/\(aX t).length<=16):=ah (fun h=>⟨d9 h,((bn _).1 h).1⟩)
 generalize hxs:aX t=xs at*;generalize hV:aF xs=V at*;have HF:=ah (fun A c w=>ny (b:= { data:= #[114,105,103,111,114,111,117,115] }) (B:=kU true) (fun A n c i s w hx hi=>Br A n c i s w hx hi) A c w)
 have HR:Hid (∀w,Calls Tryz.prog 27 #[.string { data:= #[114,105,103,111,114,111,117,115] }] w fun e w'=>e=.returned (.bool false)/\w=w'):=ah (fun w=>fZ { data:= #[114,105,103,111,114,111,117,115] } w)
 clear hs ht hl hxs hV;go_enter Tryz.func12,Tryz.ntmps12;go_wp2_with fail
 refine HS.out.mono ?_;intro e w1 h1;obtain⟨b,off,c,rfl,hc,ko,hb1⟩:=h1.two;rw[show(⟨⟨([114,105,103,111,114,111,117,115] :List UInt8)⟩⟩:ByteArray)= { data:= #[114,105,103,111,114,111,117,115] } from rfl] at ko
 obtain⟨c0,c1,kr⟩:=id ko;go_wp2_with fail
 refine(HP.out w1).mono ?_;intro e w2 h2;obtain⟨A4,c4,rfl,hc4,qY,hb2⟩:=h2;have sU:=ah qY.1;have ht2:=ko.below hb2 aj;have HB2:=ah (hb1.trans (hb2.mono hb1.size));generalize hm:xs.length=m at*;clear c0 c1 kr ko hb1 hb2 qY;obtain⟨c0,c1,kr⟩:=id ht2;go_wp2_with fail
 refine(HF.out _ _ _).mono ?_;rintro e w3 ⟨rfl,hb3⟩;have dY:Below w2.heap.size w2 w3:=(aG.alloc aj _).trans (hb3.mono (by simp))
 have ht3:=ht2.below dY aj;have z8:Hid (aC w3 A4 m xs):=sU.out.below dY aj;have HB3:=ah (HB2.out.trans (dY.mono HB2.out.size));clear c0 c1 kr ht2 hb3 dY sU HB2;obtain⟨c0,c1,kr⟩:=id ht3;cases V
 .go_wp2_with fail
  go_ret;exact⟨by rw[Bv.out (by trivial)];rfl,HB3.out⟩
 .go_wp2_with fail
  refine(HR.out _).mono ?_;rintro e w4 ⟨rfl,rfl⟩;have hRR:=zh.out (by trivial)
  have Xg:=GZ.out (by trivial)
  have hS:=mg (b:= { data:= #[114,105,103,111,114,111,117,115] }) (B:=kU true) (fun A n c i s w hx hi=>Br A n c i s w hx hi) A4 m c4 xs w3 z8.out
  have hz:=kF (kU true xs) xs.length;rw[hm] at hS hz;generalize aY (kU true xs) m=z at*;have Q6:=ah hS;clear hS;go_wp2_with fail
  refine Q6.out.mono ?_;rintro e w4 ⟨rfl,hb4⟩;go_wp2_with fail
  refine(kH z hz.1 (by omega) w4).mono ?_
  rintro e w5 ⟨rfl,rfl⟩;go_wp2_with fail
  go_ret;exact⟨by rw[hRR];rfl,HB3.out.trans (hb4.mono HB3.out.size)⟩
theorem Jl:Au ([99,111,109,109,105,116,115] :List UInt8) 16 (fun s=>Lib.itoa (aY (wD s) s.length)):=by
 intro l t w hl hs;have ht:t.length<=1073741824:=by
  have:=gG 32 l t (by rw[hs];simp)
  omega
 have HS:Hid (Calls Tryz.prog 24 #[.string ⟨⟨l⟩⟩,.int .u8 32] w (dH w [([99,111,109,109,105,116,115] :List UInt8),t])):=by
  have:=dI l 32 w hl;rw[hs] at this;exact this
 have HP:=ah (fun w=>fE t w ht)
 have Bv:=ah (@gH 16 (fun s=>Lib.itoa (aY (wD s) s.length)) t)
 have zh:=ah (@jJ (fun s=>Lib.itoa (aY (wD s) s.length)) t)
 generalize dL 16 (fun s=>Lib.itoa (aY (wD s) s.length)) t=R at*
 have GZ:Hid (aF (aX t)=true->fF (aX t)/\(aX t).length<=16):=ah (fun h=>⟨d9 h,((bn _).1 h).1⟩)
 generalize hxs:aX t=xs at*;generalize hV:aF xs=V at*;have HF:=ah (fun A c w=>ny (b:= { data:= #[99,111,109,109,105,116,115] }) (B:=wD) (fun A n c i s w hx hi=>Bt A n c i s w hx hi) A c w)
 have HR:Hid (∀w,Calls Tryz.prog 27 #[.string { data:= #[99,111,109,109,105,116,115] }] w fun e w'=>e=.returned (.bool false)/\w=w'):=ah (fun w=>fZ { data:= #[99,111,109,109,105,116,115] } w)
 clear hs ht hl hxs hV;go_enter Tryz.func12,Tryz.ntmps12;go_wp2_with fail
 refine HS.out.mono ?_;intro e w1 h1;obtain⟨b,off,c,rfl,hc,ko,hb1⟩:=h1.two;rw[show(⟨⟨([99,111,109,109,105,116,115] :List UInt8)⟩⟩:ByteArray)= { data:= #[99,111,109,109,105,116,115] } from rfl] at ko
 obtain⟨c0,c1,kr⟩:=id ko;go_wp2_with fail
 refine(HP.out w1).mono ?_;intro e w2 h2;obtain⟨A4,c4,rfl,hc4,qY,hb2⟩:=h2;have sU:=ah qY.1;have ht2:=ko.below hb2 aj;have HB2:=ah (hb1.trans (hb2.mono hb1.size));generalize hm:xs.length=m at*;clear c0 c1 kr ko hb1 hb2 qY;obtain⟨c0,c1,kr⟩:=id ht2;go_wp2_with fail
 refine(HF.out _ _ _).mono ?_;rintro e w3 ⟨rfl,hb3⟩;have dY:Below w2.heap.size w2 w3:=(aG.alloc aj _).trans (hb3.mono (by simp))
 have ht3:=ht2.below dY aj;have z8:Hid (aC w3 A4 m xs):=sU.out.below dY aj;have HB3:=ah (HB2.out.trans (dY.mono HB2.out.size));clear c0 c1 kr ht2 hb3 dY sU HB2;obtain⟨c0,c1,kr⟩:=id ht3;cases V
 .go_wp2_with fail
  go_ret;exact⟨by rw[Bv.out (by trivial)];rfl,HB3.out⟩
 .go_wp2_with fail
  refine(HR.out _).mono ?_;rintro e w4 ⟨rfl,rfl⟩;have hRR:=zh.out (by trivial)
  have Xg:=GZ.out (by trivial)
  have hS:=mg (b:= { data:= #[99,111,109,109,105,116,115] }) (B:=wD) (fun A n c i s w hx hi=>Bt A n c i s w hx hi) A4 m c4 xs w3 z8.out
  have hz:=kF (wD xs) xs.length;rw[hm] at hS hz;generalize aY (wD xs) m=z at*;have Q6:=ah hS;clear hS;go_wp2_with fail
  refine Q6.out.mono ?_;rintro e w4 ⟨rfl,hb4⟩;go_wp2_with fail
  refine(kH z hz.1 (by omega) w4).mono ?_
  rintro e w5 ⟨rfl,rfl⟩;go_wp2_with fail
  go_ret;exact⟨by rw[hRR];rfl,HB3.out.trans (hb4.mono HB3.out.size)⟩
end Go.Proofs.YtddkjbibjjehjaaGreatDoor
