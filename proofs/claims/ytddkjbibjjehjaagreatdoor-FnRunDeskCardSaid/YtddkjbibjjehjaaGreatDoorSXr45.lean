/-
  Texts that the proof rests on, joined: part 45.
-/
import Derived.Lib.Slices
import Derived.Lib.Walk
import Derived.Lib.Bytealg
import Derived.OrdersHeld
import Derived.RegionTactic
import Derived.Deep.CutRange
import Derived.Deep.RegionWith
import Derived.Test.YtddkjbibjjehjaaGreatDoorSXr5
import Derived.Test.YtddkjbibjjehjaaGreatDoorSXr41
set_option maxHeartbeats 16000000
set_option maxRecDepth 100000
namespace Go.Proofs.YtddkjbibjjehjaaGreatDoor
open Go.RowKit
set_option linter.unusedVariables false
theorem wV (s:ByteArray)(c:Int)(w:World):
 Calls Tryz.prog 140 #[.string s,.int .u8 c] w fun e w'=>e=.returned (.int .i64 (Lib.indexByte s.data.toList c.toNat.toUInt8))/\w'=w:=by
 go_enter Tryz.func140,Tryz.ntmps140;go_wp2
 rw[run_callFunc_extern Tryz.func171 (by kernel_rfl) (by kernel_rfl) (by kernel_rfl) (e:=Extern.BytealgIndexByte.indexByte) (by kernel_rfl),Lib.run_indexByteString]
 simp only[Result.andThen];rw[Oper.upon_value];go_wp2
 go_ret;exact⟨rfl,rfl⟩
theorem wW (s:ByteArray)(c:Int)(w:World):
 Calls Tryz.prog 170 #[.string s,.int .u8 c] w fun e w'=>e=.returned (.int .i64 (Lib.indexByte s.data.toList c.toNat.toUInt8))/\w'=w:=by
 go_enter Tryz.func170,Tryz.ntmps170;go_wp2_with (go_at_call 140;refine(wV _ _ _).mono ?_;rintro e w' ⟨rfl,rfl⟩)
 go_ret;exact⟨rfl,rfl⟩
theorem wX (s:ByteArray)(c:UInt8)(w:World):
 Calls Tryz.prog 99 #[.string s,.string ⟨#[c]⟩] w fun e w'=>e=.returned (.int .i64 (Lib.indexByte s.data.toList c))/\w'=w:=by
 go_enter Tryz.func99,Tryz.ntmps99;go_wp2_with (go_at_call 140;refine(wV _ _ _).mono ?_;rintro e w' ⟨rfl,rfl⟩)
 .have h:([c] ==s.toList)=true:=by assumption
  go_ret;refine⟨?_,rfl⟩;have e:s.data.toList= [c] :=by rw[<-Lib.toList_data];exact(beq_iff_eq.1 h).symm
  rw[e];simp[Lib.indexByte]
 .go_ret;exact⟨rfl,rfl⟩
theorem G9 (s:ByteArray)(c:UInt8)(w:World):
 Calls Tryz.prog 81 #[.string s,.string ⟨#[c]⟩] w fun e w'=>e=.returned (.int .i64 (Lib.indexByte s.data.toList c))/\w'=w:=by
 go_enter Tryz.func81,Tryz.ntmps81;go_wp2_with (go_at_call 99;refine(wX _ _ _).mono ?_;rintro e w' ⟨rfl,rfl⟩)
 go_ret;exact⟨rfl,rfl⟩
theorem zm (s:ByteArray)(c:UInt8)(w:World):
 Calls Tryz.prog 42 #[.string s,.string ⟨#[c]⟩] w fun e w'=>e=.returned (.bool (decide (0<=Lib.indexByte s.data.toList c)))/\w'=w:=by
 go_enter Tryz.func42,Tryz.ntmps42;go_wp2_with (go_at_call 81;refine(G9 _ _ _).mono ?_;rintro e w' ⟨rfl,rfl⟩)
 go_ret;exact⟨rfl,rfl⟩
section
variable {P:Program} {md:Region.Mode} {ops:Array Oper} {Q:Exit->Act->World->Prop} {S:World->Prop}
def fJ (P:Program)(md:Region.Mode)(ops:Array Oper)(Q:Exit->Act->World->Prop)(S:World->Prop)(fuel:Nat)(listed:Array Bool)(a:Act)(w:World)(rs:List Nat):Prop:=
 ∀i∈rs,wpOp P ops Q i (fun a' w'=>S w'/\wpAnyH P md ops Q S fuel (listed.setIfInBounds i true) a' w') a w
theorem fJ.nil {fuel:Nat}{listed:Array Bool}{a:Act}{w:World} :fJ P md ops Q S fuel listed a w [] :=fun _ h=>by cases h
theorem fJ.cons {fuel:Nat}{listed:Array Bool}{a:Act}{w:World}{i:Nat}{o:Oper}{rs:List Nat}(ho:ops[i]? =some o)
 (h: ∀K':Act->World->Prop,(∀a w,S w->wpAnyH P md ops Q S fuel (listed.setIfInBounds i true) a w->K' a w)->if Region.wanted o (yielded ops a.tmps)=true then Oper.wp P o a w K' Q else K' (a.put o.dst undef) w)
 (hs:fJ P md ops Q S fuel listed a w rs):fJ P md ops Q S fuel listed a w (i::rs):=fun j hj=>by
 rcases List.mem_cons.1 hj with rfl|hj
 .exact wpOp_step ho fun K' hK=>h K' fun a w hs hh=>hK a w ⟨hs,hh⟩
 .exact hs j hj
theorem qy {rs:List Nat}{fuel:Nat}{listed:Array Bool}{a:Act}{w:World}(hr:Region.ready md ops listed=rs)(hne:rs≠ [])
 (h:fJ P md ops Q S fuel listed a w rs):wpAnyH P md ops Q S (fuel+1) listed a w:=wpAnyH_all hr hne h
end
open Go.RowKit Go.BigFrame
def Bz (l:List UInt8)(w:World)(e:Ending)(w':World):Prop:=
 ∃o:ay,e=.returned (.tuple #[o.val,.bool (F3 l)])/\(F3 l=true->o=Jw l)/\Below w.heap.size w w'
theorem xV (l:List UInt8)(hl:l.length<2\/3<l.length)(w:World):Calls Tryz.prog 132 #[.string ⟨⟨l⟩⟩] w (Bz l w):=by
 have hok:F3 l=false:=by
  unfold F3;rcases hl with h|h
  .simp[show ¬ 2<=l.length by omega]
  .simp[show ¬ l.length<=3 by omega]
 have HW:=ah (rz (l.length:Int) 2 3);have hin:xW (l.length:Int) 2 3=false:=by
  unfold xW;rcases hl with h|h
  .simp;omega
  .simp;omega
 rw[hin] at HW;have hsz:(⟨⟨l⟩⟩:ByteArray).size=l.length:=rfl;have HR:Hid (∀w',Below w.heap.size w w'->Bz l w (.returned (.tuple #[.agg #[.int .i64 0,.int .i64 0,.int .i64 0],.bool false])) w'):=fun w' h=>
  ⟨⟨0,0,0⟩,by rw[hok];rfl,(fun hh=>by rw[hok] at hh;cases hh),h⟩
 obtain⟨n,hn⟩: ∃n,l.length=n:=⟨_,rfl⟩;rw[hn] at HW hsz;obtain⟨s,hs⟩: ∃s:ByteArray,s=⟨⟨l⟩⟩:=⟨_,rfl⟩;rw[<-hs] at hsz ⊢;clear hl hok hin hn hs;go_enter Tryz.func132,Tryz.ntmps132;go_wp2_with (go_at_call 169;refine(HW.out _).mono ?_;rintro e w1 ⟨rfl,rfl⟩)
 refine bodyPost_ret (v:=.tuple #[.agg #[.int .i64 0,.int .i64 0,.int .i64 0],.bool false]) (by simp[results,Tryz.results132,go_sem]) rfl ?_
 exact HR.out _ (by(repeat(first|exact Below.refl _ _|assumption|refine aZ ?_ aj _|refine Below.drew ?_|refine bE ?_ _|refine bD (by assumption) ?_|(refine dF ?_ ?_;rotate_left; (first|exact Nat.le_refl _|(simp;done)|(simp at*;omega))))))
def zn (w W:World)(a b c a' b' c':Int):Prop:=au W w.heap.size 89 (tH a b c)/\au W (w.heap.size+1) 89 (tH a' b' c')/\Below w.heap.size w W
theorem Lf {w W:World}{a b c a' b' c':Int}(hW:W=((w.alloc (.cells #[.int .i64 a,.int .i64 b,.int .i64 c] 89)).alloc (.cells #[.int .i64 a',.int .i64 b',.int .i64 c'] 89)).drew):zn w W a b c a' b' c':=by
 have at_: ∀ (v:World) (H:Nat) (x y z:Int),v.heap.size=H->au (v.alloc (.cells #[.int .i64 x,.int .i64 y,.int .i64 z] 89)) H 89 (tH x y z):=fun v H x y z h=>by subst h;exact heap_alloc_new v _
 subst hW;have h0:=au.alloc (at_ w _ a b c rfl) (.cells #[.int .i64 a',.int .i64 b',.int .i64 c'] 89);have h1:=at_ (w.alloc (.cells #[.int .i64 a,.int .i64 b,.int .i64 c] 89)) (w.heap.size+1) a' b' c' (by simp)
 refine⟨h0,h1,?_⟩;exact Below.drew (((Below.refl _ w).alloc aj _).alloc (by simp) _)
def ru (w:World)(tx kd it:Int)(u:World):Prop:=au u (w.heap.size+1) 89 (tH tx kd it)/\(∃a b c,au u w.heap.size 89 (tH a b c))/\Below w.heap.size w u
theorem ru.below {w u u':World}{tx kd it:Int}(h:ru w tx kd it u)(hb:Below u.heap.size u u'):ru w tx kd it u':=by
 obtain⟨h1,⟨a,b,c,h2⟩,h3⟩:=h;exact⟨h1.below hb aj,⟨a,b,c,h2.below hb aj⟩,h3.trans (hb.mono h3.size)⟩
theorem ru.cells {w u:World}{tx kd it:Int}(h:ru w tx kd it u):u.cell? ⟨w.heap.size+1,0,none⟩=some (.int .i64 tx)/\u.cell? ⟨w.heap.size+1,1,none⟩=some (.int .i64 kd)/\u.cell? ⟨w.heap.size+1,2,none⟩=some (.int .i64 it):=by
 obtain⟨a,b,c,_⟩:=fD h.1;exact⟨a,b,c⟩
theorem ru.other {w u:World}{tx kd it:Int}(h:ru w tx kd it u):(∃a b c:Int,u.cell? ⟨w.heap.size,0,none⟩=some (.int .i64 a)/\u.cell? ⟨w.heap.size,1,none⟩=some (.int .i64 b)/\u.cell? ⟨w.heap.size,2,none⟩=some (.int .i64 c))/\u.frozen? ⟨w.heap.size,0,none⟩=false/\u.frozen? ⟨w.heap.size,1,none⟩=false/\u.frozen? ⟨w.heap.size,2,none⟩=false:=by
 obtain⟨_,⟨a,b,c,h2⟩,_⟩:=h;obtain⟨e0,e1,e2,e3,e4,e5⟩:=fD h2;exact⟨⟨a,b,c,e0,e1,e2⟩,e3,e4,e5⟩
theorem ru.store {w u:World}{tx kd it:Int}(h:ru w tx kd it u):ru w tx kd it (((u.setCell ⟨w.heap.size,0,none⟩ (.int .i64 tx)).setCell ⟨w.heap.size,1,none⟩ (.int .i64 kd)).setCell ⟨w.heap.size,2,none⟩ (.int .i64 it)):=by
 obtain⟨h1,⟨a,b,c,h2⟩,h3⟩:=h;refine⟨?_,⟨tx,kd,it,((h2.set 0 _).set 1 _).set 2 _⟩,((h3.setCell (p:=⟨w.heap.size,0,none⟩) aj _).setCell (p:=⟨w.heap.size,1,none⟩) aj _).setCell (p:=⟨w.heap.size,2,none⟩) aj _⟩;exact(Below.heap_setCell _ _ _ _ (by simp)).trans ((Below.heap_setCell _ _ _ _ (by simp)).trans ((Below.heap_setCell _ _ _ _ (by simp)).trans h1))
theorem NP (a b:UInt8)(w:World):Calls Tryz.prog 132 #[.string ⟨⟨[a,b]⟩⟩] w (Bz [a,b] w):=by
 have HW:=ah (rz 2 2 3);rw[show xW 2 2 3=true from rfl] at HW
 obtain⟨s,hs⟩: ∃s:ByteArray,s=⟨⟨[a,b]⟩⟩:=⟨_,rfl⟩;have e0: ∀h,s[0]'h=a:=by subst hs;exact fun _=>rfl
 have e1: ∀h,s[1]'h=b:=by subst hs;exact fun _=>rfl
 skip;have hsz:s.size=2:=by subst hs;rfl
 have HI:Hid (∀ (s:ByteArray) (c:UInt8) (w:World),Calls Tryz.prog 170 #[.string s,.int .u8 (c.toNat:Int)] w fun e w'=>e=.returned (.int .i64 (Lib.indexByte s.data.toList c))/\w'=w):=fun s c w=>by
  have:=wW s (c.toNat:Int) w
  rwa [Int.toNat_natCast,Nat.toUInt8,UInt8.ofNat_toNat] at this
 have hrd:Jw [a,b] =⟨Lib.indexByte RH b,Lib.indexByte R9 a,0⟩:=rfl;have hok:F3 [a,b] =(aJ (Jw [a,b]) &&pF (Jw [a,b])== [a,b]):=by unfold F3;simp
 obtain⟨tx,htx⟩: ∃z,Lib.indexByte RH b=z:=⟨_,rfl⟩;obtain⟨kd,hkd⟩: ∃z,Lib.indexByte R9 a=z:=⟨_,rfl⟩;skip;rw[htx,hkd] at hrd;rw[hrd] at hok;have HV:=ah (uX ⟨tx,kd,0⟩);have HT0:=fun(h:aJ ⟨tx,kd,0⟩=true) (w:World)=>Dr h w
 unfold ay.val at HV;simp only[ay.val] at HT0;obtain⟨V,hV⟩: ∃z,aJ ⟨tx,kd,0⟩=z:=⟨_,rfl⟩;obtain⟨tl,htl⟩: ∃z,pF ⟨tx,kd,0⟩=z:=⟨_,rfl⟩;rw[hV,htl] at hok;rw[hV] at HV;simp only[hV,htl] at HT0;obtain⟨T,hT⟩: ∃T:ByteArray,T=⟨⟨tl⟩⟩:=⟨_,rfl⟩;unfold dw at HT0;rw[<-hT] at HT0;have HT:=ah HT0;have hTs:(T.toList==s.toList)=(tl== [a,b]):=by rw[Lib.toList_data,Lib.toList_data,hT,hs]
 have qo:Hid (∀ (q:Bool) (w':World),q=(V&& (T.toList==s.toList))->Below w.heap.size w w'->Bz [a,b] w (.returned (.tuple #[.agg #[.int .i64 tx,.int .i64 kd,.int .i64 0],.bool q])) w'):=fun q w' hq hb=>
  ⟨⟨tx,kd,0⟩,by rw[hok,hq,hTs];rfl,(fun _=>hrd.symm),hb⟩
 have jX:Hid (zn w (((w.alloc (.cells #[.int .i64 0,.int .i64 0,.int .i64 0] 89)).alloc (.cells #[.int .i64 tx,.int .i64 kd,.int .i64 0] 89)).drew) 0 0 0 tx kd 0):=Lf rfl;unfold R9 at hkd;unfold RH at htx;skip;rw[<-hs];clear hok hrd hV htl HT0 hT hTs hs;go_enter Tryz.func132,Tryz.ntmps132
 go_upto_region 3 with(go_at_call 169;refine(HW.out _).mono ?_;rintro e w1 ⟨rfl,rfl⟩)
 go_cut [4] from 10 to 16 (fun v wx=> ∃w6:World,v=.pointer (some ⟨w.heap.size+1,0,none⟩)/\w6=wx/\Hid (zn w w6 0 0 0 tx kd 0))
 case first J1 K1 ZE hK1=>
  refine wp_region_any (by kernel_rfl) ?_
  change wpAny _ _ _ _ _ _ _ (World.drew _);refine bH 0 ?_;refine bH 1 ?_;refine bH 3 ?_;refine bH 4 ?_;refine uW 2 7 (fun K hK=>?_) fun K hK=>?_
  .skip;go_simp;go_wp2_with (go_at_call 170;refine(HI.out _ _ _).mono ?_;rintro e wq ⟨rfl,rfl⟩)
   try(refine hK _ _ ?_;clear hK K)
   refine uW 5 7 (fun K hK=>?_) fun K hK=>?_
   .skip;go_simp;go_wp2_with (go_at_call 170;refine(HI.out _ _ _).mono ?_;rintro e wq ⟨rfl,rfl⟩)
    try(refine hK _ _ ?_;clear hK K)
    refine bH 6 ?_;refine cK 7 fun K hK=>?_
    go_simp;try(refine hK _ _ ?_;clear hK K)
    refine cK 8 fun K hK=>?_
    go_simp;try(refine hK _ _ ?_;clear hK K)
    refine bM ?_;try go_simp
    refine hK1 _ _ (Met.intro (ZE _ _ ?_))
    (repeat apply Exists.intro)
    refine⟨?_,rfl⟩;exact⟨_,rfl,rfl,jX⟩
   .skip;go_simp;try(refine hK _ _ ?_;clear hK K)
    refine cK 5 fun K hK=>?_
    go_simp;go_wp2_with (go_at_call 170;refine(HI.out _ _ _).mono ?_;rintro e wq ⟨rfl,rfl⟩)
    try(refine hK _ _ ?_;clear hK K)
    refine bH 6 ?_;refine cK 8 fun K hK=>?_
    go_simp;try(refine hK _ _ ?_;clear hK K)
    refine bM ?_;try go_simp
    refine hK1 _ _ (Met.intro (ZE _ _ ?_))
    (repeat apply Exists.intro)
    refine⟨?_,rfl⟩;exact⟨_,rfl,rfl,jX⟩
  .skip;go_simp;try(refine hK _ _ ?_;clear hK K)
   refine cK 2 fun K hK=>?_
   go_simp;go_wp2_with (go_at_call 170;refine(HI.out _ _ _).mono ?_;rintro e wq ⟨rfl,rfl⟩)
   try(refine hK _ _ ?_;clear hK K)
   refine cK 5 fun K hK=>?_
   go_simp;go_wp2_with (go_at_call 170;refine(HI.out _ _ _).mono ?_;rintro e wq ⟨rfl,rfl⟩)
   try(refine hK _ _ ?_;clear hK K)
   refine bH 6 ?_;refine cK 8 fun K hK=>?_
   go_simp;try(refine hK _ _ ?_;clear hK K)
   refine bM ?_;try go_simp
   refine hK1 _ _ (Met.intro (ZE _ _ ?_))
   (repeat apply Exists.intro)
   refine⟨?_,rfl⟩;exact⟨_,rfl,rfl,jX⟩
 obtain⟨w6,rfl,rfl,Zc⟩:=hcut;have uy:=Zc.out;obtain⟨r0,r1,hbW⟩:=uy;obtain⟨W,hW⟩: ∃W:World,W=w6:=⟨_,rfl⟩;subst hW;clear Zc jX;go_wp2_with fail
 obtain⟨wd,hwd⟩: ∃wd:World,wd=W.drew:=⟨_,rfl⟩;have hS:ru w tx kd 0 wd:=by
  rw[hwd];exact⟨r1,⟨0,0,0,r0⟩,hbW.drew⟩
 have lY:=ah hwd;have HF2:=qo;clear hwd r0 r1 hbW qo;cases V
 .skip;refine wp_region_held (S:=ru w tx kd 0) (by kernel_rfl) ?_
  change wpAnyH _ _ _ _ _ _ _ _ (World.drew _);rw[<-lY.out];refine wpAnyH_take (i:=0) (v:=?_) rfl (by kernel_rfl) (by kernel_rfl) (by kernel_rfl) (fun _ _ _ h=>h) (Or.inl ⟨by kernel_rfl,?_⟩) hS ?_
  rotate_left
  .intro u hu;obtain⟨c0,c1,c2⟩:=ru.cells hu;go_simp;try with_reducible rfl
  refine wpAnyH_take (i:=1) (v:=?_) rfl (by kernel_rfl) (by kernel_rfl) (by kernel_rfl) (fun _ _ _ h=>h) (Or.inl ⟨by kernel_rfl,?_⟩) hS ?_
  rotate_left
  .intro u hu;obtain⟨c0,c1,c2⟩:=ru.cells hu;go_simp;try with_reducible rfl
  refine qy (rs:= [2]) (by kernel_rfl) (by simp) ?_
  refine fJ.cons rfl (fun K hK=>?_) (fJ.nil)
  go_simp;go_wp2_with (go_at_call 145;refine(HV.out _).mono ?_;rintro e w2 ⟨rfl,hb2⟩;have hS2:=ru.below hS hb2;clear hb2)
  refine hK _ _ hS2 ?_;clear hK K hS;have hS:=hS2;clear hS2;refine wpAnyH_take (i:=3) (v:=?_) rfl (by kernel_rfl) (by kernel_rfl) (by kernel_rfl) (fun _ _ _ h=>h) (Or.inl ⟨by kernel_rfl,?_⟩) hS ?_
  rotate_left
  .intro w _;go_simp;try with_reducible rfl
  refine wpAnyH_take (i:=4) (v:=undef) rfl (by kernel_rfl) (by kernel_rfl) (by kernel_rfl) (fun _ _ _ h=>h) (Or.inr ⟨by kernel_rfl,rfl⟩) hS ?_
  refine wpAnyH_take (i:=5) (v:=undef) rfl (by kernel_rfl) (by kernel_rfl) (by kernel_rfl) (fun _ _ _ h=>h) (Or.inr ⟨by kernel_rfl,rfl⟩) hS ?_
  refine wpAnyH_take (i:=6) (v:=undef) rfl (by kernel_rfl) (by kernel_rfl) (by kernel_rfl) (fun _ _ _ h=>h) (Or.inr ⟨by kernel_rfl,rfl⟩) hS ?_
  refine wpAnyH_take (i:=7) (v:=undef) rfl (by kernel_rfl) (by kernel_rfl) (by kernel_rfl) (fun _ _ _ h=>h) (Or.inr ⟨by kernel_rfl,rfl⟩) hS ?_
  refine wpAnyH_take (i:=8) (v:=?_) rfl (by kernel_rfl) (by kernel_rfl) (by kernel_rfl) (fun _ _ _ h=>h) (Or.inl ⟨by kernel_rfl,?_⟩) hS ?_
  rotate_left
  .intro w _;go_simp;try with_reducible rfl
  obtain⟨⟨za,zb,zc,z0,z1,z2⟩,y0,y1,y2⟩:=ru.other hS;refine qy (rs:= [9]) (by kernel_rfl) (by simp) ?_
  refine fJ.cons rfl (fun K hK=>?_) (fJ.nil)
  go_simp;try go_wp2_with fail
  have hS2:=ru.store (tx:=tx) (kd:=kd) (it:=0) hS;refine hK _ _ hS2 ?_;clear hK K hS;have hS:=hS2;clear hS2;refine wpAnyH_take (i:=10) (v:=?_) rfl (by kernel_rfl) (by kernel_rfl) (by kernel_rfl) (fun _ _ _ h=>h) (Or.inl ⟨by kernel_rfl,?_⟩) hS ?_
  rotate_left
  .intro w _;go_simp;try with_reducible rfl
  refine wpAnyH_done (by kernel_rfl) ?_ _
  try go_simp
  go_wp2_with fail
  refine bodyPost_ret (v:=.tuple #[.agg #[.int .i64 tx,.int .i64 kd,.int .i64 0],.bool (false)]) (by simp[results,Tryz.results132,go_sem,z0,z1,z2]) rfl ?_
  exact HF2.out _ _ rfl hS.2.2
 .skip;refine wp_region_held (S:=ru w tx kd 0) (by kernel_rfl) ?_
  change wpAnyH _ _ _ _ _ _ _ _ (World.drew _);rw[<-lY.out];refine wpAnyH_take (i:=0) (v:=?_) rfl (by kernel_rfl) (by kernel_rfl) (by kernel_rfl) (fun _ _ _ h=>h) (Or.inl ⟨by kernel_rfl,?_⟩) hS ?_
  rotate_left
  .intro u hu;obtain⟨c0,c1,c2⟩:=ru.cells hu;go_simp;try with_reducible rfl
  refine wpAnyH_take (i:=1) (v:=?_) rfl (by kernel_rfl) (by kernel_rfl) (by kernel_rfl) (fun _ _ _ h=>h) (Or.inl ⟨by kernel_rfl,?_⟩) hS ?_
  rotate_left
  .intro u hu;obtain⟨c0,c1,c2⟩:=ru.cells hu;go_simp;try with_reducible rfl
  refine qy (rs:= [2]) (by kernel_rfl) (by simp) ?_
  refine fJ.cons rfl (fun K hK=>?_) (fJ.nil)
  go_simp;go_wp2_with (go_at_call 145;refine(HV.out _).mono ?_;rintro e w2 ⟨rfl,hb2⟩;have hS2:=ru.below hS hb2;clear hb2)
  refine hK _ _ hS2 ?_;clear hK K hS;have hS:=hS2;clear hS2;refine wpAnyH_take (i:=3) (v:=?_) rfl (by kernel_rfl) (by kernel_rfl) (by kernel_rfl) (fun _ _ _ h=>h) (Or.inl ⟨by kernel_rfl,?_⟩) hS ?_
  rotate_left
  .intro w _;go_simp;try with_reducible rfl
  refine wpAnyH_take (i:=4) (v:=?_) rfl (by kernel_rfl) (by kernel_rfl) (by kernel_rfl) (fun _ _ _ h=>h) (Or.inl ⟨by kernel_rfl,?_⟩) hS ?_
  rotate_left
  .intro u hu;obtain⟨c0,c1,c2⟩:=ru.cells hu;go_simp;try with_reducible rfl
  refine wpAnyH_take (i:=6) (v:=?_) rfl (by kernel_rfl) (by kernel_rfl) (by kernel_rfl) (fun _ _ _ h=>h) (Or.inl ⟨by kernel_rfl,?_⟩) hS ?_
  rotate_left
  .intro w _;go_simp;try with_reducible rfl
  refine qy (rs:= [5]) (by kernel_rfl) (by simp) ?_
  refine fJ.cons rfl (fun K hK=>?_) (fJ.nil)
  go_simp;go_wp2_with (go_at_call 130;refine(HT.out (by trivial) _).mono ?_;rintro e w3 ⟨rfl,hb3⟩;have hS2:=ru.below hS hb3;clear hb3)
  refine hK _ _ hS2 ?_;clear hK K hS;have hS:=hS2;clear hS2;refine wpAnyH_take (i:=7) (v:=?_) rfl (by kernel_rfl) (by kernel_rfl) (by kernel_rfl) (fun _ _ _ h=>h) (Or.inl ⟨by kernel_rfl,?_⟩) hS ?_
  rotate_left
  .intro w _;go_simp;try with_reducible rfl
  refine wpAnyH_take (i:=8) (v:=?_) rfl (by kernel_rfl) (by kernel_rfl) (by kernel_rfl) (fun _ _ _ h=>h) (Or.inl ⟨by kernel_rfl,?_⟩) hS ?_
  rotate_left
  .intro w _;go_simp;try with_reducible rfl
  obtain⟨⟨za,zb,zc,z0,z1,z2⟩,y0,y1,y2⟩:=ru.other hS;refine qy (rs:= [9]) (by kernel_rfl) (by simp) ?_
  refine fJ.cons rfl (fun K hK=>?_) (fJ.nil)
  go_simp;try go_wp2_with fail
  have hS2:=ru.store (tx:=tx) (kd:=kd) (it:=0) hS;refine hK _ _ hS2 ?_;clear hK K hS;have hS:=hS2;clear hS2;refine wpAnyH_take (i:=10) (v:=?_) rfl (by kernel_rfl) (by kernel_rfl) (by kernel_rfl) (fun _ _ _ h=>h) (Or.inl ⟨by kernel_rfl,?_⟩) hS ?_
  rotate_left
  .intro w _;go_simp;try with_reducible rfl
  refine wpAnyH_done (by kernel_rfl) ?_ _
  try go_simp
  go_wp2_with fail
  refine bodyPost_ret (v:=.tuple #[.agg #[.int .i64 tx,.int .i64 kd,.int .i64 0],.bool (T.toList==s.toList)]) (by simp[results,Tryz.results132,go_sem,z0,z1,z2]) rfl ?_
  exact HF2.out _ _ rfl hS.2.2
theorem Jo (a b c:UInt8)(w:World):Calls Tryz.prog 132 #[.string ⟨⟨[a,b,c]⟩⟩] w (Bz [a,b,c] w):=by
 have HW:=ah (rz 3 2 3);rw[show xW 3 2 3=true from rfl] at HW
 obtain⟨s,hs⟩: ∃s:ByteArray,s=⟨⟨[a,b,c]⟩⟩:=⟨_,rfl⟩;have e0: ∀h,s[0]'h=a:=by subst hs;exact fun _=>rfl
 have e1: ∀h,s[1]'h=b:=by subst hs;exact fun _=>rfl
 have e2: ∀h,s[2]'h=c:=by subst hs;exact fun _=>rfl
 have hsz:s.size=3:=by subst hs;rfl
 have HI:Hid (∀ (s:ByteArray) (c:UInt8) (w:World),Calls Tryz.prog 170 #[.string s,.int .u8 (c.toNat:Int)] w fun e w'=>e=.returned (.int .i64 (Lib.indexByte s.data.toList c))/\w'=w):=fun s c w=>by
  have:=wW s (c.toNat:Int) w
  rwa [Int.toNat_natCast,Nat.toUInt8,UInt8.ofNat_toNat] at this
 have hrd:Jw [a,b,c] =⟨Lib.indexByte RH b,Lib.indexByte R9 a,Lib.indexByte Xr c⟩:=rfl;have hok:F3 [a,b,c] =(aJ (Jw [a,b,c]) &&pF (Jw [a,b,c])== [a,b,c]):=by unfold F3;simp
 obtain⟨tx,htx⟩: ∃z,Lib.indexByte RH b=z:=⟨_,rfl⟩;obtain⟨kd,hkd⟩: ∃z,Lib.indexByte R9 a=z:=⟨_,rfl⟩;obtain⟨it,hit⟩: ∃z,Lib.indexByte Xr c=z:=⟨_,rfl⟩;rw[htx,hkd,hit] at hrd;rw[hrd] at hok;have HV:=ah (uX ⟨tx,kd,it⟩);have HT0:=fun(h:aJ ⟨tx,kd,it⟩=true) (w:World)=>Dr h w
 unfold ay.val at HV;simp only[ay.val] at HT0;obtain⟨V,hV⟩: ∃z,aJ ⟨tx,kd,it⟩=z:=⟨_,rfl⟩;obtain⟨tl,htl⟩: ∃z,pF ⟨tx,kd,it⟩=z:=⟨_,rfl⟩;rw[hV,htl] at hok;rw[hV] at HV;simp only[hV,htl] at HT0;obtain⟨T,hT⟩: ∃T:ByteArray,T=⟨⟨tl⟩⟩:=⟨_,rfl⟩;unfold dw at HT0;rw[<-hT] at HT0;have HT:=ah HT0;have hTs:(T.toList==s.toList)=(tl== [a,b,c]):=by rw[Lib.toList_data,Lib.toList_data,hT,hs]
 have qo:Hid (∀ (q:Bool) (w':World),q=(V&& (T.toList==s.toList))->Below w.heap.size w w'->Bz [a,b,c] w (.returned (.tuple #[.agg #[.int .i64 tx,.int .i64 kd,.int .i64 it],.bool q])) w'):=fun q w' hq hb=>
  ⟨⟨tx,kd,it⟩,by rw[hok,hq,hTs];rfl,(fun _=>hrd.symm),hb⟩
 have jX:Hid (zn w (((w.alloc (.cells #[.int .i64 0,.int .i64 0,.int .i64 0] 89)).alloc (.cells #[.int .i64 tx,.int .i64 kd,.int .i64 0] 89)).drew) 0 0 0 tx kd 0):=Lf rfl;unfold R9 at hkd;unfold RH at htx;unfold Xr at hit;rw[<-hs];clear hok hrd hV htl HT0 hT hTs hs;go_enter Tryz.func132,Tryz.ntmps132
 go_upto_region 3 with(go_at_call 169;refine(HW.out _).mono ?_;rintro e w1 ⟨rfl,rfl⟩)
 go_cut [4] from 10 to 16 (fun v wx=> ∃w6:World,v=.pointer (some ⟨w.heap.size+1,0,none⟩)/\w6=wx/\Hid (zn w w6 0 0 0 tx kd 0))
 case first J1 K1 ZE hK1=>
  refine wp_region_any (by kernel_rfl) ?_
  change wpAny _ _ _ _ _ _ _ (World.drew _);refine bH 0 ?_;refine bH 1 ?_;refine bH 3 ?_;refine bH 4 ?_;refine uW 2 7 (fun K hK=>?_) fun K hK=>?_
  .skip;go_simp;go_wp2_with (go_at_call 170;refine(HI.out _ _ _).mono ?_;rintro e wq ⟨rfl,rfl⟩)
   try(refine hK _ _ ?_;clear hK K)
   refine uW 5 7 (fun K hK=>?_) fun K hK=>?_
   .skip;go_simp;go_wp2_with (go_at_call 170;refine(HI.out _ _ _).mono ?_;rintro e wq ⟨rfl,rfl⟩)
    try(refine hK _ _ ?_;clear hK K)
    refine bH 6 ?_;refine cK 7 fun K hK=>?_
    go_simp;try(refine hK _ _ ?_;clear hK K)
    refine cK 8 fun K hK=>?_
    go_simp;try(refine hK _ _ ?_;clear hK K)
    refine bM ?_;try go_simp
    refine hK1 _ _ (Met.intro (ZE _ _ ?_))
    (repeat apply Exists.intro)
    refine⟨?_,rfl⟩;exact⟨_,rfl,rfl,jX⟩
   .skip;go_simp;try(refine hK _ _ ?_;clear hK K)
    refine cK 5 fun K hK=>?_
    go_simp;go_wp2_with (go_at_call 170;refine(HI.out _ _ _).mono ?_;rintro e wq ⟨rfl,rfl⟩)
    try(refine hK _ _ ?_;clear hK K)
    refine bH 6 ?_;refine cK 8 fun K hK=>?_
    go_simp;try(refine hK _ _ ?_;clear hK K)
    refine bM ?_;try go_simp
    refine hK1 _ _ (Met.intro (ZE _ _ ?_))
    (repeat apply Exists.intro)
    refine⟨?_,rfl⟩;exact⟨_,rfl,rfl,jX⟩
  .skip;go_simp;try(refine hK _ _ ?_;clear hK K)
   refine cK 2 fun K hK=>?_
   go_simp;go_wp2_with (go_at_call 170;refine(HI.out _ _ _).mono ?_;rintro e wq ⟨rfl,rfl⟩)
   try(refine hK _ _ ?_;clear hK K)
   refine cK 5 fun K hK=>?_
   go_simp;go_wp2_with (go_at_call 170;refine(HI.out _ _ _).mono ?_;rintro e wq ⟨rfl,rfl⟩)
   try(refine hK _ _ ?_;clear hK K)
   refine bH 6 ?_;refine cK 8 fun K hK=>?_
   go_simp;try(refine hK _ _ ?_;clear hK K)
   refine bM ?_;try go_simp
   refine hK1 _ _ (Met.intro (ZE _ _ ?_))
   (repeat apply Exists.intro)
   refine⟨?_,rfl⟩;exact⟨_,rfl,rfl,jX⟩
 obtain⟨w6,rfl,rfl,Zc⟩:=hcut;have uy:=Zc.out;obtain⟨r00,r1',hb6⟩:=uy;obtain⟨x0,x1,x2,v0,v1,v2⟩:=fD r1';obtain⟨W,hW⟩: ∃W:World,W=w6.setCell ⟨w.heap.size+1,2,none⟩ (.int .i64 it):=⟨_,rfl⟩;have r0:au W w.heap.size 89 (tH 0 0 0):=by rw[hW];exact(Below.heap_setCell w6 _ _ w.heap.size (by simp)).trans r00
 have r1:au W (w.heap.size+1) 89 (tH tx kd it):=by rw[hW];exact au.set r1' 2 (.int .i64 it)
 have hbW:Below w.heap.size w W:=by rw[hW];exact hb6.setCell (p:=⟨w.heap.size+1,2,none⟩) (by simp) _
 have GI:=ah hW;clear r00 r1' hb6 hW Zc jX;go_wp2_with (go_at_call 170;refine(HI.out _ _ _).mono ?_;rintro e wq ⟨rfl,rfl⟩)
 rw[<-GI.out];clear GI x0 x1 x2 v0 v1 v2;obtain⟨wd,hwd⟩: ∃wd:World,wd=W.drew:=⟨_,rfl⟩;have hS:ru w tx kd it wd:=by
  rw[hwd];exact⟨r1,⟨0,0,0,r0⟩,hbW.drew⟩
 have lY:=ah hwd;have HF2:=qo;clear hwd r0 r1 hbW qo;cases V
 .skip;refine wp_region_held (S:=ru w tx kd it) (by kernel_rfl) ?_
  change wpAnyH _ _ _ _ _ _ _ _ (World.drew _);rw[<-lY.out];refine wpAnyH_take (i:=0) (v:=?_) rfl (by kernel_rfl) (by kernel_rfl) (by kernel_rfl) (fun _ _ _ h=>h) (Or.inl ⟨by kernel_rfl,?_⟩) hS ?_
  rotate_left
  .intro u hu;obtain⟨c0,c1,c2⟩:=ru.cells hu;go_simp;try with_reducible rfl
  refine wpAnyH_take (i:=1) (v:=?_) rfl (by kernel_rfl) (by kernel_rfl) (by kernel_rfl) (fun _ _ _ h=>h) (Or.inl ⟨by kernel_rfl,?_⟩) hS ?_
  rotate_left
  .intro u hu;obtain⟨c0,c1,c2⟩:=ru.cells hu;go_simp;try with_reducible rfl
  refine qy (rs:= [2]) (by kernel_rfl) (by simp) ?_
  refine fJ.cons rfl (fun K hK=>?_) (fJ.nil)
  go_simp;go_wp2_with (go_at_call 145;refine(HV.out _).mono ?_;rintro e w2 ⟨rfl,hb2⟩;have hS2:=ru.below hS hb2;clear hb2)
  refine hK _ _ hS2 ?_;clear hK K hS;have hS:=hS2;clear hS2;refine wpAnyH_take (i:=3) (v:=?_) rfl (by kernel_rfl) (by kernel_rfl) (by kernel_rfl) (fun _ _ _ h=>h) (Or.inl ⟨by kernel_rfl,?_⟩) hS ?_
  rotate_left
  .intro w _;go_simp;try with_reducible rfl
  refine wpAnyH_take (i:=4) (v:=undef) rfl (by kernel_rfl) (by kernel_rfl) (by kernel_rfl) (fun _ _ _ h=>h) (Or.inr ⟨by kernel_rfl,rfl⟩) hS ?_
  refine wpAnyH_take (i:=5) (v:=undef) rfl (by kernel_rfl) (by kernel_rfl) (by kernel_rfl) (fun _ _ _ h=>h) (Or.inr ⟨by kernel_rfl,rfl⟩) hS ?_
  refine wpAnyH_take (i:=6) (v:=undef) rfl (by kernel_rfl) (by kernel_rfl) (by kernel_rfl) (fun _ _ _ h=>h) (Or.inr ⟨by kernel_rfl,rfl⟩) hS ?_
  refine wpAnyH_take (i:=7) (v:=undef) rfl (by kernel_rfl) (by kernel_rfl) (by kernel_rfl) (fun _ _ _ h=>h) (Or.inr ⟨by kernel_rfl,rfl⟩) hS ?_
  refine wpAnyH_take (i:=8) (v:=?_) rfl (by kernel_rfl) (by kernel_rfl) (by kernel_rfl) (fun _ _ _ h=>h) (Or.inl ⟨by kernel_rfl,?_⟩) hS ?_
  rotate_left
  .intro w _;go_simp;try with_reducible rfl
  obtain⟨⟨za,zb,zc,z0,z1,z2⟩,y0,y1,y2⟩:=ru.other hS;refine qy (rs:= [9]) (by kernel_rfl) (by simp) ?_
  refine fJ.cons rfl (fun K hK=>?_) (fJ.nil)
  go_simp;try go_wp2_with fail
  have hS2:=ru.store (tx:=tx) (kd:=kd) (it:=it) hS;refine hK _ _ hS2 ?_;clear hK K hS;have hS:=hS2;clear hS2;refine wpAnyH_take (i:=10) (v:=?_) rfl (by kernel_rfl) (by kernel_rfl) (by kernel_rfl) (fun _ _ _ h=>h) (Or.inl ⟨by kernel_rfl,?_⟩) hS ?_
  rotate_left
  .intro w _;go_simp;try with_reducible rfl
  refine wpAnyH_done (by kernel_rfl) ?_ _
  try go_simp
  go_wp2_with fail
  refine bodyPost_ret (v:=.tuple #[.agg #[.int .i64 tx,.int .i64 kd,.int .i64 it],.bool (false)]) (by simp[results,Tryz.results132,go_sem,z0,z1,z2]) rfl ?_
  exact HF2.out _ _ rfl hS.2.2
 .skip;refine wp_region_held (S:=ru w tx kd it) (by kernel_rfl) ?_
  change wpAnyH _ _ _ _ _ _ _ _ (World.drew _);rw[<-lY.out];refine wpAnyH_take (i:=0) (v:=?_) rfl (by kernel_rfl) (by kernel_rfl) (by kernel_rfl) (fun _ _ _ h=>h) (Or.inl ⟨by kernel_rfl,?_⟩) hS ?_
  rotate_left
  .intro u hu;obtain⟨c0,c1,c2⟩:=ru.cells hu;go_simp;try with_reducible rfl
  refine wpAnyH_take (i:=1) (v:=?_) rfl (by kernel_rfl) (by kernel_rfl) (by kernel_rfl) (fun _ _ _ h=>h) (Or.inl ⟨by kernel_rfl,?_⟩) hS ?_
  rotate_left
  .intro u hu;obtain⟨c0,c1,c2⟩:=ru.cells hu;go_simp;try with_reducible rfl
  refine qy (rs:= [2]) (by kernel_rfl) (by simp) ?_
  refine fJ.cons rfl (fun K hK=>?_) (fJ.nil)
  go_simp;go_wp2_with (go_at_call 145;refine(HV.out _).mono ?_;rintro e w2 ⟨rfl,hb2⟩;have hS2:=ru.below hS hb2;clear hb2)
  refine hK _ _ hS2 ?_;clear hK K hS;have hS:=hS2;clear hS2;refine wpAnyH_take (i:=3) (v:=?_) rfl (by kernel_rfl) (by kernel_rfl) (by kernel_rfl) (fun _ _ _ h=>h) (Or.inl ⟨by kernel_rfl,?_⟩) hS ?_
  rotate_left
  .intro w _;go_simp;try with_reducible rfl
  refine wpAnyH_take (i:=4) (v:=?_) rfl (by kernel_rfl) (by kernel_rfl) (by kernel_rfl) (fun _ _ _ h=>h) (Or.inl ⟨by kernel_rfl,?_⟩) hS ?_
  rotate_left
  .intro u hu;obtain⟨c0,c1,c2⟩:=ru.cells hu;go_simp;try with_reducible rfl
  refine wpAnyH_take (i:=6) (v:=?_) rfl (by kernel_rfl) (by kernel_rfl) (by kernel_rfl) (fun _ _ _ h=>h) (Or.inl ⟨by kernel_rfl,?_⟩) hS ?_
  rotate_left
  .intro w _;go_simp;try with_reducible rfl
  refine qy (rs:= [5]) (by kernel_rfl) (by simp) ?_
  refine fJ.cons rfl (fun K hK=>?_) (fJ.nil)
  go_simp;go_wp2_with (go_at_call 130;refine(HT.out (by trivial) _).mono ?_;rintro e w3 ⟨rfl,hb3⟩;have hS2:=ru.below hS hb3;clear hb3)
  refine hK _ _ hS2 ?_;clear hK K hS;have hS:=hS2;clear hS2;refine wpAnyH_take (i:=7) (v:=?_) rfl (by kernel_rfl) (by kernel_rfl) (by kernel_rfl) (fun _ _ _ h=>h) (Or.inl ⟨by kernel_rfl,?_⟩) hS ?_
  rotate_left
  .intro w _;go_simp;try with_reducible rfl
  refine wpAnyH_take (i:=8) (v:=?_) rfl (by kernel_rfl) (by kernel_rfl) (by kernel_rfl) (fun _ _ _ h=>h) (Or.inl ⟨by kernel_rfl,?_⟩) hS ?_
  rotate_left
  .intro w _;go_simp;try with_reducible rfl
  obtain⟨⟨za,zb,zc,z0,z1,z2⟩,y0,y1,y2⟩:=ru.other hS;refine qy (rs:= [9]) (by kernel_rfl) (by simp) ?_
  refine fJ.cons rfl (fun K hK=>?_) (fJ.nil)
  go_simp;try go_wp2_with fail
  have hS2:=ru.store (tx:=tx) (kd:=kd) (it:=it) hS;refine hK _ _ hS2 ?_;clear hK K hS;have hS:=hS2;clear hS2;refine wpAnyH_take (i:=10) (v:=?_) rfl (by kernel_rfl) (by kernel_rfl) (by kernel_rfl) (fun _ _ _ h=>h) (Or.inl ⟨by kernel_rfl,?_⟩) hS ?_
  rotate_left
  .intro w _;go_simp;try with_reducible rfl
  refine wpAnyH_done (by kernel_rfl) ?_ _
  try go_simp
  go_wp2_with fail
  refine bodyPost_ret (v:=.tuple #[.agg #[.int .i64 tx,.int .i64 kd,.int .i64 it],.bool (T.toList==s.toList)]) (by simp[results,Tryz.results132,go_sem,z0,z1,z2]) rfl ?_
  exact HF2.out _ _ rfl hS.2.2
theorem NQ (l:List UInt8)(w:World):Calls Tryz.prog 132 #[.string ⟨⟨l⟩⟩] w (Bz l w):=by
 match l with
 | [] =>exact xV [] (by simp) w
 | [_] =>exact xV _ (by simp) w
 | [a,b] =>exact NP a b w
 | [a,b,c] =>exact Jo a b c w
 |_::_::_::_::_=>exact xV _ (.inr (by simp)) w
end Go.Proofs.YtddkjbibjjehjaaGreatDoor
