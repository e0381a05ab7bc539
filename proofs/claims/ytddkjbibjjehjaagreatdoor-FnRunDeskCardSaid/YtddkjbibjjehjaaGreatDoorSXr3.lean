/-
  Texts that the proof rests on, joined: part 3.
-/
import Derived.Deep.LoopGhost
import Derived.Test.YtddkjbibjjehjaaGreatDoorSXr2
set_option maxHeartbeats 16000000
set_option maxRecDepth 100000
namespace Go.Proofs.YtddkjbibjjehjaaGreatDoor
open Go.RowKit Go.BigFrame
set_option linter.unusedVariables false
def AP (s:List ay)(k:Nat):List Int:=((List.range k).map fun i:Nat=>(i:Int)).filter fun t=>lQ s t
theorem C8 (s:List ay)(k:Nat):AP s (k+1)=AP s k++if lQ s (k:Int)=true then [(k:Int)] else [] :=by
 unfold AP;rw[List.range_succ,List.map_append,List.filter_append];simp[List.filter_cons]
theorem C9 (s:List ay):AP s 4=ji s:=rfl
theorem O6 (A:Option Addr)(n c:Nat)(s:List ay)(w:World)(hx:aC w A n s):
 Calls Tryz.prog 104 #[.slice A n c] w (aT w (ji s)):=by
 have HX:=ah hx;clear hx;obtain⟨i0,hi,hz0,hz1,hz2⟩:=info_parts jI;go_enter Tryz.func104,Tryz.ntmps104;go_wp2_with (at_make;refine wpList_make_own _ rfl _ _ 45 rfl w.heap.size 3 i0 _ 1 Tryz.underlying45 hi hz0 hz1 .i64 .i64 _ 4 rfl rfl rfl (by rw[hz2];omega) (by unfold maxLen;omega) aj ?_;intro w1 hown1 hg1)
 have hb1:Below w.heap.size w w1:=⟨hg1.os,hg1.tape,hg1.output,hg1.size,fun k hk=>hg1.block k hk (by simp)⟩
 have HST:=ah (And.intro hown1 hb1);clear hown1 hb1 hg1 hi hz0 hz1 hz2;go_loopw [3,6] (fun ov i wr=> ∃ (k m:Nat),k<=4/\m<=k/\i=.int .i64 k/\Below w.heap.size w wr/\wr.ownsRow w.heap.size 3 1 ov m (intCells (AP s k))) (fun _ i _=>4- (intOf i).toNat)
 case atStart=>exact⟨0,0,by omega,Nat.le_refl _,rfl,HST.out.2,HST.out.1⟩
 case round=>
  clear HST;obtain⟨k,m,hk,hmk,rfl,hb,hown⟩:=hrel;by_cases hlt:k<4
  .have hs:=hb.size;have hcl: ∀W:World,W=wr.alloc (.cells #[.int .i64 (k:Int)] 3)->aC W A n s/\rC W 148 #[.pointer (some ⟨wr.heap.size,0,none⟩)] s (fun o=>o.tx==(k:Int))/\Below wr.heap.size wr W/\W.cell? ⟨wr.heap.size,0,none⟩=some (.int .i64 (k:Int))/\W.heap.size=wr.heap.size+1:=by
    intro W hW;have hc:W.cell? ⟨wr.heap.size,0,none⟩=some (.int .i64 (k:Int)):=by rw[hW];exact aV _ _ _ _ _ rfl
    have hbW:Below wr.heap.size wr W:=by rw[hW];exact aG.alloc aj _
    exact⟨(HX.out.below hb aj).below hbW aj,⟨JE,fun W' o hb' ho=>LW o k _ W' ((Later.cell hc ⟨W',hb'⟩))⟩,hbW,hc,by rw[hW];simp⟩
   have HC:=ah hcl;have HT:=ah (C8 s k);clear hcl;go_wp2_with fail
   obtain⟨W,hW⟩: ∃W:World,W=wr.alloc (.cells #[.int .i64 (k:Int)] 3):=⟨_,rfl⟩;rw[<-hW];obtain⟨hr,hf,hbW,hcW,hWs⟩:=HC.out W hW;have yj:W.ownsRow w.heap.size 3 1 u3 m (intCells (AP s k)):=by rw[hW];exact hown.alloc _
   refine(gJ A n c s _ _ _ W hr hf).mono ?_;rintro e w2 ⟨rfl,hb2⟩;have hown2:=own_below yj hb2;have hbw:=hb.trans ((hbW.trans (hb2.mono (by omega))).mono hs)
   have hs2:=hb2.size;have hc2:w2.cell? ⟨wr.heap.size,0,none⟩=some (.int .i64 (k:Int)):=Later.cell hcW ⟨w2,hb2⟩;clear hW hcW hr hf;have hp:(s.any fun o=>o.tx==(k:Int))=lQ s k:=rfl
   rw[hp];clear hp;cases hq:lQ s (k:Int)
   .rw[hq] at HT;go_wp2_with fail
    go_roundw
    case rel=>exact⟨k+1,m,by omega,by omega,by go_num,hbw,by rw[HT.out];simpa using hown2⟩
    case measure=>simp[intOf];omega
   .rw[hq] at HT;go_wp2_with (at_builtin;refine gI (.tmp 12) (.tmp 14) (hown2.alloc _) (by simp;omega) (dB rfl _) (by omega) rfl rfl rfl rfl ?_;intro v3 w3 hown3 hg3 aU)
    have hb3:=Below.own hbw hown2 aj (World.grownBy.trans (World.grownBy_alloc w2 _ _) hg3);go_wp2_with fail
    go_roundw
    case rel=>exact⟨k+1,m+1,by omega,by omega,by go_num,hb3,by rw[HT.out];simpa using hown3⟩
    case measure=>simp[intOf];omega
  .obtain⟨Ao,co,rfl,hmc⟩:=aD hown;obtain rfl:k=4:=by omega
   rw[C9] at hown;have HO:=ah (aT.mk (c:=m) (gY hown) aj (aN.aH hown aj (by omega)) hb)
   clear hown;go_wp2_with fail
   go_ret;exact HO.out
def wF {α:Type}(b:Bool)(xs:List α):List α:=if b then xs else []
theorem aT.later {w W w':World}{xs:List Int}{e:Ending}(hb:Below w.heap.size w W)(h:aT W xs e w'):aT w xs e w':=by
 obtain⟨A',c',rfl,hc',⟨h1,h2⟩,hb'⟩:=h;have hs:=hb.size;exact⟨A',c',rfl,hc',⟨h1,fun ad had=>by obtain⟨b,cur,h3,h4,h5⟩:=h2 ad had;exact⟨b,cur,h3,by omega,h5⟩⟩,hb.trans (hb'.mono hs)⟩
theorem kD.later {w W w':World}{xs:List ay}{e:Ending}(hb:Below w.heap.size w W)(h:kD W xs e w'):kD w xs e w':=by
 obtain⟨A',c',rfl,hc',⟨h1,h2⟩,hb'⟩:=h;have hs:=hb.size;exact⟨A',c',rfl,hc',⟨h1,fun ad had=>by obtain⟨b,cur,h3,h4,h5⟩:=h2 ad had;exact⟨b,cur,h3,by omega,h5⟩⟩,hb.trans (hb'.mono hs)⟩
def oq (s:List ay)(i:Nat):Bool:=match s[i]?,s[i-1]? with|some o,some q=>(o.tx !=q.tx) &&lQ (s.take i) o.tx|_,_=>false
def jk (s:List ay):Bool:=(List.range s.length).all fun i=>i==0|| !oq s i
def C_ (s:List ay):Bool:=jk s&&aF s
theorem ES (o q:ay)(A:Option Addr)(n c b b2 k:Nat)(s:List ay)(w:World)(hc:w.cell? ⟨b,0,none⟩=some (.slice A n c))(hc2:w.cell? ⟨b2,0,none⟩=some (.int .i64 (k:Int)))(hx:aC w A n s)(hk:k<n)(hq:s[k]? =some q):
 Calls Tryz.prog 101 #[o.val,.pointer (some ⟨b,0,none⟩),.pointer (some ⟨b2,0,none⟩)] w fun e w'=>e=.returned (.bool (o.tx==q.tx))/\Below w.heap.size w w':=by
 obtain⟨t,kd,x⟩:=o;unfold ay.val;have hn:=hx.2.1;obtain⟨b3,off,q',rfl,hbl,ho,c0,c1,c2⟩:=hx.at_ hk;rw[hq] at ho;injection ho with ho;subst ho;clear hq hx;go_enter Tryz.func101,Tryz.ntmps101;go_wp2_with fail
 obtain⟨W,hW⟩: ∃W:World,W=w.alloc (.cells #[.int .i64 t,.int .i64 kd,.int .i64 x] 89):=⟨_,rfl⟩;rw[<-hW];obtain⟨L0,L1,L2,hbW,hWs⟩:=kC hW;have M0:=Later.cell (W:=W) ((hbW.cell (p:=⟨b,0,none⟩) (block_lt_of_cell hc)).trans hc);have M1:=Later.cell (W:=W) ((hbW.cell (p:=⟨b2,0,none⟩) (block_lt_of_cell hc2)).trans hc2);have M2:=Later.cell (W:=W) ((hbW.cell (p:=⟨b3,off+k*3,none⟩) (by simpa using hbl)).trans c0)
 clear hW hc hc2 c0 c1 c2;refine aQ ?_;repeat(go_big_quiet_step (fail))
 refine wpQuiet_nil ?_;rintro _ ⟨u,rfl⟩;go_wp2_with fail
 go_ret;exact⟨rfl,hbW.trans (u.2.mono (by omega))⟩
theorem Da:Runs 101:=dG Tryz.func101 (by kernel_rfl) rfl
theorem O7 {s:List ay}{k:Nat}(hk:k+1<s.length)(h:oq s (k+1)=true):jk s=false:=by
 unfold jk;rw[List.all_eq_false];exact⟨k+1,List.mem_range.2 hk,by simp[h]⟩
theorem O8 {s:List ay}{k:Nat}(hk:s.length<=k+1)(h: ∀j,j<k->oq s (j+1)=false):jk s=true:=by
 unfold jk;rw[List.all_eq_true];intro j hj;have hj:=List.mem_range.1 hj;cases j with
 |zero=>rfl
 |succ j=>simp[h j (by omega)]
def w_ (w:World)(A:Option Addr)(n c:Nat)(s:List ay)(k bi:Nat)(wr:World):Prop:=
 Below w.heap.size w wr/\wr.cell? ⟨w.heap.size,0,none⟩=some (.slice A n c)/\wr.cell? ⟨bi,0,none⟩=some (.int .i64 ((k:Int)+1))/\wr.frozen? ⟨bi,0,none⟩=false/\w.heap.size<bi/\(∀j,j<k->oq s (j+1)=false)
theorem w_.next {w wr W:World}{A:Option Addr}{n c k bi:Nat}{s:List ay}(h:w_ w A n c s k bi wr)(hb:Below wr.heap.size wr W)(hg:oq s (k+1)=false):
 w_ w A n c s (k+1) W.heap.size ((W.alloc (.cells #[.int .i64 ((k:Int)+1)] 3)).setCell ⟨W.heap.size,0,none⟩ (.int .i64 ((k:Int)+1+1)))/\
 w_ w A n c s (k+1) W.heap.size (W.alloc (.cells #[.int .i64 ((k:Int)+1+1)] 3)):=by
 obtain⟨h1,h2,h3,h4,h5,h6⟩:=h;have e:(((k+1:Nat):Int)+1)=(k:Int)+1+1:=by omega
 have hlt:=block_lt_of_cell h2;have hlt3:=block_lt_of_cell h3;have hs:=hb.size;have hbw:Below w.heap.size w W:=h1.trans (hb.mono h1.size);simp only at hlt hlt3;have h7: ∀j,j<k+1->oq s (j+1)=false:=fun j hj=>by
  by_cases e:j=k
  .subst e;exact hg
  .exact h6 j (by omega)
 have hc0:W.cell? ⟨w.heap.size,0,none⟩=some (.slice A n c):=(hb.cell (p:=⟨w.heap.size,0,none⟩) (by simpa using hlt)).trans h2
 unfold w_;rw[e];refine⟨⟨dF (aZ hbw aj _) (by omega),?_,?_,?_,by omega,h7⟩,⟨aZ hbw aj _,?_,aV _ _ _ _ _ rfl,?_,by omega,h7⟩⟩
 .rw[World.cell?_setCell_other _ _ _ _ (by simp<;>omega),World.cell?_alloc_lt _ _ _ (by simp<;>omega)];exact hc0
 .have:((W.alloc (.cells #[.int .i64 ((k:Int)+1)] 3)).setCell ⟨W.heap.size,0,none⟩ (.int .i64 ((k:Int)+1+1))).heap[W.heap.size]? =some (.cells #[.int .i64 ((k:Int)+1+1)] 3 (0,0)):=one_setCell (heap_alloc_new W _);exact cell_of_one this
 .have:((W.alloc (.cells #[.int .i64 ((k:Int)+1)] 3)).setCell ⟨W.heap.size,0,none⟩ (.int .i64 ((k:Int)+1+1))).heap[W.heap.size]? =some (.cells #[.int .i64 ((k:Int)+1+1)] 3 (0,0)):=one_setCell (heap_alloc_new W _);exact free_of_one this
 .rw[World.cell?_alloc_lt _ _ _ (by simp<;>omega)];exact hc0
 .exact free_of_one (v:=.int .i64 ((k:Int)+1+1)) (t:=3) (heap_alloc_new W _)
theorem Hr (A:Option Addr)(n c:Nat)(s:List ay)(w:World)(hx:aC w A n s)(hnc:n<=c):
 Calls Tryz.prog 66 #[.slice A n c] w fun e w'=>e=.returned (.bool (C_ s))/\Below w.heap.size w w':=by
 have hn:=hx.2.1;have hl:=hx.1;have hST: ∀W:World,W=(w.alloc (.cells #[.slice A n c] 47)).alloc (.cells #[.int .i64 1] 3)->w_ w A n c s 0 (w.heap.size+1) W:=by
  intro W hW;subst hW;refine⟨(aG.alloc aj _).alloc (by simp) _,?_,?_,?_,by omega,by omega⟩
  .rw[World.cell?_alloc_lt _ _ _ (by simp)];exact aV _ _ _ _ _ rfl
  .have:=aV (w.alloc (.cells #[.slice A n c] 47)) #[.int .i64 1] 3 0 (.int .i64 1) rfl
   rwa [World.size_alloc] at this
  .have:=free_of_one (w:=(w.alloc (.cells #[.slice A n c] 47)).alloc (.cells #[.int .i64 1] 3)) (b:=w.heap.size+1) (v:=.int .i64 1) (t:=3) (by have:=heap_alloc_new (w.alloc (.cells #[.slice A n c] 47)) (.cells #[.int .i64 1] 3);rwa [World.size_alloc] at this)
   exact this
 have HST:=ah hST;have HX:=ah hx;clear hx hST;go_enter Tryz.func66,Tryz.ntmps66;go_wp2_with fail
 go_loopg [3] n (fun g pv wr=> ∃k bi:Nat,g=n-k/\pv=.pointer (some ⟨bi,0,none⟩)/\w_ w A n c s k bi wr)
 case atStart=>exact⟨0,w.heap.size+1,rfl,rfl,HST.out _ rfl⟩
 case round=>
  clear HST;obtain⟨k,bi,rfl,rfl,hinv⟩:=hrel;have HI:=ah hinv;obtain⟨hb,hc0,hc1,hf1,hbi,hno⟩:=hinv;have zB:=block_lt_of_cell hc0;have hlt1:=block_lt_of_cell hc1;simp only at zB hlt1;have HN:=ah hno;clear hno;by_cases hlt:k+1<n
  .obtain⟨b,off,o,rfl,hbl,ho,c0,_,_⟩:=(HX.out.below hb aj).at_ hlt;obtain⟨b',off',q,hA,_,hq,d0,_,_⟩:=(HX.out.below hb aj).at_ (k:=k) (by omega)
   injection hA with hA;injection hA with e1 e2;subst e1;subst e2;have hsb:oq s (k+1)=((o.tx !=q.tx) &&lQ (s.take (k+1)) o.tx):=by
    unfold oq;rw[ho,show k+1-1=k from rfl,hq]
   have ZP:=ah hsb;have hcl: ∀u:Later wr,aC u.1 (some ⟨b,off,none⟩) (k+1) (s.take (k+1))/\rC u.1 101 #[.pointer (some ⟨w.heap.size,0,none⟩),.pointer (some ⟨bi,0,none⟩)] (s.take (k+1)) (fun x=>x.tx==o.tx):=by
    intro u;refine⟨((HX.out.below hb aj).take (by omega)).later u,Da,fun W' x hb' hx'=>?_⟩
    have hbW:Below wr.heap.size wr W':=u.2.trans (hb'.mono u.2.size);have e1:((k:Int)+1)=((k+1:Nat):Int):=by omega
    refine ES x o (some ⟨b,off,none⟩) n c _ _ (k+1) s W' (Later.cell hc0 ⟨W',hbW⟩) ?_ ((HX.out.below hb aj).later ⟨W',hbW⟩) hlt ho;rw[<-e1];exact Later.cell hc1 ⟨W',hbW⟩
   have JF:=ah hcl;have L0:=Later.cell hc0;have L1:=Later.cell hc1;have L2:=Later.cell c0;have L3:=Later.cell d0;have M0:=ah hc0;have M1:=ah hc1;clear hsb hcl ho hq c0 d0;obtain⟨tx,kd,it⟩:=o;obtain⟨qx,qk,qi⟩:=q;simp only at L2 L3;have hkc:k+1<=c:=by omega
   have ace:(k:Int)+1<=(c:Int):=by omega
   cases hq:lQ (s.take (k+1)) tx
   all_goals
    have hcf: ∀u:Later wr,Calls Tryz.prog 100 #[.slice (some ⟨b,off,none⟩) (k+1) c,.func (.func 101) #[] #[.pointer (some ⟨w.heap.size,0,none⟩),.pointer (some ⟨bi,0,none⟩)]] u.1
     fun e w'=>e=.returned (.bool (lQ (s.take (k+1)) tx))/\Below u.1.heap.size u.1 w':=fun u=>
     gJ _ (k+1) c _ _ _ _ u.1 (JF.out u).1 (JF.out u).2
    rw[hq] at hcf;have O9:=ah hcf;have HQ:=ah hq;clear hcf hq;by_cases htx:tx=qx
    .subst htx;go_wp2_with fail
     refine aQ ?_;repeat(go_big_quiet_step (fail))
     refine wpQuiet_nil ?_;rintro _ ⟨u,rfl⟩;have hgood:=HI.out.next u.2 (by rw[ZP.out];simp)
     have hu:=Later.cell M1.out u;have hfu:u.1.frozen? ⟨bi,0,none⟩=false:=(u.2.frozen (p:=⟨bi,0,none⟩) (by simpa using hlt1)).trans hf1
     go_wp2_with fail
     go_roundg (n- (k+1))
     case measure=>omega
     case rel=>first|exact⟨k+1,_,rfl,rfl,hgood.1⟩|exact⟨k+1,_,rfl,rfl,hgood.2⟩
    .have ht1:(tx !=qx)=true:=by simpa using htx
     have ht2:(tx==qx)=false:=by simpa using htx
     go_wp2_with fail
     refine aQ ?_;repeat(go_big_quiet_step ((go_at_call 100;exact aA _ (O9.out _))))
     refine wpQuiet_nil ?_;rintro _ ⟨u,rfl⟩;first
      |(have hgood:=HI.out.next u.2 (by rw[ZP.out,HQ.out];simp)
        go_wp2_with fail
        go_roundg (n- (k+1))
        case measure=>omega
        case rel=>first|exact⟨k+1,_,rfl,rfl,hgood.1⟩|exact⟨k+1,_,rfl,rfl,hgood.2⟩)
      |(have hbad:=ah (O7 (by omega:k+1<s.length) (by rw[ZP.out,HQ.out];simp[ht1]))
        go_wp2_with fail
        go_ret;exact⟨aI (by unfold C_;rw[hbad.out];rfl),hb.trans (u.2.mono hb.size)⟩)
  .have hs:=ah (O8 (s:=s) (k:=k) (by omega) HN.out)
   go_wp2_with fail
   refine(dx A n c s wr (HX.out.below hb aj) hnc).mono ?_;rintro e w2 ⟨rfl,hb2⟩;go_wp2_with fail
   go_ret;exact⟨aI (by unfold C_;rw[hs.out];simp),hb.trans (hb2.mono hb.size)⟩
def ET (xs:List Int)(x:Int):Int:=if xs.any (fun y=>y==x) then(xs.findIdx (fun y=>y==x):Int) else-1
theorem R7 {xs:List Int}{x y:Int}{k:Nat}(ho:xs[k]? =some y)(h:(y==x)=true)(hno: ∀j,j<k-> ∀y,xs[j]? =some y->(y==x)=false):ET xs x=(k:Int):=by
 obtain⟨hk,he⟩:=List.getElem?_eq_some_iff.1 ho;have h1:xs.any (fun y=>y==x)=true:=List.any_eq_true.2 ⟨y,List.mem_of_getElem? ho,h⟩
 have h2:xs.findIdx (fun y=>y==x)=k:=by
  rw[List.findIdx_eq hk];exact⟨by rw[he];exact h,fun j hj=>by have:=hno j hj _ (List.getElem?_eq_getElem (by omega));exact this⟩
 unfold ET;rw[h1,h2];rfl
theorem O_ {xs:List Int}{x:Int}(hno: ∀j,j<xs.length-> ∀y,xs[j]? =some y->(y==x)=false):ET xs x= -1:=by
 unfold ET;have:xs.any (fun y=>y==x)=false:=by
  rw[List.any_eq_false];intro o ho;obtain⟨j,hj⟩:=List.mem_iff_getElem?.1 ho;have hl:j<xs.length:=(List.getElem?_eq_some_iff.1 hj).1;simp[hno j hl o hj]
 rw[this];rfl
theorem R8 (xs:List Int)(x:Int):if(xs.any fun y=>y==x)=true then 0<=ET xs x else ET xs x= -1:=by
 unfold ET;split
 .omega
 .rfl
theorem xg (n:Nat)(w:World)(hn:n<=61):Calls Tryz.prog 54 #[.int .i64 (n:Int)] w fun e w'=>e=.returned (.int .i64 ((2^n:Nat):Int))/\w=w':=by
 go_enter Tryz.func54,Tryz.ntmps54;go_wp2_with fail
 go_loop [0,3] (fun a b=> ∃k:Nat,k<=n/\a=.int .i64 ((n:Int) -k)/\b=.int .i64 ((2^k:Nat):Int)) (fun a _=>(intOf a).toNat)
 case atStart=>exact⟨0,Nat.zero_le _,by simp,rfl⟩
 case round=>
  obtain⟨k,hk,rfl,rfl⟩:=hrel;by_cases hlt:k<n
  .have h2:2^k<=2^61:=Nat.pow_le_pow_right (by omega) (by omega)
   have h3:Hid (2^(k+1)=2*2^k):=by show _=_;rw[Nat.pow_succ];omega
   generalize hP:2^k=p at*;have HP:=ah hP;clear hP;have h4:p<=2305843009213693952:=by
    have:(2:Nat)^61=2305843009213693952:=by decide
    omega
   clear h2;go_wp2_with fail
   go_round
   case rel=>exact⟨k+1,by omega,by first|go_num|(congr 1;omega),by rw[h3.out];first|go_num|(congr 1;omega)⟩
   case measure=>simp[intOf];omega
  .obtain rfl:k=n:=by omega
   go_wp2_with fail
   go_ret;exact⟨rfl,rfl⟩
theorem Db (x j:Nat)(w:World)(hx:x<=4611686018427387904)(hj:j<=61):Calls Tryz.prog 92 #[.int .i64 (x:Int),.int .i64 (j:Int)] w fun e w'=>e=.returned (.int .i64 (if x.testBit j then 1 else 0))/\w=w':=by
 have HP:=ah (xg j w hj);have hp:0<2^j:=Nat.two_pow_pos _;have hq:(2^j:Nat)<=2305843009213693952:=by
  have:2^j<=2^61:=Nat.pow_le_pow_right (by omega) hj
  have h2:(2:Nat)^61=2305843009213693952:=by decide
  omega
 obtain⟨r,hr⟩: ∃r:Int,(if x.testBit j then 1 else 0)=r:=⟨_,rfl⟩
 rw[hr];have HR:Hid (((x/2^j % 2:Nat):Int)=r):=by
  show _=_
  rw[<-hr];rw[Nat.testBit_eq_decide_div_mod_eq];by_cases h:x/2^j % 2=1
  .rw[h];simp
  .have:x/2^j % 2=0:=by omega
   rw[this];simp
 generalize hP:2^j=p at*;have hdiv:x/p<=x:=Nat.div_le_self _ _;clear hP hr;have hpi:(p:Int)≠0:=by omega
 have HD:Hid ((wrap64 ((x:Int)/(p:Int))).tmod 2=((x/p % 2:Nat):Int)):=by
  show _=_
  have e1:((x:Int)/(p:Int))=((x/p:Nat):Int):=by simp
  rw[e1];have e2:wrap64 ((x/p:Nat):Int)=((x/p:Nat):Int):=by
   generalize x/p=q at*;unfold wrap64;omega
  rw[e2];rfl
 go_enter Tryz.func92,Tryz.ntmps92;go_wp2_with fail
 refine HP.out.mono ?_;rintro e w1 ⟨rfl,rfl⟩;go_wp2_with fail
 go_ret;exact⟨gW (by rw[<-HR.out];exact HD.out),rfl⟩
theorem xk (A:Option Addr)(n c:Nat)(xs:List Int)(x:Int)(w:World)(hx:aM w A n xs):
 Calls Tryz.prog 59 #[.slice A n c,.int .i64 x] w fun e w'=>e=.returned (.bool (xs.any fun y=>y==x))/\Below w.heap.size w w':=by
 have hn:=hx.2.1;have hl:=hx.1;have HX:=ah hx;clear hx;go_enter Tryz.func59,Tryz.ntmps59;go_wp2_with fail
 go_loop [5] (fun i=> ∃k:Nat,k<=n/\i=.int .i64 k/\((xs.take k).any fun y=>y==x)=false) (fun i=>n- (intOf i).toNat)
 case atStart=>exact⟨0,Nat.zero_le _,rfl,by simp⟩
 case round=>
  obtain⟨k,hk,rfl,hno⟩:=hrel;by_cases hlt:k<n
  .obtain⟨b,off,y,rfl,hbl,ho,c0⟩:=HX.out.at_ hlt;have hst:((xs.take (k+1)).any fun y=>y==x)=((xs.take k).any (fun y=>y==x)||y==x):=by
    rw[List.take_add_one,ho,List.any_append];simp
   rw[hno,Bool.false_or] at hst;have HS:=ah hst;have HM:=ah (List.mem_of_getElem? ho);clear hst ho hno;by_cases h1:y=x
   .have ht:Hid ((xs.any fun y=>y==x)=true):=List.any_eq_true.2 ⟨y,HM.out,by simpa using h1⟩
    go_wp2_with fail
    go_ret;exact⟨aI ht.out.symm,Below.refl _ _⟩
   .have h1':(y==x)=false:=by simpa using h1
    go_wp2_with fail
    go_round
    case rel=>exact⟨k+1,by omega,by go_num,by rw[HS.out];exact h1'⟩
    case measure=>simp[intOf];omega
  .rw[List.take_of_length_le (by omega)] at hno
   have HN:=ah hno;clear hno;go_wp2_with fail
   go_ret;exact⟨aI HN.out.symm,Below.refl _ _⟩
theorem ofInt64 (a:Nat)(ha:a<9223372036854775808):(BitVec.ofInt 64 (a:Int)).toNat=a:=by
 rw[BitVec.ofInt_natCast,BitVec.toNat_ofNat];exact Nat.mod_eq_of_lt (by omega)
theorem jl (a b:Nat)(ha:a<9223372036854775808)(hb:b<9223372036854775808):bits .or .i64 (a:Int) (b:Int)=((a|||b:Nat):Int):=by
 have hx:a|||b<2^63:=Nat.or_lt_two_pow (by omega) (by omega)
 show IntKind.i64.wrap ((BitVec.ofInt 64 (a:Int)|||BitVec.ofInt 64 (b:Int)).toNat:Int)=_
 rw[BitVec.toNat_or,ofInt64 a ha,ofInt64 b hb,IntKind.wrap_i64];omega
theorem Ht (a b:Nat)(ha:a<9223372036854775808)(hb:b<9223372036854775808):bits .and .i64 (a:Int) (b:Int)=((a&&&b:Nat):Int):=by
 have hx:a&&&b<2^63:=Nat.and_lt_two_pow _ (by omega)
 show IntKind.i64.wrap ((BitVec.ofInt 64 (a:Int) &&&BitVec.ofInt 64 (b:Int)).toNat:Int)=_
 rw[BitVec.toNat_and,ofInt64 a ha,ofInt64 b hb,IntKind.wrap_i64];omega
def jT (rows:List Nat)(t u:Int):List Nat:=rows.set t.toNat (rows.getD t.toNat 0|||(1<<<u.toNat))
def dD (rows:List Nat):List Int:=rows.map fun n:Nat=>(n:Int)
def dA (rows:List Nat):Prop:=rows.length=4/\ ∀r∈rows,r<16
theorem u_ {rows:List Nat}(h:dA rows){t u:Int}(hu:0<=u/\u<=3):dA (jT rows t u):=by
 refine⟨by simp[jT,h.1],fun r hr=>?_⟩
 unfold jT at hr;rcases List.mem_or_eq_of_mem_set hr with hr|rfl
 .exact h.2 r hr
 .have h1:rows.getD t.toNat 0<2^4:=by
   rw[List.getD_eq_getElem?_getD];cases he:rows[t.toNat]? with
   |none=>simp
   |some x=>simpa using h.2 x (List.mem_of_getElem? he)
  have h2:(1<<<u.toNat)<2^4:=by
   rcases(by omega:u.toNat=0\/u.toNat=1\/u.toNat=2\/u.toNat=3) with e|e|e|e<;>rw[e] <;>decide
  exact Nat.or_lt_two_pow (n:=4) h1 h2
theorem yt {rows:List Nat}(h:dA rows){T:Nat}(hT:T<=3):(intCells (dD rows))[T]? =some (.int .i64 ((rows.getD T 0:Nat):Int))/\rows.getD T 0<16:=by
 have hl:=h.1;have e:rows[T]? =some (rows[T]'(by omega)):=List.getElem?_eq_getElem (by omega)
 rw[List.getD_eq_getElem?_getD,e];refine⟨?_,?_⟩
 .simp[intCells,dD,e]
 .simpa using h.2 _ (List.getElem_mem (by omega))
theorem FZ {rows:List Nat}{T:Nat}{u:Int} :dD (jT rows T u)=(dD rows).set T (((rows.getD T 0|||(1<<<u.toNat):Nat)):Int):=by
 simp[dD,jT,List.map_set]
theorem yu (m j:Nat)(hm:m<4611686018427387904):bits .and .i64 ((m:Int)/2^j) 1=if m.testBit j then 1 else 0:=by
 have e:((m:Int)/2^j)=((m/2^j:Nat):Int):=by simp
 have h1:m/2^j<=m:=Nat.div_le_self _ _;rw[e,show(1:Int)=((1:Nat):Int) from rfl,Ht _ _ (by omega) (by omega),Nat.and_one_is_mod]
 rw[Nat.testBit_eq_decide_div_mod_eq];by_cases h:m/2^j % 2=1
 .rw[h];simp
 .have:m/2^j % 2=0:=by omega
  rw[this];simp
theorem ou {s:List ay}(h:aF s=true): ∀o∈s,aJ o=true:=by
 intro o ho;unfold aF at h;simp only[Bool.and_eq_true,List.all_eq_true] at h;obtain⟨k,hk⟩:=List.mem_iff_getElem?.1 ho;have hl:k<s.length:=by
  rcases Nat.lt_or_ge k s.length with h|h
  .exact h
  .rw[List.getElem?_eq_none h] at hk;cases hk
 have:=h.2 k (List.mem_range.2 hl);unfold kY at this;rw[hk] at this;simp only[Bool.and_eq_true] at this;exact this.1
theorem rD {s:List ay}(h:aF s=true){o:ay}(ho:o∈s):0<=o.tx/\o.tx<=3:=by
 have:=ou h o ho;simp[aJ,xW] at this;omega
theorem kE {rows:List Nat}(h:dA rows){T U t u:Nat}(hT:T<=3):((jT rows T U).getD t 0).testBit u=((rows.getD t 0).testBit u||(decide (t=T) &&decide (u=U))):=by
 unfold jT;simp only[Int.toNat_natCast];rw[List.getD_eq_getElem?_getD,List.getElem?_set];by_cases e:T=t
 .subst e;have hl:T<rows.length:=by rw[h.1];omega
  rw[if_pos rfl,if_pos hl];simp only[Option.getD_some,Nat.testBit_or,Nat.one_shiftLeft,Nat.testBit_two_pow,decide_true,Bool.true_and];congr 1
  exact decide_eq_decide.2 ⟨fun h=>h.symm,fun h=>h.symm⟩
 .rw[if_neg e,List.getD_eq_getElem?_getD];have: ¬ t=T:=fun h=>e h.symm
  simp[this]
def fG (s:List ay)(t:Int):Nat:=s.findIdx fun o=>o.tx==t
def kZ (s:List ay)(t:Int):Nat:=s.findIdx fun o=>o.tx==t&&o.kind==2
def jm (s:List ay)(i:Nat)(t k x:Int):Bool:=(s.take i).any fun o=>o.tx==t&&o.kind==k&&o.item==x
def tX (s:List ay)(t u:Int):Bool:= [0,1,2].any fun x=>jm s s.length t 1 x&&jm s s.length u 1 x
theorem AQ {s:List ay}{p:ay->Bool}{k:Nat}{o:ay}(ho:s[k]? =some o)(h:p o=true)(hno: ∀j,j<k-> ∀o,s[j]? =some o->p o=false):s.findIdx p=k:=by
 obtain⟨hk,he⟩:=List.getElem?_eq_some_iff.1 ho;rw[List.findIdx_eq hk];exact⟨by rw[he];exact h,fun j hj=>hno j hj _ (List.getElem?_eq_getElem (by omega))⟩
theorem AR {s:List ay}{p:ay->Bool}(hno: ∀j,j<s.length-> ∀o,s[j]? =some o->p o=false):s.findIdx p=s.length:=by
 rw[List.findIdx_eq_length];intro o ho;obtain⟨j,hj⟩:=List.mem_iff_getElem?.1 ho;have hl:j<s.length:=by
  rcases Nat.lt_or_ge j s.length with h|h
  .exact h
  .rw[List.getElem?_eq_none h] at hj;cases hj
 simpa using hno j hl o hj
theorem Dc {s:List ay}{i:Nat}{t:Int}(h: ∀j,j<i-> ∀o,s[j]? =some o->(o.tx==t&&aK o)=false):sW (s.take i) t=true:=by
 unfold sW;rw[List.all_eq_true];intro o ho;obtain⟨j,hj⟩:=List.mem_iff_getElem?.1 ho;rw[List.getElem?_take] at hj;split at hj
 .rw[h j (by omega) o hj];rfl
 .cases hj
theorem AU {s:List ay}{i k:Nat}{t:Int}{o:ay}(hk:k<i)(ho:s[k]? =some o)(h:(o.tx==t&&aK o)=true):sW (s.take i) t=false:=by
 unfold sW;rw[List.all_eq_false];exact⟨o,List.mem_of_getElem? (i:=k) (by rw[List.getElem?_take,if_pos hk];exact ho),by rw[h];simp⟩
theorem bn (s:List ay):aF s=true↔s.length<=16/\(∀o∈s,aJ o=true)/\s.Pairwise (fun a b=>aK a=true->a.tx≠b.tx):=by
 constructor
 .intro h;refine⟨?_,ou h,?_⟩
  .unfold aF at h;simp only[Bool.and_eq_true,decide_eq_true_eq] at h;exact h.1
  .rw[List.pairwise_iff_getElem];intro i j hi hj hij he ht;unfold aF at h;simp only[Bool.and_eq_true,List.all_eq_true] at h;have:=h.2 j (List.mem_range.2 hj);unfold kY at this;rw[List.getElem?_eq_getElem hj] at this;simp only[Bool.and_eq_true] at this;have h2:=this.2;rw[AU (k:=i) (o:=s[i]) hij (List.getElem?_eq_getElem hi) (by rw[he,ht];simp)] at h2
   cases h2
 .rintro⟨h1,h2,h3⟩;unfold aF;simp only[Bool.and_eq_true,decide_eq_true_eq,List.all_eq_true];refine⟨h1,fun j hj=>?_⟩
  have hj:=List.mem_range.1 hj;unfold kY;rw[List.getElem?_eq_getElem hj];simp only[Bool.and_eq_true];refine⟨h2 _ (List.getElem_mem hj),Dc (fun k hk o ho=>?_)⟩
  have hk':k<s.length:=by omega
  rw[List.getElem?_eq_getElem hk'] at ho;injection ho with ho;subst ho;rw[List.pairwise_iff_getElem] at h3;have:=h3 k j hk' hj hk;cases he:aK s[k]
  .simp
  .simpa[he] using this he
theorem xq {s t:List ay}(h:aF s=true)(hs:List.Sublist t s):aF t=true:=by
 rw[bn] at*;exact⟨Nat.le_trans hs.length_le h.1,fun o ho=>h.2.1 o (hs.subset ho),List.Pairwise.sublist hs h.2.2⟩
theorem AV {s:List ay}(h:aF s=true){o:ay}(ho:o∈s)(hk:o.kind=2\/o.kind=3):o.item=0:=by
 have:=ou h o ho;rcases hk with hk|hk<;>simp[aJ,bU,aK,hk] at this<;>exact this.2
theorem lg {s:List ay}(h:aF s=true){i j:Nat}{a b:ay}(hi:s[i]? =some a)(hj:s[j]? =some b)(he:aK a=true)(ht:a.tx=b.tx):j<=i:=by
 rcases Nat.lt_or_ge i j with hij|hij
 .exfalso
  obtain⟨hil,hia⟩:=List.getElem?_eq_some_iff.1 hi;obtain⟨hjl,hjb⟩:=List.getElem?_eq_some_iff.1 hj;have:=List.pairwise_iff_getElem.1 ((bn s).1 h).2.2 i j hil hjl hij;rw[hia,hjb] at this;exact this he ht
 .exact hij
theorem zC {o:ay}(h:o.kind=2):aK o=true:=by simp[aK,h]
theorem Hu {s:List ay}(h:aF s=true){o:ay}(ho:o∈s)(hk:o.kind=2):dz s o.tx=2:=by
 obtain⟨k,hk'⟩:=List.mem_iff_getElem?.1 ho;have:=uY s o.tx k o hk' (fun j hj q hq=>by
  cases hq2:(q.tx==o.tx&&aK q)
  .rfl
  .simp only[Bool.and_eq_true,beq_iff_eq] at hq2;have:=lg h hq hk' hq2.2 hq2.1;omega) (by simp[aK,hk])
 rw[this,hk]
theorem Pb {s:List ay}{t:Int}(h:dz s t=2): ∃o∈s,o.tx=t/\o.kind=2:=by
 unfold dz at h;cases hf:s.find? (fun o=>o.tx==t&&aK o) with
 |none=>rw[hf] at h;simp at h
 |some o=>
  rw[hf] at h;have h1:=List.find?_some hf;simp only[Bool.and_eq_true,beq_iff_eq] at h1;exact⟨o,List.mem_of_find?_eq_some hf,h1.1,by simpa using h⟩
theorem qd {s:List ay}(h:aF s=true)(t:Int):dz s t=2↔ ∃o∈s,o.tx=t/\o.kind=2:=by
 constructor
 .exact Pb
 .rintro⟨o,ho,rfl,hk⟩;exact Hu h ho hk
theorem JG (s:List ay):(ji s).Nodup:=by
 unfold ji;exact List.Pairwise.filter _ (by decide)
theorem EU {s:List ay}{p q:ay->Bool}(h: ∀o∈s,p o=q o):s.findIdx p=s.findIdx q:=by
 induction s with
 |nil=>rfl
 |cons x r ih=>
  rw[List.findIdx_cons,List.findIdx_cons,h x (by simp),ih (fun o ho=>h o (by simp[ho]))]
theorem Df {s:List ay}{p:ay->Bool}{o:ay}(ho:o∈s)(hp:p o=true): ∃q,s[s.findIdx p]? =some q/\p q=true:=by
 have hl:s.findIdx p<s.length:=List.findIdx_lt_length.2 ⟨o,ho,hp⟩;exact⟨_,List.getElem?_eq_getElem hl,@List.findIdx_getElem _ p s hl⟩
theorem vg {s:List ay}{o:ay}(ho:o∈s): ∃q,s[fG s o.tx]? =some q/\q.tx=o.tx:=by
 obtain⟨q,h1,h2⟩:=Df (p:=fun x:ay=>x.tx==o.tx) ho (by simp)
 exact⟨q,h1,by simpa using h2⟩
theorem LX {s:List ay}{o:ay}(ho:o∈s)(hk:o.kind=2): ∃q,s[kZ s o.tx]? =some q/\q.tx=o.tx/\q.kind=2:=by
 obtain⟨q,h1,h2⟩:=Df (p:=fun x:ay=>x.tx==o.tx&&x.kind==2) ho (by simp[hk])
 exact⟨q,h1,by simpa using h2⟩
theorem X6 {s:List ay}(h:jk s=true){k:Nat}{o:ay}(ho:s[k]? =some o)(hk:0<k){q:ay}(hq:s[k-1]? =some q)(hne:q.tx≠o.tx): ∀j p,j<k->s[j]? =some p->p.tx≠o.tx:=by
 intro j p hj hp ht;unfold jk at h;rw[List.all_eq_true] at h;have hl:k<s.length:=(List.getElem?_eq_some_iff.1 ho).1;have:=h k (List.mem_range.2 hl);have hb:oq s k=true:=by
  unfold oq;rw[ho,hq];simp only[Bool.and_eq_true,bne_iff_ne];refine⟨fun e=>hne e.symm,?_⟩
  unfold lQ;exact List.any_eq_true.2 ⟨p,List.mem_of_getElem? (i:=j) (by rw[List.getElem?_take,if_pos hj];exact hp),by simpa using ht⟩
 rw[hb] at this;simp at this;omega
theorem AX {s:List ay}(h:jk s=true){i j:Nat}{a b:ay}(hi:s[i]? =some a)(hj:s[j]? =some b)(ht:a.tx=b.tx): ∀k c,i<=k->k<=j->s[k]? =some c->c.tx=a.tx:=by
 have key: ∀d k c,k+d=j->i<=k->s[k]? =some c->c.tx=a.tx:=by
  intro d;induction d with
  |zero=>
   intro k c hk _ hc;obtain rfl:k=j:=by omega
   rw[hj] at hc;injection hc with hc;rw[<-hc,ht]
  |succ d ih=>
   intro k c hk hik hc;have hjl:j<s.length:=(List.getElem?_eq_some_iff.1 hj).1;have e:s[k+1]? =some (s[k+1]'(by omega)):=List.getElem?_eq_getElem (by omega)
   have h1:=ih (k+1) _ (by omega) (by omega) e
   by_cases hne:c.tx=(s[k+1]'(by omega)).tx
   .rw[hne,h1]
   .exfalso
    exact X6 h e (by omega) (q:=c) hc hne i a (by omega) hi h1.symm
 intro k c h1 h2 hc;exact key (j-k) k c (by omega) h1 hc
theorem Pf {s:List ay}{j:Nat}{o:ay}(h:s[j]? =some o):fG s o.tx<=j:=by
 rcases Nat.lt_or_ge j (fG s o.tx) with hlt|hge
 .have:=List.not_of_lt_findIdx (p:=fun x:ay=>x.tx==o.tx) hlt
  rw[(List.getElem?_eq_some_iff.1 h).2] at this;simp at this
 .exact hge
end Go.Proofs.YtddkjbibjjehjaaGreatDoor
