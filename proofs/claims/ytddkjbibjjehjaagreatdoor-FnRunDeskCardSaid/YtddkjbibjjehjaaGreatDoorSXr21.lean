/-
  Texts that the proof rests on, joined: part 21.
-/
import Derived.Test.YtddkjbibjjehjaaGreatDoorSXr18
import Derived.Test.YtddkjbibjjehjaaGreatDoorSXr20
set_option maxHeartbeats 16000000
set_option maxRecDepth 100000
namespace Go.Proofs.YtddkjbibjjehjaaGreatDoor
open Go.RowKit Go.BigFrame
set_option linter.unusedVariables false
theorem run_neq_slice_nil {P:Program}(w:World)(t e:TypeId)(a:Option Addr)(n c n' c':Nat)(h:P.underlying t=some (.slice e)):
 (binOp .neq t (.slice a n c) (.slice none n' c')).run P w=.ok (.bool (!a.isNone)) w:=by
 simp only[binOp];simp[Op.equal,Op.maxDepth,Go.Lib.run_equalIn_slice_nil w 9999 t e a n c n' c' h]
def Qh (R:List Nat)(k:Nat):List Int:=([0,1,2,3].take k).foldl (fun b t=>zJ R 4 [] b t) []
theorem Qi {R:List Nat}{k:Nat}(h:k<4):Qh R (k+1)=zJ R 4 [] (Qh R k) (k:Int):=by
 have e: [(0:Int),1,2,3][k]? =some (k:Int):=by
  rcases(by omega:k=0\/k=1\/k=2\/k=3) with rfl|rfl|rfl|rfl<;>rfl
 unfold Qh;rw[aR e,List.foldl_append];rfl
theorem Qj (w:World)(G:Option Addr)(gc:Nat)(R:List Nat)(hG:aM w G 4 (dD R))(wL:World)
 (BL:((((w.alloc (.cells #[.slice G 4 gc] 45)).alloc (.cells #[.slice none 0 0] 45)).alloc (.cells #[] 3)).alloc (.cells #[.slice (some ⟨w.heap.size+2,0,none⟩) 0 0] 45)).alloc
  (.cells #[.func (.func 152) #[] #[.pointer (some ⟨w.heap.size+3,0,none⟩),.pointer (some ⟨w.heap.size,0,none⟩),.pointer (some ⟨w.heap.size+1,0,none⟩),.pointer (some ⟨w.heap.size+4,0,none⟩)]] 187)=wL):
 gD w.heap.size G gc R [] [] wL/\Below w.heap.size w wL:=by
 obtain⟨w1,h1⟩: ∃w1,w.alloc (.cells #[.slice G 4 gc] 45)=w1:=⟨_,rfl⟩;rw[h1] at BL;obtain⟨w2,h2⟩: ∃w2,w1.alloc (.cells #[.slice none 0 0] 45)=w2:=⟨_,rfl⟩;rw[h2] at BL;obtain⟨w3,h3⟩: ∃w3,w2.alloc (.cells #[] 3)=w3:=⟨_,rfl⟩;rw[h3] at BL;obtain⟨w4,h4⟩: ∃w4,w3.alloc (.cells #[.slice (some ⟨w.heap.size+2,0,none⟩) 0 0] 45)=w4:=⟨_,rfl⟩;rw[h4] at BL;have s1:w1.heap.size=w.heap.size+1:=by rw[<-h1];simp
 have s2:w2.heap.size=w.heap.size+2:=by rw[<-h2];simp;omega
 have s3:w3.heap.size=w.heap.size+3:=by rw[<-h3];simp;omega
 have s4:w4.heap.size=w.heap.size+4:=by rw[<-h4];simp;omega
 have b4:Below w4.heap.size w4 wL:=by rw[<-BL];exact aG.alloc aj _
 have b3:Below w3.heap.size w3 wL:=by
  refine Below.trans ?_ (b4.mono (by omega))
  rw[<-h4];exact aG.alloc aj _
 have b2:Below w2.heap.size w2 wL:=by
  refine Below.trans ?_ (b3.mono (by omega))
  rw[<-h3];exact aG.alloc aj _
 have b1:Below w1.heap.size w1 wL:=by
  refine Below.trans ?_ (b2.mono (by omega))
  rw[<-h2];exact aG.alloc aj _
 have b0:Below w.heap.size w wL:=by
  refine Below.trans ?_ (b1.mono (by omega))
  rw[<-h1];exact aG.alloc aj _
 have k1:w1.heap[w.heap.size]? =some (.cells #[.slice G 4 gc] 45 (0,0)):=by rw[<-h1];exact heap_alloc_new w _
 have k2:w2.heap[w.heap.size+1]? =some (.cells #[.slice none 0 0] 45 (0,0)):=by
  have:=heap_alloc_new w1 (.cells #[.slice none 0 0] 45);rw[h2,s1] at this;exact this
 have k3:w3.ownsRow w.heap.size 3 1 (.slice (some ⟨w.heap.size+2,0,none⟩) 0 0) 0 (intCells []):=by
  have:=World.ownsRow_made (base:=w.heap.size) (e:=3) (size:=1) w2 #[] 0 (by omega) (by decide) rfl
  rw[s2,h3] at this;exact this
 have k4:w4.heap[w.heap.size+3]? =some (.cells #[.slice (some ⟨w.heap.size+2,0,none⟩) 0 0] 45 (0,0)):=by
  have:=heap_alloc_new w3 (.cells #[.slice (some ⟨w.heap.size+2,0,none⟩) 0 0] 45);rw[h4,s3] at this;exact this
 have k5:=heap_alloc_new w4 (.cells #[.func (.func 152) #[] #[.pointer (some ⟨w.heap.size+3,0,none⟩),.pointer (some ⟨w.heap.size,0,none⟩),.pointer (some ⟨w.heap.size+1,0,none⟩),.pointer (some ⟨w.heap.size+4,0,none⟩)]] 187);rw[BL,s4] at k5;have k1':=(b1.block _ (by omega)).trans k1
 have k2':=(b2.block _ (by omega)).trans k2
 have k4':=(b4.block _ (by omega)).trans k4
 refine⟨⟨?_,?_,hG.below b0 aj,?_,?_,?_,.slice (some ⟨w.heap.size+2,0,none⟩) 0 0,.slice none 0 0,?_,?_,own_below k3 b3,?_,.inl ⟨rfl,rfl⟩⟩,b0⟩
 .rw[cell_of_row _ _ _ _ _ _ k1'];rfl
 .rw[cell_of_row _ _ _ _ _ _ k5];rfl
 .intro a ha;obtain⟨b,off,_,hA,hlt,_⟩:=hG.at_ (k:=0) (by omega)
  rw[ha] at hA;injection hA with hA;rw[hA];exact hlt
 .simp[World.frozen?,k4']
 .simp[World.frozen?,k2']
 .rw[cell_of_row _ _ _ _ _ _ k4'];rfl
 .rw[cell_of_row _ _ _ _ _ _ k2'];rfl
 .intro g hg;left
  simpa[Value.ownBlock,eq_comm] using hg
theorem D_ (G:Option Addr)(gc:Nat)(R:List Nat)(w:World)(h4:dA R)(hg:aM w G 4 (dD R)):
 Calls Tryz.prog 108 #[.slice G 4 gc] w (jE w (xC R) (!(xC R).isEmpty)):=by
 have HG:=ah hg;have H4:=ah h4;clear hg h4;go_enter Tryz.func108,Tryz.ntmps108;go_wp2_with fail
 simp only[Nat.add_assoc,Nat.reduceAdd];obtain⟨wL,BL⟩: ∃wL,((((w.alloc (.cells #[.slice G 4 gc] 45)).alloc (.cells #[.slice none 0 0] 45)).alloc (.cells #[] 3)).alloc (.cells #[.slice (some ⟨w.heap.size+2,0,none⟩) 0 0] 45)).alloc
  (.cells #[.func (.func 152) #[] #[.pointer (some ⟨w.heap.size+3,0,none⟩),.pointer (some ⟨w.heap.size,0,none⟩),.pointer (some ⟨w.heap.size+1,0,none⟩),.pointer (some ⟨w.heap.size+4,0,none⟩)]] 187)=wL:=⟨_,rfl⟩
 have HST:=ah (Qj w G gc R HG.out wL BL);rw[BL];clear BL;go_loopw [12] (fun i wr=> ∃k:Nat,k<=4/\i=.int .i64 k/\gD w.heap.size G gc R [] (Qh R k) wr/\Below w.heap.size w wr) (fun i _=>4- (intOf i).toNat)
 case atStart=>exact⟨0,by omega,rfl,HST.out.1,HST.out.2⟩
 case round=>
  clear HST;obtain⟨k,hk,rfl,hC,hB⟩:=hrel;by_cases hlt:k<4
  .have hrun:Runs 152:=dG Tryz.func152 (by kernel_rfl) rfl
   unfold Runs at hrun;have hf:=hC.GA;have BK:=ah (Kn w.heap.size G gc R H4.out H4.out 4 [] (Qh R k) (k:Int) wr hC ⟨List.nodup_nil,by simp⟩ (by simp) ⟨by omega,by omega⟩ rfl)
   rw[<-Qi hlt] at BK;have HB:=ah hB;have l1:(k:Int)<4:=by omega
   clear hC hB;go_wp2_with fail
   refine BK.out.mono ?_;rintro e w6 ⟨rfl,OJ,Ir⟩;have Wt:=ah OJ;have Fp:=ah (HB.out.trans Ir);clear OJ Ir;go_wp2_with fail
   go_roundw
   case rel=>exact⟨k+1,by omega,by go_num,Wt.out,Fp.out⟩
   case measure=>simp[intOf];omega
  .obtain rfl:k=4:=by omega
   have hU:Qh R 4=xC R:=rfl;rw[hU] at hC;obtain⟨pv,bv,_,e2,_,_,e5⟩:=hC.box;have L2:=Later.cell e2;have HB:=ah hB;rcases e5 with⟨hbe,rfl⟩|⟨hbne,b,c,cur,rfl,hbc,hbr,hb5,ZV,hbs,_⟩
   .have HO:Hid (∀W',Below w.heap.size w W'->jE w (xC R) (!(xC R).isEmpty) (.returned (.tuple #[.slice none 0 0,.bool false])) W'):=fun W' h=>by
     rw[hbe];exact jE.nil h
    have hz: ∀w1:World,(binOp .neq 45 (.slice none 0 0) (.slice none 0 0)).run Tryz.prog w1=.ok (.bool false) w1:=fun w1=>run_neq_slice_nil w1 45 3 none 0 0 0 0 Tryz.underlying45
    clear hbe hC hU hB;go_wp2_with fail
    refine aQ ?_;repeat(go_big_quiet_step ((go_at_call 129;exact aA _ ((rU none 0 0 _ (by omega) (by omega)).mono fun e w' h=>⟨h.1,h.2▸Below.refl _ _⟩))))
    refine wpQuiet_nil ?_;rintro _ ⟨u,rfl⟩;have hbu:=HB.out.trans (u.2.mono (by have:=HB.out.size;omega))
    go_wp2_with fail
    go_ret2
    exact HO.out _ hbu
   .obtain⟨q,hq⟩: ∃q,(xC R).length=q:=⟨_,rfl⟩;have hfr:aN w wr (some ⟨b,0,none⟩) (xC R).length (xC R):=⟨hbr,fun ad had=>by injection had with had;subst had;exact⟨b,cur,rfl,by omega,ZV,hbs⟩⟩
    have hem:(xC R).isEmpty=false:=by
     cases h:xC R with
     |nil=>exact absurd h hbne
     |cons a b=>rfl
    have hqm:=hbr.2.1;rw[hq] at hqm;have HO:Hid (∀W',Below wr.heap.size wr W'->jE w (xC R) (!(xC R).isEmpty) (.returned (.tuple #[.slice (some ⟨b,0,none⟩) q q,.bool true])) W'):=fun W' h=>by
     rw[hem,<-hq];exact⟨_,_,rfl,Nat.le_refl _,hfr.eZ h,HB.out.trans (h.mono HB.out.size)⟩
    have hz: ∀w1:World,(binOp .neq 45 (.slice (some ⟨b,0,none⟩) q c) (.slice none 0 0)).run Tryz.prog w1=.ok (.bool true) w1:=fun w1=>run_neq_slice_nil w1 45 3 (some ⟨b,0,none⟩) q c 0 0 Tryz.underlying45
    rw[hq] at L2 hbc;clear hC hU hB hfr hem hq hbr ZV hbs hbne;go_wp2_with fail
    refine aQ ?_;repeat(go_big_quiet_step ((go_at_call 129;exact aA _ ((rU (some ⟨b,0,none⟩) q c _ hqm hbc).mono fun e w' h=>⟨h.1,h.2▸Below.refl _ _⟩))))
    refine wpQuiet_nil ?_;rintro _ ⟨u,rfl⟩;have hbu:=u.2;go_wp2_with fail
    go_ret2
    exact HO.out _ hbu
def pq (s:List ay):List Int:=fI (qA (committed s))
theorem yP {s:List ay}(h:aF s=true): ∀t:Int,0<=t->cB (qA (committed s)) t t=false:=fun t ht=>Ou (um h) ht
theorem Kv (A:Option Addr)(n c:Nat)(s:List ay)(w:World)(hx:aC w A n s)(hnc:n<=c):
 Calls Tryz.prog 71 #[.slice A n c] w (jE w (wF (aF s) (pq s)) (aF s&& !(pq s).isEmpty)):=by
 have HX:=ah hx;clear hx;go_enter Tryz.func71,Tryz.ntmps71;go_wp2_with fail
 refine(dx A n c s w HX.out hnc).mono ?_;rintro e w1 ⟨rfl,hb⟩;cases hv:aF s
 .have HV:=ah hv;clear hv;go_wp2_with fail
  go_ret2
  rw[HV.out];exact jE.nil hb
 .have HV:=ah hv;have h4:dA (qA (committed s)):=Ig (um hv);have HE:Hid (xC (qA (committed s))=pq s):=SL h4 (yP hv);have H4:=ah h4;have HG:=ah (Bd A n c s w1 (HX.out.below hb aj) hv);clear hv h4;go_wp2_with fail
  refine HG.out.mono ?_;rintro e w3 ⟨G,gc,rfl,hgc,⟨hg3,_⟩,hb3⟩;have hlen:(dD (qA (committed s))).length=4:=by simp[dD,H4.out.1]
  rw[hlen] at hg3 hgc ⊢;have BM:=hb.trans (hb3.mono hb.size);have hci:=D_ G gc (qA (committed s)) w3 H4.out hg3;rw[HE.out] at hci;have HCI:=ah hci;clear hci hg3 hlen hb3;go_wp2_with fail
  refine HCI.out.mono ?_;rintro e w4 ⟨A4,c4,rfl,hc4,qY,hb4⟩;have HR:Hid (jE w (pq s) (!(pq s).isEmpty) (.returned (.tuple #[.slice A4 (pq s).length c4,.bool (!(pq s).isEmpty)])) w4):=⟨A4,c4,rfl,hc4,qY.since BM.size,BM.trans (hb4.mono BM.size)⟩;clear qY hb4 hc4;go_wp2_with fail
  go_ret2
  rw[HV.out];exact HR.out
def jS (w0:World)(xs:List Int)(e:Ending)(w:World):Prop:= ∃A c,e=.returned (.slice A xs.length c)/\xs.length<=c/\aM w A xs.length xs/\Below w0.heap.size w0 w
theorem jS.nil {w0 w:World}(h:Below w0.heap.size w0 w):jS w0 [] (.returned (.slice none 0 0)) w:=⟨none,0,rfl,Nat.le_refl _,aM.nil,h⟩
theorem jS.mk {w0 w:World}{xs:List Int}{A:Option Addr}{n c:Nat}(hn:xs.length=n)(hc:n<=c)(h:aM w A n xs)(hb:Below w0.heap.size w0 w):jS w0 xs (.returned (.slice A n c)) w:=by
 subst hn;exact⟨A,c,rfl,hc,h,hb⟩
def lD (R:List Nat)(m:Nat)(head:List Int)(t:Int):List Int:=if decide (head.headD 0<t) && !(head.any fun y=>y==t) &&cB R (head.getLastD 0) t then zK R m (head++ [t]) else []
theorem TR (R:List Nat)(m:Nat)(head:List Int):zK R (m+1) head=gq ([0,1,2,3].map (lD R m head)):=rfl
theorem Bf {f:Int->List Int}{j:Nat}(hj:j<4)(hno: ∀u:Nat,u<j->f (u:Int)= [])(h:f (j:Int)≠ []):gq ([0,1,2,3].map f)=f (j:Int):=by
 have hem:(f (j:Int)).isEmpty=false:=by
  cases e:f (j:Int) with
  |nil=>exact absurd e h
  |cons a b=>rfl
 rcases(by omega:j=0\/j=1\/j=2\/j=3) with rfl|rfl|rfl|rfl
 .have e:f 0=f ((0:Nat):Int):=rfl;simp only[List.map,gq,e,hem];simp
 .have e0:f 0= [] :=hno 0 (by omega)
  have e:f 1=f ((1:Nat):Int):=rfl;simp only[List.map,gq,e0,e,hem];simp
 .have e0:f 0= [] :=hno 0 (by omega)
  have e1:f 1= [] :=hno 1 (by omega)
  have e:f 2=f ((2:Nat):Int):=rfl;simp only[List.map,gq,e0,e1,e,hem];simp
 .have e0:f 0= [] :=hno 0 (by omega)
  have e1:f 1= [] :=hno 1 (by omega)
  have e2:f 2= [] :=hno 2 (by omega)
  have e:f 3=f ((3:Nat):Int):=rfl;simp only[List.map,gq,e0,e1,e2,e,hem];simp
theorem yQ {f:Int->List Int}(hno: ∀u:Nat,u<4->f (u:Int)= []):gq ([0,1,2,3].map f)= [] :=by
 have e0:f 0= [] :=hno 0 (by omega)
 have e1:f 1= [] :=hno 1 (by omega)
 have e2:f 2= [] :=hno 2 (by omega)
 have e3:f 3= [] :=hno 3 (by omega)
 simp[List.map,gq,e0,e1,e2,e3]
theorem Ea {head:List Int}{h:Nat}{x:Int}(hl:head.length=h+1)(hx:head[h]? =some x):head.getLastD 0=x:=by
 rw[List.getLastD_eq_getLast?,List.getLast?_eq_getElem?,hl,Nat.add_sub_cancel,hx];rfl
theorem Fv (R:List Nat)(h4:dA R)(G:Option Addr)(gc:Nat)(m:Nat): ∀ (B:Option Addr) (h ch:Nat) (head:List Int) (w:World),aM w G 4 (dD R)->aM w B (h+1) head->(∀x∈head,0<=x/\x<=3)->h+1+m<=4->h+1<=ch->
 Calls Tryz.prog 52 #[.slice G 4 gc,.slice B (h+1) ch,.int .i64 ((h+1+m:Nat):Int)] w (jS w (zK R m head)):=by
 induction m with
 |zero=>
  intro B h ch head w hg hh hr hm hch;obtain⟨bh,BN,x0,rfl,ZV,hx0,hc0⟩:=hh.at_ (k:=0) (by omega)
  obtain⟨bh',aaQ,xl,hA',_,hxl,hcl⟩:=hh.at_ (k:=h) (by omega)
  injection hA' with hA';injection hA' with q1 q2 _;subst q1;subst q2;have hlast:=Ea hh.1 hxl;have hhead:head.headD 0=x0:=by
   cases head with
   |nil=>simp at hx0
   |cons a b=>simpa using hx0
  obtain⟨X0,rfl⟩:=Int.eq_ofNat_of_zero_le (hr x0 (List.mem_of_getElem? hx0)).1;obtain⟨XL,rfl⟩:=Int.eq_ofNat_of_zero_le (hr xl (List.mem_of_getElem? hxl)).1;have hX0:=(hr _ (List.mem_of_getElem? hx0)).2;have hXL:=(hr _ (List.mem_of_getElem? hxl)).2;obtain⟨bG,Fj,rfl,hbG,hcg,xH⟩:=jM h4 hg (t:=XL) (by omega)
  obtain⟨r,hr0⟩: ∃r,R.getD XL 0=r:=⟨_,rfl⟩;rw[hr0] at hcg xH;obtain⟨bb,hbb⟩: ∃b,r.testBit X0=b:=⟨_,rfl⟩;have hcy:zK R 0 head=if bb then head else [] :=by
   unfold zK cB;rw[hlast,hhead,Int.toNat_natCast,Int.toNat_natCast,hr0,hbb]
  have Qk:=ah hcy;have hbit: ∀W:World,Calls Tryz.prog 92 #[.int .i64 (r:Int),.int .i64 (X0:Int)] W fun e w'=>e=.returned (.int .i64 (if bb then 1 else 0))/\W=w':=fun W=>by
   have:=Db r X0 W (by omega) (by omega);rw[hbb] at this;exact this
  have Qf:=ah hbit;have HH:=ah hh;simp only[Nat.add_zero] at hc0;have G0:=Later.cell hc0;have G1:=Later.cell hcl;have G2:=Later.cell hcg;have hX4:(XL:Int)<4:=by omega
  have abX:(0:Int)<=(XL:Int):=by omega
  have hw1:IntKind.i64.wrap ((h:Int)+1-1)=(h:Int):=by rw[show(h:Int)+1-1=(h:Int) by omega];exact IntWalk.i64_in _ (by omega)
  have hh0:(0:Int)<=(h:Int):=by omega
  have hhl:(h:Int)< ((h+1:Nat):Int):=by omega
  clear hh hcy hbit hc0 hcl hcg hg hx0 hxl hlast hhead hr0 hbb hr;go_enter Tryz.func52,Tryz.ntmps52;go_wp2_with fail
  refine aQ ?_;repeat(go_big_quiet_step ((go_at_call 92;exact wZ _ (Qf.out _))))
  refine wpQuiet_nil ?_;rintro _ ⟨u,rfl⟩;cases bb
  .have hz:Hid (jS w (zK R 0 head) (.returned (.slice none 0 0)) u.1):=by
    show jS _ _ _ _
    rw[Qk.out];exact jS.nil u.2
   go_wp2_with fail
   go_ret;exact hz.out
  .have hz:Hid (jS w (zK R 0 head) (.returned (.slice (some ⟨bh,BN,none⟩) (h+1) ch)) u.1):=by
    show jS _ _ _ _
    rw[Qk.out];exact jS.mk HH.out.1 hch (HH.out.later u) u.2
   go_wp2_with fail
   go_ret;exact hz.out
 |succ m ih=>
  intro B h ch head w hg hh hr hm hch;obtain⟨bh,BN,x0,rfl,ZV,hx0,hc0⟩:=hh.at_ (k:=0) (by omega)
  obtain⟨bh',aaQ,xl,hA',_,hxl,hcl⟩:=hh.at_ (k:=h) (by omega)
  injection hA' with hA';injection hA' with q1 q2 _;subst q1;subst q2;have hlast:=Ea hh.1 hxl;have hhead:head.headD 0=x0:=by
   cases head with
   |nil=>simp at hx0
   |cons a b=>simpa using hx0
  obtain⟨X0,rfl⟩:=Int.eq_ofNat_of_zero_le (hr x0 (List.mem_of_getElem? hx0)).1;obtain⟨XL,rfl⟩:=Int.eq_ofNat_of_zero_le (hr xl (List.mem_of_getElem? hxl)).1;have hX0:=(hr _ (List.mem_of_getElem? hx0)).2;have hXL:=(hr _ (List.mem_of_getElem? hxl)).2;obtain⟨bG,Fj,rfl,hbG,hcg,xH⟩:=jM h4 hg (t:=XL) (by omega)
  obtain⟨r,hr0⟩: ∃r,R.getD XL 0=r:=⟨_,rfl⟩;rw[hr0] at hcg xH;have hlow: ∀u:Nat,u<X0+1->lD R m head (u:Int)= [] :=fun u hu=>by
   unfold lD;rw[hhead];have:decide ((X0:Int)< (u:Int))=false:=by simp;omega
   rw[this];rfl
  have XK: ∀k:Nat,X0<k->lD R m head (k:Int)=if !(head.any fun y=>y==(k:Int)) &&r.testBit k then zK R m (head++ [(k:Int)]) else [] :=fun k hk=>by
   unfold lD;rw[hhead,hlast];have:decide ((X0:Int)< (k:Int))=true:=by simp;omega
   rw[this,Bool.true_and];unfold cB;rw[Int.toNat_natCast,Int.toNat_natCast,hr0]
  have abY:=ah hlow;have aaR:=ah XK;have Qk:=ah (TR R m head);have HH:=ah hh;have HG:=ah hg;have HR:=ah hr;have xZ:=ah ih;have Qf:Hid (∀ (k:Nat) (b:Bool) (W:World),k<4->r.testBit k=b->Calls Tryz.prog 92 #[.int .i64 (r:Int),.int .i64 (k:Int)] W fun e w'=>e=.returned (.int .i64 (if b then 1 else 0))/\W=w'):=fun k b W hk hb=>by
   have:=Db r k W (by omega) (by omega);rw[hb] at this;exact this
  have hc0':=hc0;simp only[Nat.add_zero] at hc0';have G0:=Later.cell hc0';have G1:=Later.cell hcl;have G2:=Later.cell hcg;have hX4:(XL:Int)<4:=by omega
  have abX:(0:Int)<=(XL:Int):=by omega
  have hmn:((h:Int)+1==(h:Int)+1+((m:Int)+1))=false:=by rw[beq_eq_false_iff_ne];omega
  simp only[Nat.add_zero] at hc0;clear hh hcl hcg hg hx0 hxl hlast hhead hr0 hr ih hlow XK;go_enter Tryz.func52,Tryz.ntmps52;go_wp2_with fail
  go_loopw [7] (fun i wr=> ∃j:Nat,X0+1<=j/\j<=4/\i=.int .i64 j/\Below w.heap.size w wr/\ ∀u:Nat,u<j->lD R m head (u:Int)= []) (fun i _=>4- (intOf i).toNat)
  case atStart=>exact⟨X0+1,Nat.le_refl _,by omega,by go_num,Below.refl _ _,abY.out⟩
  case round=>
   obtain⟨j,hj1,hj4,rfl,hb,hno⟩:=hrel;have kJ:=ah hno;clear hno;by_cases hlt:j<4
   .obtain⟨b1,hb1⟩: ∃b,(head.any fun y=>y==(j:Int))=b:=⟨_,rfl⟩
    obtain⟨b2,hb2⟩: ∃b,r.testBit j=b:=⟨_,rfl⟩;have hcd:=aaR.out j (by omega)
    rw[hb1,hb2] at hcd;have HCD:=ah hcd;have gZ:Hid (lD R m head (j:Int)= [] -> ∀u:Nat,u<j+1->lD R m head (u:Int)= []):=fun h u hu=>by
     by_cases e:u=j
     .subst e;exact h
     .exact kJ.out u (by omega)
    have hI:=xk (some ⟨bh,BN,none⟩) (h+1) ch head (j:Int) wr (HH.out.below hb aj);rw[hb1] at hI;have HI:=ah hI;have HB2:=ah hb2;have l1:(j:Int)<4:=by omega
    have l2:(0:Int)<=(j:Int):=by omega
    have hs:=hb.size;clear hcd hI hb1 hb2;cases b1
    .go_wp2_with fail
     refine HI.out.mono ?_;rintro e w2 ⟨rfl,hbx⟩;have hbw2:=hb.trans (hbx.mono hs);have g1:=G1 ⟨w2,hbw2⟩;have g2:=G2 ⟨w2,hbw2⟩;simp only at g1 g2;have HBI:=ah (Qf.out j b2 w2 hlt HB2.out);clear hbx;cases b2
     .have hz:=ah (gZ.out (by rw[HCD.out];rfl))
      go_wp2_with fail
      refine HBI.out.mono ?_;rintro e w3 ⟨rfl,hw3⟩;subst hw3;go_wp2_with fail
      go_roundw
      case rel=>exact⟨j+1,by omega,by omega,by go_num,hbw2,hz.out⟩
      case measure=>simp[intOf];omega
     .have hz:Hid (lD R m head (j:Int)=zK R m (head++ [(j:Int)])):=by show _=_;rw[HCD.out];rfl
      have HE:Hid ((w2.alloc (.cells #[] 3)).ownsRow w2.heap.size 3 1 (.slice (some ⟨w2.heap.size,0,none⟩) 0 0) 0 (intCells [])):=World.ownsRow_made w2 #[] 0 aj (by decide) rfl
      have hba:Below w2.heap.size w2 (w2.alloc (.cells #[] 3)):=aG.alloc aj _;have HHX:Hid (aM (w2.alloc (.cells #[] 3)) (some ⟨bh,BN,none⟩) (h+1) head):=(HH.out.below hbw2 aj).below hba aj;have kV:=ah hba;clear hba;go_wp2_with fail
      refine HBI.out.mono ?_;rintro e w3 ⟨rfl,hw3⟩;subst hw3;go_wp2_with (first
       |(at_builtin;refine gI (.tmp 56) (.tmp 57) HE.out (by simp) HHX.out (by omega) rfl rfl rfl rfl ?_;intro v3 w3 hown3 hg3 aU;have hs3:=World.grownBy.size hg3)
       |(at_builtin;refine gI (.tmp 58) (.tmp 60) (hown3.alloc _) (by simp at hs3 ⊢;omega) (dB rfl (j:Int)) (by omega) rfl rfl rfl rfl ?_;intro v4 w4 iy hg4 PV))
      have hb3:Below w2.heap.size w2 w3:=Below.own kV.out HE.out aj hg3;have hb4:Below w2.heap.size w2 w4:=Below.own hb3 hown3 aj (World.grownBy.trans (World.grownBy_alloc w3 _ _) hg4);rw[List.nil_append,Nat.zero_add] at iy;obtain⟨B4,c4,hv4,hc4⟩:=aD iy;subst hv4;have hr4:=aM.aH iy (by omega)
      have xM:=hbw2.trans (hb4.mono hbw2.size);have Y4:=xZ.out B4 (h+1) c4 (head++ [(j:Int)]) w4 (HG.out.below xM aj) hr4 (fun x hx=>by
       rcases List.mem_append.1 hx with hx|hx
       .exact HR.out x hx
       .rw[List.mem_singleton] at hx;subst hx;omega) (by omega) hc4
      rw[show((h+1+1+m:Nat):Int)=(h:Int)+1+((m:Int)+1) by omega,<-hz.out] at Y4
      have BK:=ah Y4;clear hown3 hg3 aU iy hg4 PV Y4 hr4 hb3 hb4;refine BK.out.mono ?_;rintro e w5 ⟨A5,c5,rfl,Jy,F9,hb5⟩;have TS:=xM.trans (hb5.mono xM.size);by_cases hem:lD R m head (j:Int)= []
      .have hz2:=ah (gZ.out hem);have hl0:(lD R m head (j:Int)).length=0:=by rw[hem];rfl
       rw[hl0];clear hem hl0 F9 Jy;go_wp2_with fail
       go_roundw
       case rel=>exact⟨j+1,by omega,by omega,by go_num,TS,hz2.out⟩
       case measure=>simp[intOf];omega
      .have hfin:Hid (jS w (zK R (m+1) head) (.returned (.slice A5 (lD R m head (j:Int)).length c5)) w5):=by
        show jS _ _ _ _
        rw[Qk.out,Bf hlt kJ.out hem];exact⟨A5,c5,rfl,Jy,F9,TS⟩
       have hlp:0< (lD R m head (j:Int)).length:=List.length_pos_iff.2 hem;obtain⟨q,hq⟩: ∃q,(lD R m head (j:Int)).length=q:=⟨_,rfl⟩;rw[hq] at hfin hlp ⊢;clear hem F9 Jy hq;go_wp2_with fail
       go_ret;exact hfin.out
    .have hz:=ah (gZ.out (by rw[HCD.out];rfl))
     go_wp2_with fail
     refine HI.out.mono ?_;rintro e w2 ⟨rfl,hbx⟩;go_wp2_with fail
     go_roundw
     case rel=>exact⟨j+1,by omega,by omega,by go_num,hb.trans (hbx.mono hs),hz.out⟩
     case measure=>simp[intOf];omega
   .obtain rfl:j=4:=by omega
    have hfin:Hid (jS w (zK R (m+1) head) (.returned (.slice none 0 0)) wr):=by
     show jS _ _ _ _
     rw[Qk.out,yQ kJ.out];exact jS.nil hb
    go_wp2_with fail
    go_ret;exact hfin.out
def tF (R:List Nat)(m:Nat):List Int:=gq ([0,1,2,3].map fun t=>zK R m [t])
theorem uK (a b:List (List Int)):gq (a++b)=if gq a= [] then gq b else gq a:=by
 induction a with
 |nil=>simp[gq]
 |cons x r ih=>
  simp only[List.cons_append,gq];split
  .exact ih
  .rename_i h
   rw[if_neg (by intro e;rw[e] at h;simp at h)]
theorem GD (R:List Nat):fI R=if tF R 1= [] then(if tF R 2= [] then tF R 3 else tF R 2) else tF R 1:=by
 have:fI R=gq (([0,1,2,3].map fun t=>zK R 1 [t])++(([0,1,2,3].map fun t=>zK R 2 [t])++([0,1,2,3].map fun t=>zK R 3 [t]))):=rfl
 rw[this,uK,uK];rfl
theorem TT {R:List Nat}{m:Nat}(h1:1<=m)(h3:m<=3)(hp: ∀k,1<=k->k<m->tF R k= [])(h:tF R m≠ []):fI R=tF R m:=by
 rw[GD];rcases(by omega:m=1\/m=2\/m=3) with rfl|rfl|rfl
 .rw[if_neg h]
 .rw[if_pos (hp 1 (by omega) (by omega)),if_neg h]
 .rw[if_pos (hp 1 (by omega) (by omega)),if_pos (hp 2 (by omega) (by omega))]
theorem Wz {R:List Nat}(hp: ∀k,1<=k->k<4->tF R k= []):fI R= [] :=by
 rw[GD,if_pos (hp 1 (by omega) (by omega)),if_pos (hp 2 (by omega) (by omega)),hp 3 (by omega) (by omega)]
theorem qF (R:List Nat)(h4:dA R)(G:Option Addr)(gc:Nat)(w:World)(hg:aM w G 4 (dD R)):
 Calls Tryz.prog 32 #[.slice G 4 gc] w (jS w (fI R)):=by
 have HG:=ah hg;have H4:=ah h4;clear hg h4;go_enter Tryz.func32,Tryz.ntmps32;go_wp2_with fail
 go_loopw [3] (fun i wr=> ∃q:Nat,1<=q/\q<=4/\i=.int .i64 ((q+1:Nat):Int)/\Below w.heap.size w wr/\ ∀k,1<=k->k<q->tF R k= []) (fun i _=>5- (intOf i).toNat)
 case atStart=>exact⟨1,by omega,by omega,by go_num,Below.refl _ _,by omega⟩
 case round=>
  obtain⟨wo,rfl⟩: ∃z:World,z=wr:=⟨_,rfl⟩;obtain⟨q,hq1,hq4,rfl,hb,hno⟩:=hrel;have kJ:=ah hno;clear hno;obtain⟨Q,hQ⟩: ∃Q:Nat,q+1=Q:=⟨_,rfl⟩;by_cases hlt:q<4
  .rw[hQ];have hQi:(Q:Int)<=4:=by omega
   go_wp2_with fail
   go_loopw [4] (fun i wr=> ∃j:Nat,j<=4/\i=.int .i64 j/\Below w.heap.size w wr/\ ∀u:Nat,u<j->zK R q [(u:Int)] = []) (fun i _=>4- (intOf i).toNat)
   case atStart=>exact⟨0,by omega,rfl,hb,by omega⟩
   case round=>
    obtain⟨j,hj4,rfl,hbi,aaS⟩:=hrel;have Sc:=ah aaS;clear aaS;by_cases Y5:j<4
    .have l1:(j:Int)<4:=by omega
     have hs:=hbi.size;have hba:Below w.heap.size w (wr.alloc (.cells #[.int .i64 (j:Int)] 3)):=hbi.alloc hs _;have hC:=Fv R H4.out G gc q (some ⟨wr.heap.size,0,none⟩) 0 1 [(j:Int)] (wr.alloc (.cells #[.int .i64 (j:Int)] 3)) (HG.out.below hba aj) (dB rfl (j:Int)) (by intro x hx;rw[List.mem_singleton] at hx;subst hx;omega) (by omega) aj
     rw[show 0+1+q=Q by omega] at hC
     have HC:=ah hC;have kV:=ah hba;clear hC hba;go_wp2_with fail
     refine HC.out.mono ?_;rintro e w5 ⟨A5,c5,rfl,Jy,F9,hb5⟩;have TS:=kV.out.trans (hb5.mono kV.out.size);by_cases hem:zK R q [(j:Int)] = []
     .have hz:Hid (∀u:Nat,u<j+1->zK R q [(u:Int)] = []):=fun u hu=>by
       by_cases e:u=j
       .subst e;exact hem
       .exact Sc.out u (by omega)
      have hl0:(zK R q [(j:Int)]).length=0:=by rw[hem];rfl
      rw[hl0];clear hem hl0 F9 Jy;go_wp2_with fail
      go_roundw
      case rel=>exact⟨j+1,by omega,by go_num,TS,hz.out⟩
      case measure=>simp[intOf];omega
     .have hrow:tF R q=zK R q [(j:Int)] :=Bf (f:=fun t=>zK R q [t]) Y5 Sc.out hem
      have hfin:Hid (jS w (fI R) (.returned (.slice A5 (zK R q [(j:Int)]).length c5)) w5):=by
       show jS _ _ _ _
       rw[TT hq1 (by omega) kJ.out (by rw[hrow];exact hem),hrow]
       exact⟨A5,c5,rfl,Jy,F9,TS⟩
      have hlp:0< (zK R q [(j:Int)]).length:=List.length_pos_iff.2 hem;obtain⟨p,hp⟩: ∃p,(zK R q [(j:Int)]).length=p:=⟨_,rfl⟩;rw[hp] at hfin hlp ⊢;clear hem F9 Jy hp hrow;go_wp2_with fail
      go_ret;exact hfin.out
    .obtain rfl:j=4:=by omega
     have hz:Hid (∀k,1<=k->k<q+1->tF R k= []):=fun k h1 h2=>by
      by_cases e:k=q
      .subst e;exact yQ (f:=fun t=>zK R k [t]) Sc.out
      .exact kJ.out k h1 (by omega)
     have HQ:=ah hQ;clear hQ;go_wp2_with fail
     go_roundw
     case rel=>exact⟨q+1,by omega,by omega,by have:=HQ.out;go_num,hbi,hz.out⟩
     case measure=>have:=HQ.out;simp[intOf];omega
  .have hfin:Hid (jS w (fI R) (.returned (.slice none 0 0)) wo):=by
    show jS _ _ _ _
    rw[Wz (fun k h1 h2=>kJ.out k h1 (by omega))]
    exact jS.nil hb
   rw[hQ];have hQi: ¬(Q:Int)<=4:=by omega
   go_wp2_with fail
   go_ret;exact hfin.out
section
variable {w:World} {ops:Array Oper} {o:Oper} {a:Act} {K:Act->World->Prop} {Q:Exit->Act->World->Prop} {E:Prop}
theorem aS (s x:Operand){base:Nat}{v:Value}{n:Nat}{xs:List ay}(hown:w.ownsRow base 89 3 v n (aB xs))(hbase:base<=w.heap.size)
 {A:Option Addr} {m c:Nat} {ys:List ay} (hr:aC w A m ys) (hn:n<=1099511627776)
 (hgd:o.guard=none) (ho:o.op=.call { callee:=.builtin .append,args:= #[s,x],argTypes:= #[47,47] }) (hs:a.eval s=v) (hx:a.eval x=.slice A m c)
 (h: ∀v' w',w'.ownsRow base 89 3 v' (n+m) (aB (xs++ys))->w.grownBy w' v.ownBlock->(v'.ownBlock=v.ownBlock\/v'.ownBlock=some w.heap.size)->K (a.put o.dst v') w'):
 if Region.wanted o (yielded ops a.tmps)=true then Oper.wp Tryz.prog o a w K Q else E:=by
 obtain⟨i0,hi,hz0,hz1,hz2⟩:=info_parts CU;have hm:=hr.2.1;refine yM hgd s x _ ho base _ i0 _ 3 24 Tryz.underlying47 hi hz0 hz1 hz2 rfl (by decide) v n _ hs hown A m c _ hx hr.src (by simp only[maxLen];omega) (by omega) hbase ?_
 intro v' w' h1 h2 h3;rw[<-iC] at h1;exact h v' w' h1 h2 h3
end
theorem sG {B:Nat}{V:DV}{D:bY}{w W:World}(hd:aP w B V D)(hW:W=(w.alloc (.cells V.list.toArray 67)).alloc (.cells DV.nil.list.toArray 67)):
 Pk w V B w.heap.size (w.heap.size+1) W V D:=by
 have hR0:Boxed W (w.heap.size+1) DV.nil:=by
  rw[hW];have:=Boxed.new (w.alloc (.cells V.list.toArray 67)) DV.nil;rw[show(w.alloc (.cells V.list.toArray 67)).heap.size=w.heap.size+1 by simp] at this
  exact this
 exact⟨by rw[hW];exact(hd.alloc _).alloc _,by rw[hW];exact((DStep.refl w V).alloc _).alloc _,by rw[hW];exact(Boxed.new w V).alloc _,hR0,by omega,Nat.le_refl _,by omega⟩
theorem OB.made {w:World}{B:Nat}{U:DV}{D:bY}(hd:aP w B U D)(o:ay):OB (w.alloc (.cells o.cells.toArray 89)) U w.heap.size o:=⟨nC.new w o,hd.far aj⟩
end Go.Proofs.YtddkjbibjjehjaaGreatDoor
