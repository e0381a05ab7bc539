/-
  Texts that the proof rests on, joined: part 18.
-/
import Derived.Defers
import Derived.Test.YtddkjbibjjehjaaGreatDoorSXr17
set_option maxHeartbeats 16000000
set_option maxRecDepth 100000
namespace Go.Proofs.YtddkjbibjjehjaaGreatDoor
open Go.RowKit Go.BigFrame
set_option linter.unusedVariables false
def YQ (H:Nat)(best:List Int)(bv pv:Value)(W:World):Prop:=
 (best= [] /\bv=.slice none 0 0)\/(best≠ [] /\ ∃b c cur,bv=.slice (some ⟨b,0,none⟩) best.length c/\best.length<=c/\aM W (some ⟨b,0,none⟩) best.length best/\H+5<=b/\W.heap[b]? =some (.cells cur 3 (0,0))/\best.length<=cur.size/\pv.ownBlock≠some b)
structure gD (H:Nat)(G:Option Addr)(gc:Nat)(R:List Nat)(path best:List Int)(W:World):Prop where
 wJ:W.cell? ⟨H,0,none⟩=some (.slice G 4 gc)
 GA:W.cell? ⟨H+4,0,none⟩=some (.func (.func 152) #[] #[.pointer (some ⟨H+3,0,none⟩),.pointer (some ⟨H,0,none⟩),.pointer (some ⟨H+1,0,none⟩),.pointer (some ⟨H+4,0,none⟩)])
 rows:aM W G 4 (dD R)
 acs: ∀a,G=some a->a.block<H
 pf:W.frozen? ⟨H+3,0,none⟩=false
 bf:W.frozen? ⟨H+1,0,none⟩=false
 box: ∃pv bv,W.cell? ⟨H+3,0,none⟩=some pv/\W.cell? ⟨H+1,0,none⟩=some bv/\W.ownsRow H 3 1 pv path.length (intCells path)/\(∀g,pv.ownBlock=some g->g=H+2\/H+5<=g)/\YQ H best bv pv W
theorem gD.sz {H:Nat}{G:Option Addr}{gc:Nat}{R:List Nat}{path best:List Int}{W:World}(h:gD H G gc R path best W):H+5<=W.heap.size:=by
 have:H+4<W.heap.size:=block_lt_of_cell h.GA;omega
theorem gD.kept {H:Nat}{G:Option Addr}{gc:Nat}{R:List Nat}{path path' best:List Int}{W W':World}{pv pv':Value}(h:gD H G gc R path best W)(hpc:W.cell? ⟨H+3,0,none⟩=some pv)(hs:W.heap.size<=W'.heap.size)
 (hk: ∀k,k<W.heap.size->k≠H+3->pv.ownBlock≠some k->W'.heap[k]? =W.heap[k]?) (hc:W'.cell? ⟨H+3,0,none⟩=some pv') (hf:W'.frozen? ⟨H+3,0,none⟩=false)
 (hown:W'.ownsRow H 3 1 pv' path'.length (intCells path')) (hg: ∀g,pv'.ownBlock=some g->(pv.ownBlock=some g\/W.heap.size<=g)):gD H G gc R path' best W':=by
 have hsz:=h.sz;obtain⟨h1,h2,h3,h4,h5,h6,pv0,bv,e1,e2,e3,e4,e5⟩:=h;rw[hpc] at e1;injection e1 with e1;subst e1;have nb: ∀k,k<H+5->k≠H+2->pv.ownBlock≠some k:=fun k hk5 hk2 e=>by have:=e4 k e;omega
 have cb: ∀k o,k<H+5->k≠H+2->k≠H+3->W'.cell? ⟨k,o,none⟩=W.cell? ⟨k,o,none⟩:=fun k o a b c=>World.cell?_of_block (w:=W) (a:=⟨k,o,none⟩) (hk k (by omega) c (nb k a b))
 refine⟨(cb H 0 (by omega) (by omega) (by omega)).trans h1,(cb (H+4) 0 (by omega) (by omega) (by omega)).trans h2,?_,h4,hf,?_,pv',bv,hc,(cb (H+1) 0 (by omega) (by omega) (by omega)).trans e2,hown,fun g hge=>?_,?_⟩
 .refine h3.kept hs fun ad had=>?_
  have:=h4 ad had;refine hk _ (by omega) (by omega) fun e=>?_
  rcases World.ownsRow.lt e3 _ e with⟨h7,_⟩
  omega
 .unfold World.frozen? at h6 ⊢;rw[hk (H+1) (by omega) (by omega) (nb _ (by omega) (by omega))]
  exact h6
 .rcases hg g hge with h7|h7
  .exact e4 g h7
  .exact .inr (by omega)
 .rcases e5 with⟨a,b⟩|⟨a,b,c,cur,h7,h8,h9,h10,h11,h12,h13⟩
  .exact .inl ⟨a,b⟩
  .have hb:b<W.heap.size:=lt_of_block h11;have hkb:=hk b hb (by omega) h13
   refine .inr ⟨a,b,c,cur,h7,h8,h9.kept hs (fun ad had=>by injection had with had;subst had;exact hkb),h10,hkb.trans h11,h12,fun e=>?_⟩
   rcases hg b e with h14|h14
   .exact h13 h14
   .omega
theorem gD.below {H:Nat}{G:Option Addr}{gc:Nat}{R:List Nat}{path best:List Int}{W W':World}(h:gD H G gc R path best W)(hb:Below W.heap.size W W'):gD H G gc R path best W':=by
 have hsz:=h.sz;obtain⟨pv,bv,e1,e2,e3,e4,e5⟩:=h.box;refine h.kept e1 hb.size (fun k hk _ _=>hb.block k hk) ((hb.cell (p:=⟨H+3,0,none⟩) (by simp;omega)).trans e1) ?_ (own_below e3 hb) (fun g hg=>.inl hg)
 have:=h.pf;rw[<-this];exact hb.frozen (p:=⟨H+3,0,none⟩) (by simp;omega)
theorem gD.push {H:Nat}{G:Option Addr}{gc:Nat}{R:List Nat}{path best:List Int}{W w':World}{pv v':Value}{t:Int}{S:Nat}(h:gD H G gc R path best W)(hp:W.cell? ⟨H+3,0,none⟩=some pv)
 (hown:w'.ownsRow H 3 1 v' (path.length+1) (intCells (path++ [t]))) (hg:W.grownBy w' pv.ownBlock) (hS:W.heap.size<=S) (hat:v'.ownBlock=pv.ownBlock\/v'.ownBlock=some S):
 w'.cell? ⟨H+3,0,none⟩=some pv/\w'.frozen? ⟨H+3,0,none⟩=false/\gD H G gc R (path++ [t]) best (w'.setCell ⟨H+3,0,none⟩ v')/\Below H W (w'.setCell ⟨H+3,0,none⟩ v'):=by
 have hsz:=h.sz;obtain⟨pv0,bv,e1,e2,e3,e4,e5⟩:=h.box;rw[hp] at e1;injection e1 with e1;subst e1;have hgs:=World.grownBy.size hg;have hne:some (H+3)≠pv.ownBlock:=fun e=>by have:=e4 _ e.symm;omega
 have c1:w'.cell? ⟨H+3,0,none⟩=some pv:=(cell_grown hg (p:=⟨H+3,0,none⟩) (by simp;omega) hne).trans hp
 have f1:w'.frozen? ⟨H+3,0,none⟩=false:=(jO hg (p:=⟨H+3,0,none⟩) (by simp;omega) hne).trans h.pf
 have hv3: ∀g,v'.ownBlock=some g->g≠H+3:=fun g hge e=>by
  rcases hat with h1|h1
  .rw[h1] at hge;have:=e4 g hge;omega
  .rw[h1] at hge;injection hge with hge;omega
 refine⟨c1,f1,?_,?_⟩
 .refine h.kept hp (by simp[World.setCell];omega) (fun k hk h3 hne=>?_) (World.cell?_setCell_same' _ _ _ (by rw[c1];rfl)) (by rw[World.frozen?_setCell];exact f1) ?_ (fun g hge=>?_)
  .exact(Below.heap_setCell w' _ _ k (by simpa using h3)).trans (hg.block k hk (fun e=>hne e.symm))
  .rw[List.length_append,List.length_singleton];exact oJ hown fun g hge=>Below.heap_setCell w' _ _ g (by simpa using hv3 g hge)
  .rcases hat with h1|h1
   .rw[h1] at hge;exact .inl hge
   .rw[h1] at hge;injection hge with hge;exact .inr (by omega)
 .have hb:Below H W w':=⟨hg.os,hg.tape,hg.output,hgs,fun k hk=>hg.block k (by omega) (fun e=>by have:=e4 _ e.symm;omega)⟩
  exact hb.setCell (by simp) _
theorem gD.pop {H:Nat}{G:Option Addr}{gc:Nat}{R:List Nat}{path best:List Int}{W:World}{t:Int}(h:gD H G gc R (path++ [t]) best W):
 ∃g c,W.cell? ⟨H+3,0,none⟩=some (.slice (some ⟨g,0,none⟩) (path.length+1) c)/\path.length+1<=c/\c<=9223372036854775807/\W.frozen? ⟨H+3,0,none⟩=false/\
  gD H G gc R path best (W.setCell ⟨H+3,0,none⟩ (.slice (some ⟨g,0,none⟩) path.length c))/\Below H W (W.setCell ⟨H+3,0,none⟩ (.slice (some ⟨g,0,none⟩) path.length c)):=by
 have hsz:=h.sz;obtain⟨pv,bv,e1,e2,e3,e4,e5⟩:=h.box;have e3':=e3;rw[List.length_append,List.length_singleton] at e3';rcases e3'.2 with⟨_,h0⟩|⟨g,cap,cur,rfl,h2,h3,h4,h5,_⟩
 .omega
 .have hg3:g≠H+3:=by have:=e4 g (by simp[Value.ownBlock]);omega
  refine⟨g,cap,e1,h4,by unfold maxLen at h5;omega,h.pf,?_,aG.setCell (by simp) _⟩
  refine h.kept e1 (by simp[World.setCell]) (fun k hk h3 _=>Below.heap_setCell W _ _ k (by simpa using h3)) (World.cell?_setCell_same' _ _ _ (by rw[e1];rfl)) (by rw[World.frozen?_setCell];exact h.pf) ?_ (fun g' hge=>.inl (by simpa[Value.ownBlock] using hge))
  exact oJ (Kh e3' rfl) fun g' hge=>Below.heap_setCell W _ _ g' (by
   have:g=g':=by simpa[Value.ownBlock] using hge
   subst this;simpa using hg3)
theorem gD.better {H:Nat}{G:Option Addr}{gc:Nat}{R:List Nat}{path best:List Int}{W W':World}{A:Option Addr}{c:Nat}(h:gD H G gc R path best W)(hne:path≠ [])(hf:aN W W' A path.length path)(hc:path.length<=c)(hb:Below W.heap.size W W'):
 (∃bv,W'.cell? ⟨H+1,0,none⟩=some bv)/\W'.frozen? ⟨H+1,0,none⟩=false/\gD H G gc R path path (W'.setCell ⟨H+1,0,none⟩ (.slice A path.length c))/\Below H W (W'.setCell ⟨H+1,0,none⟩ (.slice A path.length c)):=by
 have hsz:=h.sz;have h':=h.below hb;have hs:=hb.size;obtain⟨h1,h2,h3,h4,h5,h6,pv,bv,e1,e2,e3,e4,e5⟩:=h';have hpl:0<path.length:=List.length_pos_iff.2 hne;obtain⟨b0,acu,x0,hA,_,_,_⟩:=hf.1.at_ hpl;obtain⟨b,cur,hA',acv,ZV,hbc⟩:=hf.2 _ hA;rw[hA'] at hA;subst hA;have kb: ∀k,k≠H+1->(W'.setCell ⟨H+1,0,none⟩ (.slice (some ⟨b,0,none⟩) path.length c)).heap[k]? =W'.heap[k]? :=fun k hk=>Below.heap_setCell W' _ _ k (by simpa using hk)
 have cb: ∀k o,k≠H+1->(W'.setCell ⟨H+1,0,none⟩ (.slice (some ⟨b,0,none⟩) path.length c)).cell? ⟨k,o,none⟩=W'.cell? ⟨k,o,none⟩:=fun k o hk=>World.cell?_of_block (w:=W') (a:=⟨k,o,none⟩) (kb k hk)
 obtain⟨pv1,bv1,d1,_,d3,_,_⟩:=h.box;have hpv:pv1=pv:=by
  have:=(hb.cell (p:=⟨H+3,0,none⟩) (by simp;omega)).trans d1
  rw[e1] at this;injection this with this;exact this.symm
 subst hpv;have hpb:pv1.ownBlock≠some b:=fun e=>by have:=(World.ownsRow.lt d3 _ e).2;omega
 refine⟨⟨bv,e2⟩,h6,⟨(cb H 0 (by omega)).trans h1,(cb (H+4) 0 (by omega)).trans h2,?_,h4,by rw[World.frozen?_setCell];exact h5,by rw[World.frozen?_setCell];exact h6,pv1,_,(cb (H+3) 0 (by omega)).trans e1,World.cell?_setCell_same' _ _ _ (by rw[e2];rfl),?_,e4,.inr ⟨hne,b,c,cur,rfl,hc,?_,by omega,(kb b (by omega)).trans ZV,hbc,hpb⟩⟩,?_⟩
 .exact h3.kept (by simp[World.setCell]) fun ad had=>kb _ (by have:=h4 ad had;omega)
 .exact oJ e3 fun g hge=>kb g (by have:=e4 g hge;omega)
 .exact hf.1.kept (by simp[World.setCell]) fun ad had=>kb _ (by injection had with had;subst had;simp only;omega)
 .exact(hb.mono (by omega)).setCell (by simp) _
theorem nS {H:Nat}{G:Option Addr}{gc:Nat}{R:List Nat}{path best:List Int}{t:Int}{W:World}(u:FrameMode)(h:gD H G gc R (path++ [t]) best W)(hl:path.length<=4):
 CallsD Tryz.prog 153 #[.pointer (some ⟨H+3,0,none⟩)] u W fun e u' w'=>u'=u/\(e=.returned (.tuple #[])/\gD H G gc R path best w'/\Below H W w'):=by
 obtain⟨g,c,hc,hlc,hcm,hf,hC,hB⟩:=h.pop;have HC:=ah (And.intro hC hB);obtain⟨n,hn⟩: ∃n,path.length=n:=⟨_,rfl⟩;rw[hn] at hc hlc HC hl;have hnc:(n:Int)<=(c:Int):=by omega
 clear h hC hB hn
 go_enter_d Tryz.func153,Tryz.ntmps153
 go_wp2_with fail
 go_end0
 exact⟨rfl,HC.out⟩
def dJ (R:List Nat)(m:Nat)(p b:List Int)(t:Int)(k:Nat):List Int:=
 ([0,1,2,3].take k).foldl (fun b u=>if cB R t u&&decide (p.headD 0<u) && !(p.any fun y=>y==u) then zJ R m p b u else b) b
theorem sD {R:List Nat}{m:Nat}{p b:List Int}{t:Int}{k:Nat}(h:k<4):dJ R m p b t (k+1)=if cB R t (k:Int) &&decide (p.headD 0< (k:Int)) && !(p.any fun y=>y==(k:Int)) then zJ R m p (dJ R m p b t k) (k:Int) else dJ R m p b t k:=by
 have e: [(0:Int),1,2,3][k]? =some (k:Int):=by
  rcases(by omega:k=0\/k=1\/k=2\/k=3) with rfl|rfl|rfl|rfl<;>rfl
 unfold dJ;rw[aR e,List.foldl_append];rfl
def Fh (R:List Nat)(p best:List Int)(t:Int):List Int:=if cB R t (p.headD 0) && (best.isEmpty||decide (p.length<best.length)) then p else best
theorem Qa (R:List Nat)(m:Nat)(path best:List Int)(t:Int):zJ R (m+1) path best t=dJ R m (path++ [t]) (Fh R (path++ [t]) best t) t 4:=rfl
theorem getD_lt {R:List Nat}(h:dA R){t:Nat} :R.getD t 0<16:=by
 rw[List.getD_eq_getElem?_getD];cases e:R[t]? with
 |none=>simp
 |some x=>simpa using h.2 x (List.mem_of_getElem? e)
structure xK (p:List Int):Prop where
 nodup:p.Nodup
 rng: ∀x∈p,0<=x/\x<=3
theorem xK.len {p:List Int}(h:xK p):p.length<=4:=by
 have:=Gf (l1:=p) (l2:= [0,1,2,3]) h.nodup (fun x hx=>by
  have:=h.rng x hx;rcases(by omega:x=0\/x=1\/x=2\/x=3) with rfl|rfl|rfl|rfl<;>simp)
 simpa using this
theorem xK.snoc {p:List Int}{t:Int}(h:xK p)(ht:t ∉ p)(hr:0<=t/\t<=3):xK (p++ [t]):=by
 refine⟨?_,fun x hx=>?_⟩
 .rw[List.nodup_append];refine⟨h.nodup,by simp,?_⟩
  intro a ha b hb;rw[List.mem_singleton] at hb;subst hb;exact fun e=>ht (e▸ha)
 .rcases List.mem_append.1 hx with hx|hx
  .exact h.rng x hx
  .rw[List.mem_singleton] at hx;subst hx;exact hr
theorem Kn (H:Nat)(G:Option Addr)(gc:Nat)(R:List Nat)(h4:dA R)(h4':dA R)(m:Nat): ∀ (path best:List Int) (t:Int) (W:World),gD H G gc R path best W->xK path->t ∉ path->0<=t/\t<=3->path.length+m=4->
 Calls Tryz.prog 152 #[.int .i64 t,.pointer (some ⟨H+3,0,none⟩),.pointer (some ⟨H,0,none⟩),.pointer (some ⟨H+1,0,none⟩),.pointer (some ⟨H+4,0,none⟩)] W fun e W'=>
  e=.returned (.tuple #[])/\gD H G gc R path (zJ R m path best t) W'/\Below H W W':=by
 induction m with
 |zero=>
  intro path best t W hC hp ht hr hl;exfalso
  have:=(hp.snoc ht hr).len;simp at this;omega
 |succ m ih=>
  intro path best t W hC hp ht hr hl;obtain⟨pv,bv,e1,e2,e3,e4,e5⟩:=hC.box;obtain⟨Ap,cp,rfl,hcp⟩:=aD e3;have hsz:=hC.sz;obtain⟨n,hn⟩: ∃n,path.length=n:=⟨_,rfl⟩;rw[hn] at e1 e3 e4 hcp;have hpush: ∀v' w',w'.ownsRow H 3 1 v' (n+1) (intCells (path++ [t]))->(W.alloc (.cells #[.int .i64 t] 3)).grownBy w' (Value.slice Ap n cp).ownBlock->(v'.ownBlock=(Value.slice Ap n cp).ownBlock\/v'.ownBlock=some (W.alloc (.cells #[.int .i64 t] 3)).heap.size)->
   w'.cell? ⟨H+3,0,none⟩=some (.slice Ap n cp)/\w'.frozen? ⟨H+3,0,none⟩=false/\gD H G gc R (path++ [t]) best (w'.setCell ⟨H+3,0,none⟩ v')/\Below H W (w'.setCell ⟨H+3,0,none⟩ v'):=fun v' w' a b c=>
   hC.push e1 (by rw[hn];exact a) (World.grownBy.trans (World.grownBy_alloc W _ _) b) (by simp) c
  have aaI:=hp.snoc ht hr;have aaJ:=ah hpush;have HOWN:=ah e3;have Qb:=ah aaI;have xZ:=ah ih;have H4:=ah h4;have HF:=ah (Qa R m path best t);have HN:=ah hn;have hn3:n+m+1=4:=by omega
  have c0:=hC.wJ;clear hpush e3 e4 e5 e2 hC hp hn ih h4 aaI ht hl
  go_enter_defers Tryz.func152,Tryz.ntmps152
  go_wp2_with (at_builtin;refine gI (.tmp 7) (.tmp 9) (HOWN.out.alloc _) (by simp;omega) (dB rfl t) (by omega) rfl rfl rfl rfl ?_;intro v1 w1 hown1 hg1 jN;obtain⟨A1,c1,rfl,acw⟩:=aD hown1;obtain⟨hc1,hf1,BJ,hB1⟩:=aaJ.out _ w1 hown1 hg1 jN)
  obtain⟨W2,hW2⟩: ∃W2,w1.setCell ⟨H+3,0,none⟩ (.slice A1 (n+1) c1)=W2:=⟨_,rfl⟩;rw[hW2] at BJ hB1 ⊢;clear hW2 hc1 hf1 hown1 hg1 jN;obtain⟨P,hP⟩: ∃P,path++ [t] =P:=⟨_,rfl⟩;rw[hP] at BJ Qb HF;have hPN:P.length=n+1:=by rw[<-hP];simp[HN.out]
  obtain⟨T,rfl⟩:=Int.eq_ofNat_of_zero_le hr.1;obtain⟨x0,rest,hPc⟩: ∃x0 rest,P=x0::rest:=by
   cases P with
   |nil=>simp at hPN
   |cons a b=>exact⟨a,b,rfl⟩
  have hx0:=Qb.out.rng x0 (by rw[hPc];simp)
  obtain⟨K0,rfl⟩:=Int.eq_ofNat_of_zero_le hx0.1;have hPH:P.headD 0=(K0:Int):=by rw[hPc];rfl
  have Gm:P[0]? =some (K0:Int):=by rw[hPc];rfl
  obtain⟨r,hr0⟩: ∃r,R.getD T 0=r:=⟨_,rfl⟩;have xH:=getD_lt h4' (t:=T);rw[hr0] at xH;have MG:=ah hPN;have HPH:=ah hPH;have tQ:=ah Gm;have mJ:=ah hP;have Vk:=ah hr0;have Wm:(T:Int)<4:=by omega
  have hT0:(0:Int)<=(T:Int):=by omega
  obtain⟨pv,bv2,e1',e2',e3',_,e5'⟩:=BJ.box;rw[MG.out] at e3';rcases e3'.2 with⟨_,h0⟩|⟨g,cap,cur,rfl,_,_,hcap,hcm,_⟩
  .omega
  obtain⟨b3,Ws,x3,hA3,hb3,hx3,D6⟩:=(aM.aH e3' (by omega)).at_ (k:=0) (by omega)
  injection hA3 with hA3;injection hA3 with q1 q2 _;subst q1;subst q2;rw[tQ.out] at hx3;injection hx3 with hx3;subst hx3;simp only[Nat.add_zero] at D6;obtain⟨bG,Fj,Ko,hbG,D7,_⟩:=jM H4.out BJ.rows (t:=T) (by omega)
  rw[Vk.out] at D7;have hg0:=BJ.wJ;have hab:=yu r K0 (by omega)
  have hmn:min K0 64=K0:=by omega
  obtain⟨b1,hb1⟩: ∃b,r.testBit K0=b:=⟨_,rfl⟩;rw[hb1] at hab;have pU:cB R (T:Int) (P.headD 0)=b1:=by rw[HPH.out];unfold cB;rw[Int.toNat_natCast,Int.toNat_natCast,Vk.out,hb1]
  have OI:=ah pU;have Cy:=ah BJ;have HRI:=ah (aM.aH e3' (by omega))
  have G0:=Later.cell hg0;have G1:=Later.cell e1';have G2:=Later.cell D6;have G4:=Later.cell e2';have hBI:=e5';have hK0:(0:Int)<=(K0:Int):=by omega
  subst Ko;have G3:=Later.cell D7;have HB1:=ah hB1;clear hPN hPH Gm hP hr0 e1' e2' e3' e5' hb1 pU BJ hg0 D6 D7 hPc hx0 hB1 c0 e1;have MH:Hid (∀B,Fh R P best (T:Int)=B->dJ R m P B (T:Int) 4=zJ R (m+1) path best (T:Int)):=fun B hB=>by rw[HF.out,hB]
  cases b1
  .have TH:Fh R P best (T:Int)=best:=by unfold Fh;rw[OI.out];simp
   obtain⟨B1,xL⟩: ∃B1,best=B1:=⟨_,rfl⟩;have YR:=ah (MH.out _ (TH.trans xL));refine aQ ?_;repeat(go_big_quiet_step (fail))
   refine wpQuiet_nil ?_;rintro _ ⟨u,rfl⟩;have Qc:=Cy.out.below u.2;have Kq:Hid (gD H (some ⟨bG,Fj,none⟩) gc R P B1 u.1/\Below H W u.1):=⟨xL▸Qc,HB1.out.trans (u.2.mono (by have:=Cy.out.sz;omega))⟩
   have hgu:=Qc.wJ;clear Qc TH hBI Cy HB1 xL;obtain⟨w3,hw3⟩: ∃w3,u.1=w3:=⟨_,rfl⟩;rw[hw3] at Kq hgu ⊢;clear hw3;go_wp2_with fail
   go_loopw [37] (fun i wr=> ∃k:Nat,k<=4/\i=.int .i64 k/\gD H (some ⟨bG,Fj,none⟩) gc R P (dJ R m P B1 (T:Int) k) wr/\Below H W wr) (fun i _=>4- (intOf i).toNat)
   case atStart=>exact⟨0,by omega,rfl,Kq.out.1,Kq.out.2⟩
   case round=>
    clear Kq;obtain⟨k,hk,rfl,hC,hB⟩:=hrel;have HC:=ah hC;have HB:=ah hB;by_cases hlt:k<4
    .obtain⟨pv,bv3,e1,_,e3,_,_⟩:=hC.box;have Fg:=e3;rw[MG.out] at Fg e3;rcases Fg.2 with⟨_,h0⟩|⟨g3,MJ,YS,rfl,_,_,TI,YT,_⟩
     .omega
     obtain⟨b3,Ws,x3,hA3,hb3,hx3,D6⟩:=(aM.aH e3 (by omega)).at_ (k:=0) (by omega)
     injection hA3 with hA3;injection hA3 with q1 q2 _;subst q1;subst q2;rw[tQ.out] at hx3;injection hx3 with hx3;subst hx3;simp only[Nat.add_zero] at D6;obtain⟨bG',TJ,Ko,YU,D7,_⟩:=jM H4.out hC.rows (t:=T) (by omega)
     have hg0:=hC.wJ;injection Ko with Ko;injection Ko with q1 q2 _;subst q1;subst q2;rw[Vk.out] at D7;have hab:=yu r k (by omega)
     have hmn:min k 64=k:=by omega
     obtain⟨b1,hb1⟩: ∃b,r.testBit k=b:=⟨_,rfl⟩;obtain⟨b4,hb4⟩: ∃b,(P.any fun y=>y==(k:Int))=b:=⟨_,rfl⟩
     have hT:=sD (R:=R) (m:=m) (p:=P) (b:=B1) (t:=(T:Int)) hlt;have pU:cB R (T:Int) (k:Int)=b1:=by unfold cB;rw[Int.toNat_natCast,Int.toNat_natCast,Vk.out,hb1]
     rw[pU,HPH.out,hb4] at hT;rw[hb1] at hab;have HT:=ah hT;have TK:=ah (iV (some ⟨g3,0,none⟩) (n+1) MJ P (k:Int) wr (aM.aH e3 (by omega)))
     rw[hb4] at TK;have tT:=ah hb4;have l1:(k:Int)<4:=by omega
     have l2:(0:Int)<=(k:Int):=by omega
     clear hT pU hb1 hb4 e3 Fg hC hB;cases b1
     .have hz:Hid (dJ R m P B1 (T:Int) (k+1)=dJ R m P B1 (T:Int) k):=by show _=_;rw[HT.out];simp
      go_wp2_with fail
      go_roundw
      case rel=>exact⟨k+1,by omega,by go_num,by rw[hz.out];exact HC.out,HB.out⟩
      case measure=>simp[intOf];omega
     .by_cases h2:(K0:Int)< (k:Int)
      .go_wp2_with fail
       refine TK.out.mono ?_;rintro e w5 ⟨rfl,hb5⟩;have zY:=HC.out.below hb5;have uJ:=HB.out.trans (hb5.mono (by have:=HB.out.size;have:=HC.out.sz;omega))
       cases b4
       .have hz:Hid (dJ R m P B1 (T:Int) (k+1)=zJ R m P (dJ R m P B1 (T:Int) k) (k:Int)):=by show _=_;rw[HT.out];simp[h2]
        have BK:=ah (xZ.out P (dJ R m P B1 (T:Int) k) (k:Int) w5 zY Qb.out (fun h=>by have:=iH.2 h;rw[tT.out] at this;cases this) ⟨by omega,by omega⟩ (by rw[MG.out];omega))
        have Qd:=zY.GA;have Qe:=ah uJ;clear zY uJ hb5;go_wp2_with fail
        refine BK.out.mono ?_;rintro e w6 ⟨rfl,OJ,Ir⟩;have Wt:=ah OJ;have Fp:=ah (Qe.out.trans Ir);clear OJ Ir;go_wp2_with fail
        go_roundw
        case rel=>exact⟨k+1,by omega,by go_num,by rw[hz.out];exact Wt.out,Fp.out⟩
        case measure=>simp[intOf];omega
       .have hz:Hid (dJ R m P B1 (T:Int) (k+1)=dJ R m P B1 (T:Int) k):=by show _=_;rw[HT.out];simp
        go_wp2_with fail
        go_roundw
        case rel=>exact⟨k+1,by omega,by go_num,by rw[hz.out];exact zY,uJ⟩
        case measure=>simp[intOf];omega
      .have hz:Hid (dJ R m P B1 (T:Int) (k+1)=dJ R m P B1 (T:Int) k):=by show _=_;rw[HT.out];simp[h2]
       go_wp2_with fail
       go_roundw
       case rel=>exact⟨k+1,by omega,by go_num,by rw[hz.out];exact HC.out,HB.out⟩
       case measure=>simp[intOf];omega
    .obtain rfl:k=4:=by omega
     rw[YR.out] at hC;rw[<-mJ.out] at hC;have HD:=ah (nS .returning hC (by rw[HN.out];omega))
     clear hC hB HC;have Vl:=ah HB.out;go_wp2_with fail
     refine leaves_cons (f:=153) (args:= #[.pointer (some ⟨H+3,0,none⟩)]) (by simp) (by simp[go_sem]) ?_
     refine HD.out.mono ?_;rintro e u' w'' ⟨rfl,rfl,hC',hB'⟩;exact⟨_,results_none rfl _ _ _,rfl,hC',Vl.out.trans hB'⟩
  .rcases hBI with⟨hbe,rfl⟩|⟨hbne,bb,cb,acy,rfl,hbc,_,_,_,_,_⟩
   .have TH:Fh R P best (T:Int)=P:=by unfold Fh;rw[OI.out,hbe];simp
    obtain⟨B1,xL⟩: ∃B1,P=B1:=⟨_,rfl⟩;have YR:=ah (MH.out _ (TH.trans xL));have hz: ∀w1:World,(binOp .eql 45 (.slice none 0 0) (.slice none 0 0)).run Tryz.prog w1=.ok (.bool true) w1:=fun w1=>Go.Lib.run_eql_slice_nil w1 45 3 none 0 0 0 0 Tryz.underlying45
    clear TH hbe;refine aQ ?_;repeat(go_big_quiet_step (fail))
    refine wpQuiet_nil ?_;rintro _ ⟨u,rfl⟩;have Qc:=Cy.out.below u.2;have RU:=HB1.out.trans (u.2.mono (by have:=Cy.out.sz;omega))
    have YV:=G1 u;have JF:=ah (xJ g 0 (n+1) cap P u.1 (HRI.out.later u));have Kr:=ah Qc;have Vm:=ah RU;clear Qc RU Cy HB1;go_wp2_with fail
    refine JF.out.mono ?_;rintro e w5 ⟨A5,c5,rfl,Jy,Qd,hb5⟩;obtain⟨⟨bv5,L9⟩,abQ,zY,uJ⟩:=Kr.out.better (by intro e;have:=MG.out;rw[e] at this;simp at this) Qd Jy hb5
    have Kq:Hid (gD H (some ⟨bG,Fj,none⟩) gc R P B1 (w5.setCell ⟨H+1,0,none⟩ (.slice A5 P.length c5))/\Below H W (w5.setCell ⟨H+1,0,none⟩ (.slice A5 P.length c5))):=⟨xL▸zY,Vm.out.trans uJ⟩;have hgu:=zY.wJ;clear zY uJ Qd hb5 JF xL;go_wp2_with fail
    go_loopw [37] (fun i wr=> ∃k:Nat,k<=4/\i=.int .i64 k/\gD H (some ⟨bG,Fj,none⟩) gc R P (dJ R m P B1 (T:Int) k) wr/\Below H W wr) (fun i _=>4- (intOf i).toNat)
    case atStart=>exact⟨0,by omega,rfl,Kq.out.1,Kq.out.2⟩
    case round=>
     clear Kq;obtain⟨k,hk,rfl,hC,hB⟩:=hrel;have HC:=ah hC;have HB:=ah hB;by_cases hlt:k<4
     .obtain⟨pv,bv3,e1,_,e3,_,_⟩:=hC.box;have Fg:=e3;rw[MG.out] at Fg e3;rcases Fg.2 with⟨_,h0⟩|⟨g3,MJ,YS,rfl,_,_,TI,YT,_⟩
      .omega
      obtain⟨b3,Ws,x3,hA3,hb3,hx3,D6⟩:=(aM.aH e3 (by omega)).at_ (k:=0) (by omega)
      injection hA3 with hA3;injection hA3 with q1 q2 _;subst q1;subst q2;rw[tQ.out] at hx3;injection hx3 with hx3;subst hx3;simp only[Nat.add_zero] at D6;obtain⟨bG',TJ,Ko,YU,D7,_⟩:=jM H4.out hC.rows (t:=T) (by omega)
      have hg0:=hC.wJ;injection Ko with Ko;injection Ko with q1 q2 _;subst q1;subst q2;rw[Vk.out] at D7;have hab:=yu r k (by omega)
      have hmn:min k 64=k:=by omega
      obtain⟨b1,hb1⟩: ∃b,r.testBit k=b:=⟨_,rfl⟩;obtain⟨b4,hb4⟩: ∃b,(P.any fun y=>y==(k:Int))=b:=⟨_,rfl⟩
      have hT:=sD (R:=R) (m:=m) (p:=P) (b:=B1) (t:=(T:Int)) hlt;have pU:cB R (T:Int) (k:Int)=b1:=by unfold cB;rw[Int.toNat_natCast,Int.toNat_natCast,Vk.out,hb1]
      rw[pU,HPH.out,hb4] at hT;rw[hb1] at hab;have HT:=ah hT;have TK:=ah (iV (some ⟨g3,0,none⟩) (n+1) MJ P (k:Int) wr (aM.aH e3 (by omega)))
      rw[hb4] at TK;have tT:=ah hb4;have l1:(k:Int)<4:=by omega
      have l2:(0:Int)<=(k:Int):=by omega
      clear hT pU hb1 hb4 e3 Fg hC hB;cases b1
      .have hz:Hid (dJ R m P B1 (T:Int) (k+1)=dJ R m P B1 (T:Int) k):=by show _=_;rw[HT.out];simp
       go_wp2_with fail
       go_roundw
       case rel=>exact⟨k+1,by omega,by go_num,by rw[hz.out];exact HC.out,HB.out⟩
       case measure=>simp[intOf];omega
      .by_cases h2:(K0:Int)< (k:Int)
       .go_wp2_with fail
        refine TK.out.mono ?_;rintro e w5 ⟨rfl,hb5⟩;have zY:=HC.out.below hb5;have uJ:=HB.out.trans (hb5.mono (by have:=HB.out.size;have:=HC.out.sz;omega))
        cases b4
        .have hz:Hid (dJ R m P B1 (T:Int) (k+1)=zJ R m P (dJ R m P B1 (T:Int) k) (k:Int)):=by show _=_;rw[HT.out];simp[h2]
         have BK:=ah (xZ.out P (dJ R m P B1 (T:Int) k) (k:Int) w5 zY Qb.out (fun h=>by have:=iH.2 h;rw[tT.out] at this;cases this) ⟨by omega,by omega⟩ (by rw[MG.out];omega))
         have Qd:=zY.GA;have Qe:=ah uJ;clear zY uJ hb5;go_wp2_with fail
         refine BK.out.mono ?_;rintro e w6 ⟨rfl,OJ,Ir⟩;have Wt:=ah OJ;have Fp:=ah (Qe.out.trans Ir);clear OJ Ir;go_wp2_with fail
         go_roundw
         case rel=>exact⟨k+1,by omega,by go_num,by rw[hz.out];exact Wt.out,Fp.out⟩
         case measure=>simp[intOf];omega
        .have hz:Hid (dJ R m P B1 (T:Int) (k+1)=dJ R m P B1 (T:Int) k):=by show _=_;rw[HT.out];simp
         go_wp2_with fail
         go_roundw
         case rel=>exact⟨k+1,by omega,by go_num,by rw[hz.out];exact zY,uJ⟩
         case measure=>simp[intOf];omega
       .have hz:Hid (dJ R m P B1 (T:Int) (k+1)=dJ R m P B1 (T:Int) k):=by show _=_;rw[HT.out];simp[h2]
        go_wp2_with fail
        go_roundw
        case rel=>exact⟨k+1,by omega,by go_num,by rw[hz.out];exact HC.out,HB.out⟩
        case measure=>simp[intOf];omega
     .obtain rfl:k=4:=by omega
      rw[YR.out] at hC;rw[<-mJ.out] at hC;have HD:=ah (nS .returning hC (by rw[HN.out];omega))
      clear hC hB HC;have Vl:=ah HB.out;go_wp2_with fail
      refine leaves_cons (f:=153) (args:= #[.pointer (some ⟨H+3,0,none⟩)]) (by simp) (by simp[go_sem]) ?_
      refine HD.out.mono ?_;rintro e u' w'' ⟨rfl,rfl,hC',hB'⟩;exact⟨_,results_none rfl _ _ _,rfl,hC',Vl.out.trans hB'⟩
   .obtain⟨q,hq⟩: ∃q,best.length=q:=⟨_,rfl⟩;have hz: ∀w1:World,(binOp .eql 45 (.slice (some ⟨bb,0,none⟩) q cb) (.slice none 0 0)).run Tryz.prog w1=.ok (.bool false) w1:=fun w1=>Go.Lib.run_eql_slice_nil w1 45 3 (some ⟨bb,0,none⟩) q cb 0 0 Tryz.underlying45
    rw[hq] at G4;have Fq:best.isEmpty=false:=by cases best with
     |nil=>exact absurd rfl hbne
     |cons a b=>rfl
    by_cases hlq:n+1<q
    .have TH:Fh R P best (T:Int)=P:=by unfold Fh;rw[OI.out,Fq,MG.out,hq];simp[hlq]
     obtain⟨B1,xL⟩: ∃B1,P=B1:=⟨_,rfl⟩;have YR:=ah (MH.out _ (TH.trans xL));clear TH Fq hbne hq hbc;refine aQ ?_;repeat(go_big_quiet_step (fail))
     refine wpQuiet_nil ?_;rintro _ ⟨u,rfl⟩;have Qc:=Cy.out.below u.2;have RU:=HB1.out.trans (u.2.mono (by have:=Cy.out.sz;omega))
     have YV:=G1 u;have JF:=ah (xJ g 0 (n+1) cap P u.1 (HRI.out.later u));have Kr:=ah Qc;have Vm:=ah RU;clear Qc RU Cy HB1;go_wp2_with fail
     refine JF.out.mono ?_;rintro e w5 ⟨A5,c5,rfl,Jy,Qd,hb5⟩;obtain⟨⟨bv5,L9⟩,abQ,zY,uJ⟩:=Kr.out.better (by intro e;have:=MG.out;rw[e] at this;simp at this) Qd Jy hb5
     have Kq:Hid (gD H (some ⟨bG,Fj,none⟩) gc R P B1 (w5.setCell ⟨H+1,0,none⟩ (.slice A5 P.length c5))/\Below H W (w5.setCell ⟨H+1,0,none⟩ (.slice A5 P.length c5))):=⟨xL▸zY,Vm.out.trans uJ⟩;have hgu:=zY.wJ;clear zY uJ Qd hb5 JF xL;go_wp2_with fail
     go_loopw [37] (fun i wr=> ∃k:Nat,k<=4/\i=.int .i64 k/\gD H (some ⟨bG,Fj,none⟩) gc R P (dJ R m P B1 (T:Int) k) wr/\Below H W wr) (fun i _=>4- (intOf i).toNat)
     case atStart=>exact⟨0,by omega,rfl,Kq.out.1,Kq.out.2⟩
     case round=>
      clear Kq;obtain⟨k,hk,rfl,hC,hB⟩:=hrel;have HC:=ah hC;have HB:=ah hB;by_cases hlt:k<4
      .obtain⟨pv,bv3,e1,_,e3,_,_⟩:=hC.box;have Fg:=e3;rw[MG.out] at Fg e3;rcases Fg.2 with⟨_,h0⟩|⟨g3,MJ,YS,rfl,_,_,TI,YT,_⟩
       .omega
       obtain⟨b3,Ws,x3,hA3,hb3,hx3,D6⟩:=(aM.aH e3 (by omega)).at_ (k:=0) (by omega)
       injection hA3 with hA3;injection hA3 with q1 q2 _;subst q1;subst q2;rw[tQ.out] at hx3;injection hx3 with hx3;subst hx3;simp only[Nat.add_zero] at D6;obtain⟨bG',TJ,Ko,YU,D7,_⟩:=jM H4.out hC.rows (t:=T) (by omega)
       have hg0:=hC.wJ;injection Ko with Ko;injection Ko with q1 q2 _;subst q1;subst q2;rw[Vk.out] at D7;have hab:=yu r k (by omega)
       have hmn:min k 64=k:=by omega
       obtain⟨b1,hb1⟩: ∃b,r.testBit k=b:=⟨_,rfl⟩;obtain⟨b4,hb4⟩: ∃b,(P.any fun y=>y==(k:Int))=b:=⟨_,rfl⟩
       have hT:=sD (R:=R) (m:=m) (p:=P) (b:=B1) (t:=(T:Int)) hlt;have pU:cB R (T:Int) (k:Int)=b1:=by unfold cB;rw[Int.toNat_natCast,Int.toNat_natCast,Vk.out,hb1]
       rw[pU,HPH.out,hb4] at hT;rw[hb1] at hab;have HT:=ah hT;have TK:=ah (iV (some ⟨g3,0,none⟩) (n+1) MJ P (k:Int) wr (aM.aH e3 (by omega)))
       rw[hb4] at TK;have tT:=ah hb4;have l1:(k:Int)<4:=by omega
       have l2:(0:Int)<=(k:Int):=by omega
       clear hT pU hb1 hb4 e3 Fg hC hB;cases b1
       .have hz:Hid (dJ R m P B1 (T:Int) (k+1)=dJ R m P B1 (T:Int) k):=by show _=_;rw[HT.out];simp
        go_wp2_with fail
        go_roundw
        case rel=>exact⟨k+1,by omega,by go_num,by rw[hz.out];exact HC.out,HB.out⟩
        case measure=>simp[intOf];omega
       .by_cases h2:(K0:Int)< (k:Int)
        .go_wp2_with fail
         refine TK.out.mono ?_;rintro e w5 ⟨rfl,hb5⟩;have zY:=HC.out.below hb5;have uJ:=HB.out.trans (hb5.mono (by have:=HB.out.size;have:=HC.out.sz;omega))
         cases b4
         .have hz:Hid (dJ R m P B1 (T:Int) (k+1)=zJ R m P (dJ R m P B1 (T:Int) k) (k:Int)):=by show _=_;rw[HT.out];simp[h2]
          have BK:=ah (xZ.out P (dJ R m P B1 (T:Int) k) (k:Int) w5 zY Qb.out (fun h=>by have:=iH.2 h;rw[tT.out] at this;cases this) ⟨by omega,by omega⟩ (by rw[MG.out];omega))
          have Qd:=zY.GA;have Qe:=ah uJ;clear zY uJ hb5;go_wp2_with fail
          refine BK.out.mono ?_;rintro e w6 ⟨rfl,OJ,Ir⟩;have Wt:=ah OJ;have Fp:=ah (Qe.out.trans Ir);clear OJ Ir;go_wp2_with fail
          go_roundw
          case rel=>exact⟨k+1,by omega,by go_num,by rw[hz.out];exact Wt.out,Fp.out⟩
          case measure=>simp[intOf];omega
         .have hz:Hid (dJ R m P B1 (T:Int) (k+1)=dJ R m P B1 (T:Int) k):=by show _=_;rw[HT.out];simp
          go_wp2_with fail
          go_roundw
          case rel=>exact⟨k+1,by omega,by go_num,by rw[hz.out];exact zY,uJ⟩
          case measure=>simp[intOf];omega
        .have hz:Hid (dJ R m P B1 (T:Int) (k+1)=dJ R m P B1 (T:Int) k):=by show _=_;rw[HT.out];simp[h2]
         go_wp2_with fail
         go_roundw
         case rel=>exact⟨k+1,by omega,by go_num,by rw[hz.out];exact HC.out,HB.out⟩
         case measure=>simp[intOf];omega
      .obtain rfl:k=4:=by omega
       rw[YR.out] at hC;rw[<-mJ.out] at hC;have HD:=ah (nS .returning hC (by rw[HN.out];omega))
       clear hC hB HC;have Vl:=ah HB.out;go_wp2_with fail
       refine leaves_cons (f:=153) (args:= #[.pointer (some ⟨H+3,0,none⟩)]) (by simp) (by simp[go_sem]) ?_
       refine HD.out.mono ?_;rintro e u' w'' ⟨rfl,rfl,hC',hB'⟩;exact⟨_,results_none rfl _ _ _,rfl,hC',Vl.out.trans hB'⟩
    .have TH:Fh R P best (T:Int)=best:=by unfold Fh;rw[OI.out,Fq,MG.out,hq];simp[hlq]
     obtain⟨B1,xL⟩: ∃B1,best=B1:=⟨_,rfl⟩;have YR:=ah (MH.out _ (TH.trans xL));clear TH Fq hbne hq hbc;refine aQ ?_;repeat(go_big_quiet_step (fail))
     refine wpQuiet_nil ?_;rintro _ ⟨u,rfl⟩;have Qc:=Cy.out.below u.2;have RU:=HB1.out.trans (u.2.mono (by have:=Cy.out.sz;omega))
     have YV:=G1 u;have Kq:Hid (gD H (some ⟨bG,Fj,none⟩) gc R P B1 u.1/\Below H W u.1):=⟨xL▸Qc,RU⟩;have hgu:=Qc.wJ;clear Qc RU Cy HB1 xL;obtain⟨w3,hw3⟩: ∃w3,u.1=w3:=⟨_,rfl⟩;rw[hw3] at Kq hgu YV ⊢;clear hw3;go_wp2_with fail
     go_loopw [37] (fun i wr=> ∃k:Nat,k<=4/\i=.int .i64 k/\gD H (some ⟨bG,Fj,none⟩) gc R P (dJ R m P B1 (T:Int) k) wr/\Below H W wr) (fun i _=>4- (intOf i).toNat)
     case atStart=>exact⟨0,by omega,rfl,Kq.out.1,Kq.out.2⟩
     case round=>
      clear Kq;obtain⟨k,hk,rfl,hC,hB⟩:=hrel;have HC:=ah hC;have HB:=ah hB;by_cases hlt:k<4
      .obtain⟨pv,bv3,e1,_,e3,_,_⟩:=hC.box;have Fg:=e3;rw[MG.out] at Fg e3;rcases Fg.2 with⟨_,h0⟩|⟨g3,MJ,YS,rfl,_,_,TI,YT,_⟩
       .omega
       obtain⟨b3,Ws,x3,hA3,hb3,hx3,D6⟩:=(aM.aH e3 (by omega)).at_ (k:=0) (by omega)
       injection hA3 with hA3;injection hA3 with q1 q2 _;subst q1;subst q2;rw[tQ.out] at hx3;injection hx3 with hx3;subst hx3;simp only[Nat.add_zero] at D6;obtain⟨bG',TJ,Ko,YU,D7,_⟩:=jM H4.out hC.rows (t:=T) (by omega)
       have hg0:=hC.wJ;injection Ko with Ko;injection Ko with q1 q2 _;subst q1;subst q2;rw[Vk.out] at D7;have hab:=yu r k (by omega)
       have hmn:min k 64=k:=by omega
       obtain⟨b1,hb1⟩: ∃b,r.testBit k=b:=⟨_,rfl⟩;obtain⟨b4,hb4⟩: ∃b,(P.any fun y=>y==(k:Int))=b:=⟨_,rfl⟩
       have hT:=sD (R:=R) (m:=m) (p:=P) (b:=B1) (t:=(T:Int)) hlt;have pU:cB R (T:Int) (k:Int)=b1:=by unfold cB;rw[Int.toNat_natCast,Int.toNat_natCast,Vk.out,hb1]
       rw[pU,HPH.out,hb4] at hT;rw[hb1] at hab;have HT:=ah hT;have TK:=ah (iV (some ⟨g3,0,none⟩) (n+1) MJ P (k:Int) wr (aM.aH e3 (by omega)))
       rw[hb4] at TK;have tT:=ah hb4;have l1:(k:Int)<4:=by omega
       have l2:(0:Int)<=(k:Int):=by omega
       clear hT pU hb1 hb4 e3 Fg hC hB;cases b1
       .have hz:Hid (dJ R m P B1 (T:Int) (k+1)=dJ R m P B1 (T:Int) k):=by show _=_;rw[HT.out];simp
        go_wp2_with fail
        go_roundw
        case rel=>exact⟨k+1,by omega,by go_num,by rw[hz.out];exact HC.out,HB.out⟩
        case measure=>simp[intOf];omega
       .by_cases h2:(K0:Int)< (k:Int)
        .go_wp2_with fail
         refine TK.out.mono ?_;rintro e w5 ⟨rfl,hb5⟩;have zY:=HC.out.below hb5;have uJ:=HB.out.trans (hb5.mono (by have:=HB.out.size;have:=HC.out.sz;omega))
         cases b4
         .have hz:Hid (dJ R m P B1 (T:Int) (k+1)=zJ R m P (dJ R m P B1 (T:Int) k) (k:Int)):=by show _=_;rw[HT.out];simp[h2]
          have BK:=ah (xZ.out P (dJ R m P B1 (T:Int) k) (k:Int) w5 zY Qb.out (fun h=>by have:=iH.2 h;rw[tT.out] at this;cases this) ⟨by omega,by omega⟩ (by rw[MG.out];omega))
          have Qd:=zY.GA;have Qe:=ah uJ;clear zY uJ hb5;go_wp2_with fail
          refine BK.out.mono ?_;rintro e w6 ⟨rfl,OJ,Ir⟩;have Wt:=ah OJ;have Fp:=ah (Qe.out.trans Ir);clear OJ Ir;go_wp2_with fail
          go_roundw
          case rel=>exact⟨k+1,by omega,by go_num,by rw[hz.out];exact Wt.out,Fp.out⟩
          case measure=>simp[intOf];omega
         .have hz:Hid (dJ R m P B1 (T:Int) (k+1)=dJ R m P B1 (T:Int) k):=by show _=_;rw[HT.out];simp
          go_wp2_with fail
          go_roundw
          case rel=>exact⟨k+1,by omega,by go_num,by rw[hz.out];exact zY,uJ⟩
          case measure=>simp[intOf];omega
        .have hz:Hid (dJ R m P B1 (T:Int) (k+1)=dJ R m P B1 (T:Int) k):=by show _=_;rw[HT.out];simp[h2]
         go_wp2_with fail
         go_roundw
         case rel=>exact⟨k+1,by omega,by go_num,by rw[hz.out];exact HC.out,HB.out⟩
         case measure=>simp[intOf];omega
      .obtain rfl:k=4:=by omega
       rw[YR.out] at hC;rw[<-mJ.out] at hC;have HD:=ah (nS .returning hC (by rw[HN.out];omega))
       clear hC hB HC;have Vl:=ah HB.out;go_wp2_with fail
       refine leaves_cons (f:=153) (args:= #[.pointer (some ⟨H+3,0,none⟩)]) (by simp) (by simp[go_sem]) ?_
       refine HD.out.mono ?_;rintro e u' w'' ⟨rfl,rfl,hC',hB'⟩;exact⟨_,results_none rfl _ _ _,rfl,hC',Vl.out.trans hB'⟩
end Go.Proofs.YtddkjbibjjehjaaGreatDoor
