/-
  Texts that the proof rests on, joined: part 16.
-/
import Derived.Stop.RegionWithIn
import Derived.Laws.EntriesVeiled
import Derived.Test.YtddkjbibjjehjaaGreatDoorSXr15
set_option maxHeartbeats 16000000
set_option maxRecDepth 100000
namespace Go.Proofs.YtddkjbibjjehjaaGreatDoor
open Go.RowKit Go.BigFrame Go.Shelf
set_option linter.unusedVariables false
attribute [local go_sem] Oper.semAt_some
structure gM (a:Nat)(V W:World):Prop where
 os:W.os=V.os
 tape:W.tape=V.tape
 output:W.output=V.output
 size:V.heap.size<=W.heap.size
 block: ∀k,k<V.heap.size-> ¬(a<=k/\k<a+4)->W.heap[k]? =V.heap[k]?
theorem gM.refl (a:Nat)(V:World):gM a V V:=⟨rfl,rfl,rfl,Nat.le_refl _,fun _ _ _=>rfl⟩
theorem gM.trans {a:Nat}{U V W:World}(h:gM a U V)(k:gM a V W):gM a U W:=
 ⟨k.os.trans h.os,k.tape.trans h.tape,k.output.trans h.output,Nat.le_trans h.size k.size,fun i hi hn=>(k.block i (Nat.lt_of_lt_of_le hi h.size) hn).trans (h.block i hi hn)⟩
theorem gM.of_below {a:Nat}{V W:World}(h:Below V.heap.size V W):gM a V W:=⟨h.os,h.tape,h.output,h.size,fun k hk _=>h.block k hk⟩
theorem gM.Tq {a:Nat}{V W:World}{row:Option Nat}(h:V.grownBy W row)(hr: ∀g,row=some g->a<=g/\g<a+4):gM a V W:=
 ⟨h.os,h.tape,h.output,h.size,fun k hk hn=>h.block k hk (fun e=>hn (hr k e.symm))⟩
theorem gM.set {a:Nat}(V:World){p:Addr}(u:Value)(hp:a<=p.block/\p.block<a+4):gM a V (V.setCell p u):=
 ⟨rfl,rfl,rfl,by simp[World.setCell],fun k hk hn=>Below.heap_setCell V p u k (by rintro rfl;exact hn hp)⟩
structure Tt (a bx n0:Nat)(V W:World):Prop where
 size:V.heap.size<=W.heap.size
 block: ∀k,k<V.heap.size->(k<n0\/k=bx\/(a<=k/\k<a+4))->W.heap[k]? =V.heap[k]?
theorem aM.kept {V W:World}{A:Option Addr}{n:Nat}{xs:List Int}(h:aM V A n xs)(hs:V.heap.size<=W.heap.size)(hA: ∀ad,A=some ad->W.heap[ad.block]? =V.heap[ad.block]?):aM W A n xs:=by
 refine⟨h.1,h.2.1,fun hn=>?_⟩
 obtain⟨b,off,hA',hl,hc⟩:=h.2.2 hn;have hk:=hA _ hA';exact⟨b,off,hA',by omega,fun i x hx=>(World.cell?_of_block (w:=V) (a:=⟨b,off+i,none⟩) hk).trans (hc i x hx)⟩
structure Iter (a bx l n c:Nat)(A:Option Addr)(list pre:List Int)(V:World):Prop where
 yb:V.heap[a]? =some (.cells #[.func (.yield l) #[] #[]] 201 (0,0))
 row:V.ownsRow a 3 1 (.slice (some ⟨a+1,0,none⟩) pre.length n) pre.length (intCells pre)
 ob:V.heap[a+2]? =some (.cells #[.slice (some ⟨a+1,0,none⟩) pre.length n] 45 (0,0))
 fb:V.heap[a+3]? =some (.cells #[.func (.func 174) #[] #[.pointer (some ⟨a+2,0,none⟩),.pointer (some ⟨bx,0,none⟩),.pointer (some ⟨a,0,none⟩),.pointer (some ⟨a+3,0,none⟩)]] 129 (0,0))
 lb:V.cell? ⟨bx,0,none⟩=some (.slice A n c)
 list:aM V A n list
theorem Iter.below {a bx l n c:Nat}{A:Option Addr}{list pre:List Int}{V W:World}(h:Iter a bx l n c A list pre V)(hb:Below V.heap.size V W):Iter a bx l n c A list pre W:=
 ⟨(hb.block _ (lt_of_block h.yb)).trans h.yb,own_below h.row hb,(hb.block _ (lt_of_block h.ob)).trans h.ob,(hb.block _ (lt_of_block h.fb)).trans h.fb,
  (hb.cell (p:=⟨bx,0,none⟩) (block_lt_of_cell h.lb)).trans h.lb,h.list.below hb aj⟩
theorem wH {V W:World}{base n m:Nat}{T:TypeId}{sz g c:Nat}{xs:List Value}(h:V.ownsRow base T sz (.slice (some ⟨g,0,none⟩) n c) m xs)(hs:V.heap.size<=W.heap.size)(hk:W.heap[g]? =V.heap[g]?):W.ownsRow base T sz (.slice (some ⟨g,0,none⟩) n c) m xs:=by
 refine⟨h.1,?_⟩;rcases h.2 with⟨e,_⟩|⟨g',cap,cur,e,h2,h3,h4⟩
 .cases e
 .have eg:g'=g:=by
   injection e with e1;injection e1 with e1;injection e1 with e1;exact e1.symm
  subst eg;exact .inr ⟨g',cap,cur,e,h2,hk.trans h3,h4⟩
theorem Iter.kept {a bx l n c n0:Nat}{A:Option Addr}{list pre:List Int}{V W:World}(h:Iter a bx l n c A list pre V)(hA: ∀ad,A=some ad->ad.block<n0)(hk:Tt a bx n0 V W):Iter a bx l n c A list pre W:=by
 have Gv:=hk.block (a+2) (lt_of_block h.ob) (.inr (.inr (by omega)))
 have hyb:=hk.block a (lt_of_block h.yb) (.inr (.inr (by omega)))
 have Te:=hk.block (a+3) (lt_of_block h.fb) (.inr (.inr (by omega)))
 have hrb:=hk.block (a+1) (by have:=lt_of_block h.ob;omega) (.inr (.inr (by omega)))
 have hbx:bx<V.heap.size:=block_lt_of_cell h.lb;have hlb:=hk.block bx hbx (.inr (.inl rfl));refine⟨hyb.trans h.yb,wH h.row hk.size hrb,Gv.trans h.ob,Te.trans h.fb,(World.cell?_of_block (w:=V) (a:=⟨bx,0,none⟩) hlb).trans h.lb,?_⟩;refine⟨h.list.1,h.list.2.1,fun h0=>?_⟩
 obtain⟨b,off,hA',hl,hc⟩:=h.list.2.2 h0;have hkb:=hk.block b hl (.inl (hA _ hA'));have hs:=hk.size;exact⟨b,off,hA',by omega,fun i x hx=>(World.cell?_of_block (w:=V) (a:=⟨b,off+i,none⟩) hkb).trans (hc i x hx)⟩
theorem Iter.cells {a bx l n c:Nat}{A:Option Addr}{list pre:List Int}{V:World}(h:Iter a bx l n c A list pre V):
 V.cell? ⟨a,0,none⟩=some (.func (.yield l) #[] #[])/\V.cell? ⟨a+2,0,none⟩=some (.slice (some ⟨a+1,0,none⟩) pre.length n)/\V.frozen? ⟨a+2,0,none⟩=false/\
 V.cell? ⟨a+3,0,none⟩=some (.func (.func 174) #[] #[.pointer (some ⟨a+2,0,none⟩),.pointer (some ⟨bx,0,none⟩),.pointer (some ⟨a,0,none⟩),.pointer (some ⟨a+3,0,none⟩)]):=by
 refine⟨?_,?_,?_,?_⟩
 .rw[cell_of_row _ _ _ _ _ _ h.yb];rfl
 .rw[cell_of_row _ _ _ _ _ _ h.ob];rfl
 .simp[World.frozen?,h.ob]
 .rw[cell_of_row _ _ _ _ _ _ h.fb];rfl
theorem Iter.put {a bx l n c:Nat}{A:Option Addr}{list pre pre':List Int}{V W:World}(h:Iter a bx l n c A list pre V)(hg:V.grownBy W (some (a+1)))(hbx:bx<a)(hA: ∀ad,A=some ad->ad.block<a)
 (hrow:W.ownsRow a 3 1 (.slice (some ⟨a+1,0,none⟩) pre'.length n) pre'.length (intCells pre')):
 Iter a bx l n c A list pre' (W.setCell ⟨a+2,0,none⟩ (.slice (some ⟨a+1,0,none⟩) pre'.length n)):=by
 have blk: ∀k,k<V.heap.size->k≠a+1->k≠a+2->(W.setCell ⟨a+2,0,none⟩ (.slice (some ⟨a+1,0,none⟩) pre'.length n)).heap[k]? =V.heap[k]? :=fun k hk h1 h2=>
  (Below.heap_setCell W _ _ k (by simpa using h2)).trans (hg.block k hk (fun e=>h1 (by injection e)))
 have hs:=World.grownBy.size hg;have Gv:W.heap[a+2]? =some (.cells #[.slice (some ⟨a+1,0,none⟩) pre.length n] 45 (0,0)):=(hg.block (a+2) (lt_of_block h.ob) (by simp)).trans h.ob
 refine⟨(blk a (lt_of_block h.yb) (by omega) (by omega)).trans h.yb,?_,?_,(blk (a+3) (lt_of_block h.fb) (by omega) (by omega)).trans h.fb,?_,?_⟩
 .refine wH hrow (by simp[World.setCell]) (Below.heap_setCell W _ _ (a+1) (by simp))
 .simp[World.setCell,Array.getElem?_modify,Gv]
 .exact(World.cell?_of_block (w:=V) (a:=⟨bx,0,none⟩) (blk bx (block_lt_of_cell h.lb) (by omega) (by omega))).trans h.lb
 .refine⟨h.list.1,h.list.2.1,fun h0=>?_⟩
  obtain⟨b,off,hA',hl,hc⟩:=h.list.2.2 h0;have hba:=hA _ hA';simp only at hba;refine⟨b,off,hA',by simp[World.setCell];omega,fun i x hx=>(World.cell?_of_block (w:=V) (a:=⟨b,off+i,none⟩) (blk b hl (by omega) (by omega))).trans (hc i x hx)⟩
theorem Kh {w:World}{base g k c:Nat}{xs:List Int}{t:Int}(h:w.ownsRow base 3 1 (.slice (some ⟨g,0,none⟩) (k+1) c) (k+1) (intCells (xs++ [t])))(hk:xs.length=k):w.ownsRow base 3 1 (.slice (some ⟨g,0,none⟩) k c) k (intCells xs):=by
 refine⟨by simp[intCells,hk],?_⟩
 rcases h.2 with⟨e,_⟩|⟨g',cap,cur,e,h2,h3,h4,h5,h6,h7⟩
 .cases e
 .injection e with e1 e2 e3;injection e1 with e1;injection e1 with e1;subst e1;subst e3;refine .inr ⟨_,_,cur,rfl,h2,h3,by omega,h5,h6,?_⟩
  have:(cur.toList.take ((k+1)*1)).take (k*1)=cur.toList.take (k*1):=by rw[List.take_take];congr 1;omega
  rw[<-this,h7];simp[intCells,hk]
attribute [local go_sem] Oper.semAt_some
structure IE (a bx n0 l n:Nat)(list:List Int)(J:List (List Int)->World->Prop):Prop where
 abide: ∀s V W,J s V->gM a V W->J s W
 round: ∀acc x V W1 A' c' m,J acc V->gM a V W1->a+4<=V.heap.size->aN V W1 A' n x->n<=c'->(acc++ [x])<+:fP list n [] ->
  YieldAt Fence.wide m Tryz.prog l #[.slice A' n c'] W1 fun e W'=>e=.returned (.bool true)/\J (acc++ [x]) W'/\Tt a bx n0 W1 W'
def kM (list:List Int)(m:Nat)(pre:List Int)(t:Int):List (List Int):=if pre.any (fun y=>y==t) then [] else fP list m (pre++ [t])
theorem r_ {list:List Int}{m:Nat}{pre:List Int} :fP list (m+1) pre=list.flatMap (kM list m pre):=rfl
theorem Iter.sz {a bx l n c:Nat}{A:Option Addr}{list pre:List Int}{V:World}(h:Iter a bx l n c A list pre V):a+4<=V.heap.size:=by have:=lt_of_block h.fb;omega
theorem PZ (a bx n0 l n c:Nat)(A:Option Addr)(list:List Int)(J:List (List Int)->World->Prop)(hP:IE a bx n0 l n list J)(hA: ∀ad,A=some ad->ad.block<n0)
 (pre:List Int) (acc:List (List Int)) (V:World) (hI:Iter a bx l n c A list pre V) (hJ:J acc V) (hlen:pre.length=n) (hpre:(acc++ [pre])<+:fP list n []):
  Calls Tryz.prog 174 #[.pointer (some ⟨a+2,0,none⟩),.pointer (some ⟨bx,0,none⟩),.pointer (some ⟨a,0,none⟩),.pointer (some ⟨a+3,0,none⟩)] V fun e V'=>
   e=.returned (.bool true)/\Iter a bx l n c A list pre V'/\J (acc++ [pre]) V':=by
 subst hlen;obtain⟨c0,c2,f2,c3⟩:=hI.cells;have clb:=hI.lb;have hln:=hI.list.2.1;have hcl:Calls Tryz.prog 154 #[.slice (some ⟨a+1,0,none⟩) pre.length pre.length] V.drew (aT V.drew pre):=xJ (a+1) 0 pre.length pre.length pre V.drew (aM.aH hI.row hln);have HC:=ah hcl;have HR:Hid (∀ (A1:Option Addr) (c1 m:Nat) (w1:World),aN V.drew w1 A1 pre.length pre->pre.length<=c1->Below V.drew.heap.size V.drew w1->
  YieldAt Fence.wide m Tryz.prog l #[.slice A1 pre.length c1] w1 fun e W'=>e=.returned (.bool true)/\J (acc++ [pre]) W'/\Iter a bx l pre.length c A list pre W'):=by
  intro A1 c1 m w1 hf hc1 hb;refine(hP.round acc pre V w1 A1 c1 m hJ ⟨hb.os,hb.tape,hb.output,hb.size,fun k hk _=>hb.block k hk⟩ hI.sz hf hc1 hpre).mono ?_
  rintro e W' ⟨he,hj,hk⟩;exact⟨he,hj,(hI.below (W:=w1) ⟨hb.os,hb.tape,hb.output,hb.size,hb.block⟩).kept hA hk⟩
 clear hI hJ hpre hP hcl;refine(callsIn_wide (n:=5)).1 ?_;refine callsIn_of_wp Tryz.func174 rfl trivial ?_ rfl;simp only[Tryz.ntmps174,List.size_toArray,List.length_cons,List.length_nil,Nat.reduceAdd,Nat.reduceSub,Array.replicate_succ,Array.replicate_zero,List.push_toArray,List.append_toArray,List.nil_append,List.cons_append]
 gi_wp2
 gi_region_with (first
  |(refine⟨trivial,?_⟩;gi_at_call 154;refine(callsIn_wide.2 HC.out).mono ?_;rintro e w1 ⟨A1,c1,rfl,hc1,hf,hb⟩;have c0':=(hb.cell (p:=⟨a,0,none⟩) (block_lt_of_cell c0)).trans c0;obtain⟨fn,tmps,assign,body,hy,hR⟩:=HR.out A1 c1 4 w1 hf hc1 hb)
  |(refine hR.mono ?_;rintro e w2 ⟨rfl,hJ2,hI2⟩))
 all_goals
  gi_wp2
  go_ret;exact⟨rfl,hI2,hJ2⟩
structure OG (a bx l n c:Nat)(A:Option Addr)(list pre:List Int)(J:List (List Int)->World->Prop)(acc:List (List Int))(V:World):Prop where
 it:Iter a bx l n c A list pre V
 j:J acc V
theorem cell_grown {V W:World}{row:Option Nat}(hg:V.grownBy W row){p:Addr}(hp:p.block<V.heap.size)(hne:some p.block≠row):W.cell? p=V.cell? p:=World.cell?_of_block (w:=V) (hg.block _ hp hne)
theorem jO {V W:World}{row:Option Nat}(hg:V.grownBy W row){p:Addr}(hp:p.block<V.heap.size)(hne:some p.block≠row):W.frozen? p=V.frozen? p:=by
 unfold World.frozen?;rw[hg.block _ hp hne]
theorem Wo {a bx l n c d:Nat}{A:Option Addr}{list pre:List Int}{t:Int}{V W:World}(hd:pre.length=d)(h:Iter a bx l n c A list pre V)(hg:V.grownBy W (some (a+1)))(hbx:bx<a)(hA: ∀ad,A=some ad->ad.block<a)
 (hrow:W.ownsRow a 3 1 (.slice (some ⟨a+1,0,none⟩) (d+1) n) (d+1) (intCells pre++ [.int .i64 t])):
 W.cell? ⟨a+2,0,none⟩=some (.slice (some ⟨a+1,0,none⟩) d n)/\W.frozen? ⟨a+2,0,none⟩=false/\Iter a bx l n c A list (pre++ [t]) (W.setCell ⟨a+2,0,none⟩ (.slice (some ⟨a+1,0,none⟩) (d+1) n))/\
  (W.setCell ⟨a+2,0,none⟩ (.slice (some ⟨a+1,0,none⟩) (d+1) n)).cell? ⟨a+3,0,none⟩=some (.func (.func 174) #[] #[.pointer (some ⟨a+2,0,none⟩),.pointer (some ⟨bx,0,none⟩),.pointer (some ⟨a,0,none⟩),.pointer (some ⟨a+3,0,none⟩)]):=by
 subst hd;obtain⟨c0,c2,f2,c3⟩:=h.cells;have hs:=h.sz;have hl:(pre++ [t]).length=pre.length+1:=by simp
 have hI:Iter a bx l n c A list (pre++ [t]) (W.setCell ⟨a+2,0,none⟩ (.slice (some ⟨a+1,0,none⟩) (pre++ [t]).length n)):=h.put hg hbx hA (by rw[hl];simpa[intCells] using hrow)
 rw[hl] at hI;exact⟨(cell_grown hg (p:=⟨a+2,0,none⟩) (by simp;omega) (by simp)).trans c2,(jO hg (p:=⟨a+2,0,none⟩) (by simp;omega) (by simp)).trans f2,hI,hI.cells.2.2.2⟩
theorem Tv {a:Nat}{V W:World}{u:Value}(hg:V.grownBy W (some (a+1))):gM a V (W.setCell ⟨a+2,0,none⟩ u):=
 (gM.Tq hg (fun g e=>by injection e with e;omega)).trans (gM.set W u (p:=⟨a+2,0,none⟩) (by simp))
theorem Tw (a bx n0 l n c:Nat)(A:Option Addr)(list:List Int)(J:List (List Int)->World->Prop)(hP:IE a bx n0 l n list J)(hbx:bx<a)(hA: ∀ad,A=some ad->ad.block<n0)(hn0:n0<=a)(m:Nat):
 ∀ (pre:List Int) (acc:List (List Int)) (V:World),Iter a bx l n c A list pre V->J acc V->pre.length+m=n->(acc++fP list m pre)<+:fP list n [] ->
  Calls Tryz.prog 174 #[.pointer (some ⟨a+2,0,none⟩),.pointer (some ⟨bx,0,none⟩),.pointer (some ⟨a,0,none⟩),.pointer (some ⟨a+3,0,none⟩)] V fun e V'=>
   e=.returned (.bool true)/\Iter a bx l n c A list pre V'/\J (acc++fP list m pre) V':=by
 induction m with
 |zero=>
  intro pre acc V hI hJ hlen hpre;exact PZ a bx n0 l n c A list J hP hA pre acc V hI hJ (by omega) hpre
 |succ m ih=>
  intro pre acc V hI hJ hlen hpre;obtain⟨d,hh⟩: ∃d,pre.length=d:=⟨_,rfl⟩;have HLEN:=ah hh;have hhn:d<n:=by omega
  have hdm:d+m+1=n:=by omega
  have hdn:((d:Int)==(n:Int))=false:=by simp;omega
  obtain⟨c0,c2,f2,c3⟩:=hI.cells;rw[hh] at c2;have clb:=hI.lb;have hln:=hI.list.2.1;have hlist:=hI.list.1;have HP:=ah hP;have xZ:=ah ih;have abJ:=ah hpre;have HFI:Hid (OG a bx l n c A list pre J acc V):=⟨hI,hJ⟩;have HA:=ah hA;have HL:=ah hlist;clear hI hJ hP ih hpre hA hlist hlen hh;go_enter Tryz.func174,Tryz.ntmps174;go_wp2_with fail
  go_loopw [18] (fun i wr=> ∃k:Nat,k<=n/\i=.int .i64 k/\OG a bx l n c A list pre J (acc++(list.take k).flatMap (kM list m pre)) wr) (fun i _=>n- (intOf i).toNat)
  case atStart=>exact⟨0,Nat.zero_le _,rfl,by simpa using HFI.out⟩
  case round=>
   clear HFI c0 c2 f2 c3 clb;obtain⟨k,hk,rfl,hinv⟩:=hrel;have nQ:=ah hinv;clear hinv;by_cases hlt:k<n
   .obtain⟨c0,c2,f2,c3⟩:=nQ.out.it.cells;rw[HLEN.out] at c2;obtain⟨b,off,t,hAe,hbl,ho,ct⟩:=nQ.out.it.list.at_ hlt;have hbA:b<a:=by have:=HA.out _ hAe;simp only at this;omega
    subst hAe;have hst:(list.take (k+1)).flatMap (kM list m pre)=(list.take k).flatMap (kM list m pre)++kM list m pre t:=by
     rw[aR ho,List.flatMap_append];simp
    have hpx:fP list (m+1) pre=((list.take k).flatMap (kM list m pre)++kM list m pre t)++(list.drop (k+1)).flatMap (kM list m pre):=by
     rw[r_,<-hst,<-List.flatMap_append,List.take_append_drop]
    have HPX:Hid ((acc++(list.take k).flatMap (kM list m pre)++kM list m pre t)<+:fP list n []):=by
     have:=abJ.out;rw[hpx] at this;refine List.IsPrefix.trans ⟨(list.drop (k+1)).flatMap (kM list m pre),?_⟩ this;simp[List.append_assoc]
    have HST:Hid (acc++(list.take (k+1)).flatMap (kM list m pre)=acc++(list.take k).flatMap (kM list m pre)++kM list m pre t):=by show _=_;rw[hst,List.append_assoc]
    have HN:Hid (kM list m pre t=if pre.any (fun y=>y==t) then [] else fP list m (pre++ [t])):=rfl
    clear hst hpx ho;generalize acc++(list.take k).flatMap (kM list m pre)=aaB at*;generalize kM list m pre t=nx at*;have hrow:=nQ.out.it.row;rw[HLEN.out] at hrow;have hcI:Calls Tryz.prog 155 #[.slice (some ⟨a+1,0,none⟩) d n,.int .i64 t] wr fun e w'=>e=.returned (.bool (pre.any fun y=>y==t))/\Below wr.heap.size wr w':=iV (some ⟨a+1,0,none⟩) d n pre t wr (aM.aH hrow (by omega))
    obtain⟨bc,hbc⟩: ∃bc,(pre.any fun y=>y==t)=bc:=⟨_,rfl⟩
    have HBC:=ah hbc;rw[hbc] at hcI;have HC:=ah hcI;have jX:=ah hrow;have clb:=nQ.out.it.lb;have hsz:=nQ.out.it.sz;clear hcI hbc hrow;cases bc
    .go_wp2_with fail
     refine(HC.out).mono ?_;rintro e w1 ⟨rfl,hb1⟩;have c2':=(hb1.cell (p:=⟨a+2,0,none⟩) (by simp;omega)).trans c2
     have f2':=(hb1.frozen (p:=⟨a+2,0,none⟩) (by simp;omega)).trans f2
     have Tx:=(own_below jX.out hb1).alloc (.cells #[.int .i64 t] 3);have uf:=hb1.size;have HI1:Hid (Iter a bx l n c (some ⟨b,off,none⟩) list pre (w1.alloc (.cells #[.int .i64 t] 3))):=nQ.out.it.below ((hb1.trans ((Below.refl wr.heap.size w1).alloc uf _)));have HJ1:Hid (∀W,gM a (w1.alloc (.cells #[.int .i64 t] 3)) W->J aaB W):=fun W hW=>HP.out.abide _ _ _ nQ.out.j ((gM.of_below (hb1.trans ((Below.refl wr.heap.size w1).alloc uf _))).trans hW)
     have Vi:Hid (∀ad,some (⟨b,off,none⟩:Addr)=some ad->ad.block<a):=fun ad h=>by injection h with h;subst h;exact hbA
     go_wp2_with (at_builtin;refine wpList_append_fits _ rfl (.tmp 25) (.tmp 27) 45 rfl a 3 (info_parts jI).choose 1 Tryz.underlying45 (info_parts jI).choose_spec.1 (info_parts jI).choose_spec.2.2.1 (a+1) d n (intCells pre) rfl Tx ⟨w1.heap.size,0,none⟩ 1 1 [.int .i64 t] rfl rfl (cell_one_new _ _ _) (by simp[Value.oneCell']) (by omega) ?_;intro w3 hown3 hg3;have hpl:=Wo HLEN.out HI1.out hg3 hbx Vi.out hown3;have c2w:=hpl.1;have f2w:=hpl.2.1;have c3w:=hpl.2.2.2;have HI4:=ah hpl.2.2.1;have HJ4:=ah (HJ1.out _ (Tv (u:=.slice (some ⟨a+1,0,none⟩) (d+1) n) hg3));clear hpl hown3 hg3)
     have aaC:(pre++ [t]).length+m=n:=by simp[HLEN.out];omega
     refine(xZ.out (pre++ [t]) aaB _ HI4.out HJ4.out aaC (by have:=HPX.out;rw[HN.out,HBC.out] at this;simpa using this)).mono ?_
     rintro e w5 ⟨rfl,hI5,hJ5⟩;obtain⟨_,c25,f25,_⟩:=hI5.cells;have hl5:(pre++ [t]).length=d+1:=by simp[HLEN.out]
     rw[hl5] at c25;have s1:IntKind.i64.wrap (((d+1:Nat):Int) -1)=(d:Int):=by rw[IntWalk.i64_in _ (by omega)];omega
     have HI5:=ah hI5;have HJ5:=ah hJ5;clear hI5 hJ5 c2w f2w c3w;go_wp2_with fail
     go_roundw
     case rel=>exact⟨k+1,by omega,by go_num,by
      rw[HST.out,HN.out,HBC.out,if_neg (by simp)]
      refine⟨?_,HP.out.abide _ _ _ HJ5.out (gM.set _ _ (by simp))⟩
      have hr:=HI5.out.row;rw[hl5] at hr;have h6:=HI5.out.put (pre':=pre) (World.grownBy.refl _ _) hbx Vi.out (by rw[HLEN.out];exact Kh (xs:=pre) hr HLEN.out)
      rw[HLEN.out] at h6;exact h6⟩
     case measure=>simp[intOf];omega
    .go_wp2_with fail
     refine(HC.out).mono ?_;rintro e w1 ⟨rfl,hb1⟩;go_wp2_with fail
     go_roundw
     case rel=>exact⟨k+1,by omega,by go_num,by
      rw[HST.out,HN.out,HBC.out,if_pos rfl,List.append_nil];exact⟨nQ.out.it.below hb1,HP.out.abide _ _ _ nQ.out.j (gM.of_below hb1)⟩⟩
     case measure=>simp[intOf];omega
   .obtain rfl:k=n:=by omega
    go_wp2_with fail
    go_ret;have e:list.take k=list:=List.take_of_length_le (by have:=HL.out;omega)
    have hi:=nQ.out;rw[e] at hi;exact⟨rfl,hi.it,hi.j⟩
attribute [local go_sem] Oper.semAt_some
theorem Mx (n:Nat)(hn:n<=1000000)(w:World): ∃cs:Array Value,cs.size=n/\
 (Instr.makeSlice 45 (.int .i64 0) (.int .i64 (n:Int))).run Tryz.prog w=.ok (.slice (some ⟨w.heap.size,0,none⟩) 0 n) (w.alloc (.cells cs 3)):=by
 obtain⟨i0,hi,hz0,hz1,hz2⟩:=info_parts jI;have:=run_makeSlice (P:=Tryz.prog) (w:=w) 45 3 i0 _ Tryz.underlying45 hi hz0 .i64 .i64 0 (n:Int) (Int.le_refl _) (by omega) (by rw[hz1];omega) (by rw[hz2];omega) (by omega)
 simp only[Int.toNat_zero,Int.toNat_natCast,hz1] at this;exact⟨_,by rw[size_madeCells];omega,this⟩
theorem zW (A:Option Addr)(n c:Nat)(w:World):
 Calls Tryz.prog 146 #[.slice A n c] w fun e w'=>e=.returned (.func (.func 173) #[] #[.pointer (some ⟨w.heap.size,0,none⟩)])/\w'=w.alloc (.cells #[.slice A n c] 45):=by
 go_enter Tryz.func146,Tryz.ntmps146;go_wp2_with fail
 go_ret;exact⟨rfl,rfl⟩
theorem MB {bx l n c:Nat}{A:Option Addr}{list:List Int}{W:World}{cs:Array Value}(hcs:cs.size=n)(hb:W.cell? ⟨bx,0,none⟩=some (.slice A n c))(hl:aM W A n list)(hn:n<=4):
 Iter W.heap.size bx l n c A list [] ((((W.alloc (.cells #[.func (.yield l) #[] #[]] 201)).alloc (.cells cs 3)).alloc (.cells #[.slice (some ⟨W.heap.size+1,0,none⟩) 0 n] 45)).alloc (.cells #[.func (.func 174) #[] #[.pointer (some ⟨W.heap.size+2,0,none⟩),.pointer (some ⟨bx,0,none⟩),.pointer (some ⟨W.heap.size,0,none⟩),.pointer (some ⟨W.heap.size+3,0,none⟩)]] 129)):=by
 obtain⟨W1,h1⟩: ∃W1,W.alloc (.cells #[.func (.yield l) #[] #[]] 201)=W1:=⟨_,rfl⟩;obtain⟨W2,h2⟩: ∃W2,W1.alloc (.cells cs 3)=W2:=⟨_,rfl⟩;obtain⟨W3,h3⟩: ∃W3,W2.alloc (.cells #[.slice (some ⟨W.heap.size+1,0,none⟩) 0 n] 45)=W3:=⟨_,rfl⟩;obtain⟨W4,h4⟩: ∃W4,W3.alloc (.cells #[.func (.func 174) #[] #[.pointer (some ⟨W.heap.size+2,0,none⟩),.pointer (some ⟨bx,0,none⟩),.pointer (some ⟨W.heap.size,0,none⟩),.pointer (some ⟨W.heap.size+3,0,none⟩)]] 129)=W4:=⟨_,rfl⟩;rw[h1,h2,h3,h4];have s1:W1.heap.size=W.heap.size+1:=by rw[<-h1];simp
 have s2:W2.heap.size=W.heap.size+2:=by rw[<-h2];simp;omega
 have s3:W3.heap.size=W.heap.size+3:=by rw[<-h3];simp;omega
 have b4:Below W3.heap.size W3 W4:=by rw[<-h4];exact aG.alloc aj _
 have b3:Below W2.heap.size W2 W4:=by
  refine Below.trans ?_ (b4.mono (by omega))
  rw[<-h3];exact aG.alloc aj _
 have b2:Below W1.heap.size W1 W4:=by
  refine Below.trans ?_ (b3.mono (by omega))
  rw[<-h2];exact aG.alloc aj _
 have b1:Below W.heap.size W W4:=by
  refine Below.trans ?_ (b2.mono (by omega))
  rw[<-h1];exact aG.alloc aj _
 have k1:W1.heap[W.heap.size]? =some (.cells #[.func (.yield l) #[] #[]] 201 (0,0)):=by rw[<-h1];exact heap_alloc_new W _
 have k2:W2.ownsRow W.heap.size 3 1 (.slice (some ⟨W.heap.size+1,0,none⟩) 0 n) 0 (intCells []):=by
  have:=World.ownsRow_made (base:=W.heap.size) (e:=3) (size:=1) W1 cs n (by omega) (by unfold maxLen;omega) (by omega)
  rw[s1,h2] at this;exact this
 have k3:W3.heap[W.heap.size+2]? =some (.cells #[.slice (some ⟨W.heap.size+1,0,none⟩) 0 n] 45 (0,0)):=by
  have:=heap_alloc_new W2 (.cells #[.slice (some ⟨W.heap.size+1,0,none⟩) 0 n] 45);rw[h3,s2] at this;exact this
 have k4:=heap_alloc_new W3 (.cells #[.func (.func 174) #[] #[.pointer (some ⟨W.heap.size+2,0,none⟩),.pointer (some ⟨bx,0,none⟩),.pointer (some ⟨W.heap.size,0,none⟩),.pointer (some ⟨W.heap.size+3,0,none⟩)]] 129);rw[h4,s3] at k4;exact⟨(b2.block _ (by omega)).trans k1,own_below k2 b3,(b4.block _ (by omega)).trans k3,k4,(b1.cell (p:=⟨bx,0,none⟩) (block_lt_of_cell hb)).trans hb,hl.below b1 aj⟩
theorem P5 (bx n0 l n c:Nat)(A:Option Addr)(list:List Int)(J:List (List Int)->World->Prop)(W:World)(hP:IE W.heap.size bx n0 l n list J)
 (hb:W.cell? ⟨bx,0,none⟩=some (.slice A n c)) (hl:aM W A n list) (hA: ∀ad,A=some ad->ad.block<n0) (hn0:n0<=W.heap.size) (Pt:n<=4) (h0:J [] W):
 Calls Tryz.prog 173 #[.func (.yield l) #[] #[],.pointer (some ⟨bx,0,none⟩)] W fun e W'=>(∃v,e=.returned v)/\J (fP list n []) W':=by
 obtain⟨cs,hcs,hmk⟩:=Mx n (by omega) (W.alloc (.cells #[.func (.yield l) #[] #[]] 201))
 have hbx:bx<W.heap.size:=by have:=block_lt_of_cell hb;simpa using this
 have HX:=ah (And.intro hl (And.intro h0 hP));have HA:=ah hA;have MC:=ah hcs;clear hl h0 hP hA hcs;go_enter Tryz.func173,Tryz.ntmps173;go_wp2_with fail
 refine(Tw W.heap.size bx n0 l n c A list J HX.out.2.2 hbx HA.out hn0 n [] [] _ (MB MC.out hb HX.out.1 Pt) (HX.out.2.2.abide _ _ _ HX.out.2.1 ?hst) (by simp) (by simp)).mono ?_
 case hst=>exact gM.of_below ((((Below.refl _ W).alloc aj _).alloc (by simp) _).alloc (by simp;omega) _|>.alloc (by simp;omega) _)
 rintro e w5 ⟨rfl,_,hJ5⟩;have HJ5:=ah hJ5;clear hJ5;go_wp2_with fail
 go_end0
 exact⟨⟨_,rfl⟩,by have:=HJ5.out;simpa using this⟩
def six (w:World):World:=(((((w.alloc (.cells #[] 3)).alloc (.cells #[] 3)).alloc (.cells #[] 3)).alloc (.cells #[] 3)).alloc (.cells #[] 3)).alloc (.cells #[] 3)
theorem uG (w:World):(six w).heap.size=w.heap.size+6:=by simp[six]
structure gu (b:Nat)(V W:World):Prop where
 os:W.os=V.os
 tape:W.tape=V.tape
 output:W.output=V.output
 size:V.heap.size<=W.heap.size
 block: ∀k,k<V.heap.size-> ¬(b<=k/\k<b+6)->W.heap[k]? =V.heap[k]?
theorem gu.refl (b:Nat)(V:World):gu b V V:=⟨rfl,rfl,rfl,Nat.le_refl _,fun _ _ _=>rfl⟩
theorem gu.trans {b:Nat}{U V W:World}(h:gu b U V)(k:gu b V W):gu b U W:=
 ⟨k.os.trans h.os,k.tape.trans h.tape,k.output.trans h.output,Nat.le_trans h.size k.size,fun i hi hn=>(k.block i (Nat.lt_of_lt_of_le hi h.size) hn).trans (h.block i hi hn)⟩
theorem gu.of_below {b:Nat}{V W:World}(h:Below V.heap.size V W):gu b V W:=⟨h.os,h.tape,h.output,h.size,fun k hk _=>h.block k hk⟩
theorem gu.Tz {b:Nat}{V W:World}(h:gM (b+2) V W):gu b V W:=⟨h.os,h.tape,h.output,h.size,fun k hk hn=>h.block k hk (fun e=>hn (by omega))⟩
theorem gu.put {b:Nat}(V:World){l:Nat}(o:Obj)(hl:b<=l/\l<b+6):gu b V (V.putObj l o):=
 ⟨rfl,rfl,rfl,by simp,fun k hk hn=>World.putObj_heap_other (by rintro rfl;exact hn hl)⟩
structure sj (b bx n0:Nat)(V W:World):Prop where
 size:V.heap.size<=W.heap.size
 block: ∀k,k<V.heap.size->(k<n0\/k=bx\/(b<=k/\k<b+6))->W.heap[k]? =V.heap[k]?
theorem sj.trans {b bx n0:Nat}{U V W:World}(h:sj b bx n0 U V)(k:sj b bx n0 V W):sj b bx n0 U W:=
 ⟨Nat.le_trans h.size k.size,fun i hi hn=>(k.block i (Nat.lt_of_lt_of_le hi h.size) hn).trans (h.block i hi hn)⟩
theorem sj.of_below {b bx n0:Nat}{V W:World}(h:Below V.heap.size V W):sj b bx n0 V W:=⟨h.size,fun k hk _=>h.block k hk⟩
def uH (b bx n0:Nat)(I:List (List Int)->World->Prop)(xs:List (List Int))(W:World):Exit->Act->World->Prop
 | .normal,_,W'=>sj b bx n0 W W'/\I xs W'
 |_,_,_=>False
theorem uI {g:Operand}{ps:Array Tmp}{assign body:Code}{Q:Exit->Act->World->Prop}{a:Act}{w:World}{N:Nat}(bx n0 n c:Nat)(A:Option Addr)(list:List Int)
 (hg:a.eval g=.func (.func 173) #[] #[.pointer (some ⟨bx,0,none⟩)]) (hps:ps.size=1)
 (hb:w.cell? ⟨bx,0,none⟩=some (.slice A n c)) (hl:aM w A n list) (hA: ∀ad,A=some ad->ad.block<n0) (hn0:n0<=w.heap.size) (Pt:n<=4)
 (I:List (List Int)->World->Prop) (hI: ∀s V W,I s V->gu w.heap.size V W->I s W) (h0:I [] w) (a₁:Value->Act)
 (hassign: ∀ (l m:Nat) (v:Value) (W:World) (K:Act->World->Prop),K (a₁ v) W->
  assign.wpIn (Fence.wide.inRound l) m Tryz.prog (Exit.then K (fun _ _ _=>False)) { tmps:=(ps.zip #[v]).foldl (fun t (p,v)=>t.setIfInBounds p v) a.tmps,defers:= [] } W)
 (hbody: ∀ (l m:Nat) (pre:List (List Int)) (x:List Int) (V W:World) (A':Option Addr) (c':Nat),I pre V->gu w.heap.size V W->w.heap.size+6<=V.heap.size->aN V W A' n x->n<=c'->(pre++ [x])<+:fP list n [] ->
  body.wpIn (Fence.wide.inRound l) m Tryz.prog (uH w.heap.size bx n0 I (pre++ [x]) W) (a₁ (.slice A' n c')) W)
 (hdone: ∀W:World,I (fP list n []) W->w.heap.size<W.heap.size->W.heap[w.heap.size]? =some (.deferred (some []))->Q .normal { a with defers:= { target:=.collected w.heap.size,args:= #[] } ::a.defers } W):
 (Code.rangeFunc g ps assign body).wpIn Fence.wide N Tryz.prog Q a w:=by
 refine wpIn_rangeFunc ?_;intro fn hfn;rw[Fence.wide_round];obtain⟨rec,hrec⟩: ∃rec:LoopState->Loop,rec=fun st=> { state:=st,pending:=none,fn,tmps:=a.tmps,params:=ps,assign,body,defers:=w.heap.size } :=⟨_,rfl⟩
 obtain⟨W1,hW1⟩: ∃W1,(w.alloc (.deferred (some []))).alloc (.loop (rec .ready))=W1:=⟨_,rfl⟩;have hL1:W1.heap[w.heap.size+1]? =some (.loop (rec .ready)):=by
  rw[<-hW1];have:=World.alloc_heap_new (w.alloc (.deferred (some []))) (.loop (rec .ready));rwa [World.size_alloc] at this
 have hK1:W1.heap[w.heap.size]? =some (.deferred (some [])):=by
  rw[<-hW1];exact(Below.heap_alloc _ _ _ (by simp)).trans (World.alloc_heap_new w _)
 have hb1:Below w.heap.size w W1:=by
  rw[<-hW1];exact(((Below.refl _ w).alloc aj _).alloc (by simp) _)
 have hs1:W1.heap.size=w.heap.size+2:=by rw[<-hW1];simp
 have hI1:I [] W1:=hI _ _ _ h0 (gu.of_below hb1);have hbx:bx<w.heap.size:=block_lt_of_cell hb;refine⟨w.heap.size+1,[{ target:=.collected w.heap.size,args:= #[] }],W1,{ target:=.fn (.func 173) #[.pointer (some ⟨bx,0,none⟩)],args:= #[.func (.yield (w.heap.size+1)) #[] #[]] },W1,173,
  #[.func (.yield (w.heap.size+1)) #[] #[],.pointer (some ⟨bx,0,none⟩)],W1,?_,?_,fun f' hf'=>trivial,?_,fun h=>by simp[Fence.wide] at h,?_⟩
 .rw[<-hW1,hrec];exact run_enterLoop_outer _ _ _ _ _
 .simp only[resolve,hg];simp[go_sem]
 .have eg: ∀args w,(callFunc 173 args).run Tryz.prog w=.ok (.enter 173 args) w:=enters_of Tryz.func173 (by kernel_rfl) rfl
  simp[invoke,go_sem,eg]
 .refine callsIn_wide.2 ((P5 bx n0 (w.heap.size+1) n c A list
   (fun pre V=>I pre V/\V.heap[w.heap.size+1]? =some (.loop (rec .ready))/\V.heap[w.heap.size]? =some (.deferred (some []))) W1 ?_
   ((hb1.cell (p:=⟨bx,0,none⟩) hbx).trans hb) (hl.below hb1 aj) hA (by omega) Pt ⟨hI1,hL1,hK1⟩).mono ?_)
  .rw[hs1];refine⟨fun s V W hs hst=>?_,fun acc x V W A' c' m hj hst hsz hf hc' hpre=>?_⟩
   .obtain⟨hi,hlp,hdf⟩:=hs;exact⟨hI _ _ _ hi (gu.Tz hst),(hst.block _ (Array.getElem?_eq_some_iff.1 hlp).1 (by omega)).trans hlp,(hst.block _ (Array.getElem?_eq_some_iff.1 hdf).1 (by omega)).trans hdf⟩
   .obtain⟨hi0,hl0,hk0⟩:=hj;have hi:I acc W:=hI _ _ _ hi0 (gu.Tz hst);have hlp:W.heap[w.heap.size+1]? =some (.loop (rec .ready)):=(hst.block _ (Array.getElem?_eq_some_iff.1 hl0).1 (by omega)).trans hl0
    have hk:W.heap[w.heap.size]? =some (.deferred (some [])):=(hst.block _ (Array.getElem?_eq_some_iff.1 hk0).1 (by omega)).trans hk0
    have hlt:w.heap.size+1<W.heap.size:=(Array.getElem?_eq_some_iff.1 hlp).1;have hy:=run_yield (P:=Tryz.prog) (args:= #[.slice A' n c']) hlp (by rw[hrec];simp[hps])
    rw[hrec] at hy;refine⟨fn,_,assign,body,hy,roundIn_of_wpIn hfn (hassign _ m (.slice A' n c') W _ ⟨_,run_beginRound hlp (by rw[hrec]),?_⟩)⟩
    have hl2:(W.putObj (w.heap.size+1) (.loop { rec .ready with state:=.busy })).heap[w.heap.size+1]? =some (.loop { rec .ready with state:=.busy }):=World.putObj_heap_same hlt;have hk2:(W.putObj (w.heap.size+1) (.loop { rec .ready with state:=.busy })).heap[w.heap.size]? =some (.deferred (some [])):=(World.putObj_heap_other (by omega)).trans hk
    have hf2:aN V (W.putObj (w.heap.size+1) (.loop { rec .ready with state:=.busy })) A' n x:=by
     refine(hf.Tp (grownBy_putObj' W (w.heap.size+1) _) ?_);intro g hg' cur hcur;injection hg' with hg';subst hg';rw[hlp] at hcur;cases hcur
    refine wpIn_mono (hbody _ m acc x V _ A' c' hi0 ((gu.Tz hst).trans (gu.put _ _ (by omega))) (by omega) hf2 hc' hpre) ?_
    rintro e a3 W3 hp;cases e with
    |normal=>
     obtain⟨hk3,hi3⟩:=hp;have hl3:W3.heap[w.heap.size+1]? =some (.loop { rec .ready with state:=.busy }):=(hk3.block _ (by simp;omega) (.inr (.inr (by omega)))).trans hl2
     have hd3:W3.heap[w.heap.size]? =some (.deferred (some [])):=(hk3.block _ (by simp;omega) (.inr (.inr (by omega)))).trans hk2
     have hr:=run_endRound (P:=Tryz.prog) none hl3;rw[hrec] at hr;refine⟨_,_,hr,rfl,⟨hI _ _ _ hi3 (gu.put _ _ (by omega)),?_,(World.putObj_heap_other (by omega)).trans hd3⟩,?_,?_⟩
     .rw[hrec];exact World.putObj_heap_same (Array.getElem?_eq_some_iff.1 hl3).1
     .have:=hk3.size;simp at this ⊢;exact this
     .intro k hkk hc;have hne:k≠w.heap.size+1:=by omega
      refine(World.putObj_heap_other hne).trans ((hk3.block k (by simpa using hkk) ?_).trans (World.putObj_heap_other hne))
      rcases hc with h|h|h
      .exact .inl h
      .exact .inr (.inl h)
      .exact .inr (.inr (by omega))
    |ret=>exact hp.elim
    |exit id=>exact hp.elim
    |goto t=>exact hp.elim
    |panic ch=>exact hp.elim
    |outgrown=>exact hp.elim
  .rintro e W2 ⟨⟨v,rfl⟩,hi,hlp,hdf⟩;have:=run_endLoop (P:=Tryz.prog) hlp (by rw[hrec];simp)
   rw[hrec] at this;exact⟨none,_,this,hdone _ (hI _ _ _ hi (gu.put _ _ (by omega))) (by simpa using(Array.getElem?_eq_some_iff.1 hdf).1) ((World.putObj_heap_other (by omega)).trans hdf)⟩
#print axioms uI
open Go.RowKit Go.BigFrame
theorem Ki (w:World):(w.alloc (.cells #[] 3)).ownsRow w.heap.size 3 1 (.slice (some ⟨w.heap.size,0,none⟩) 0 0) 0 (intCells []):=World.ownsRow_made w #[] 0 aj (by decide) rfl
theorem aM.OH {w w':World}{g n:Nat}{xs:List Int}{row:Option Nat}(h:aM w (some ⟨g,0,none⟩) n xs)(hg:w.grownBy w' row)(hlt:g<w.heap.size)(hne:row≠some g):aM w' (some ⟨g,0,none⟩) n xs:=by
 have hk:=hg.block g hlt hne.symm;refine⟨h.1,h.2.1,fun hn=>?_⟩
 obtain⟨b,off,hA,hl,hc⟩:=h.2.2 hn;injection hA with hA;injection hA with e1 e2 _;subst e1;subst e2;have hs:=World.grownBy.size hg;exact⟨g,0,rfl,by omega,fun i x hx=>(World.cell?_of_block (w:=w) (a:=⟨g,0+i,none⟩) hk).trans (hc i x hx)⟩
structure aaD (wi Wa:World)(ob lb:Nat)(t:Int):Prop where
 row:Wa.ownsRow wi.heap.size 3 1 (.slice (some ⟨ob,0,none⟩) 0 0) 0 (intCells [])
 lit:aM Wa (some ⟨lb,0,none⟩) 1 [t]
 ne:some ob≠some lb
 lt:lb<Wa.heap.size
 below:Below wi.heap.size wi Wa
theorem YK (wi:World)(t:Int):aaD wi ((wi.alloc (.cells #[] 3)).alloc (.cells #[.int .i64 t] 3)).drew wi.heap.size (wi.heap.size+1) t:=by
 refine⟨((Ki wi).alloc _).drew,?_,by simp,by simp,(((Below.refl _ wi).alloc aj _).alloc (by simp) _).drew⟩
 have h:=dB (w:=wi.alloc (.cells #[] 3)) (H:=wi.heap.size+1) (by simp) t
 exact h
theorem YL (wi:World)(t:Int):aaD wi ((wi.alloc (.cells #[.int .i64 t] 3)).alloc (.cells #[] 3)).drew (wi.heap.size+1) wi.heap.size t:=by
 refine⟨?_,?_,by simp,by simp;omega,(((Below.refl _ wi).alloc aj _).alloc (by simp) _).drew⟩
 .have h:=World.ownsRow_made (base:=wi.heap.size) (e:=3) (size:=1) (wi.alloc (.cells #[.int .i64 t] 3)) #[] 0 (by simp) (by decide) rfl
  rw[World.size_alloc] at h;exact h.drew
 .have h:=(dB (w:=wi) rfl t).below ((Below.refl _ (wi.alloc (.cells #[.int .i64 t] 3))).alloc aj (.cells #[] 3)) aj;exact h
end Go.Proofs.YtddkjbibjjehjaaGreatDoor
