/-
  Texts that the proof rests on, joined: part 11.
-/
import Derived.Test.YtddkjbibjjehjaaGreatDoorSXr10
set_option maxHeartbeats 16000000
set_option maxRecDepth 100000
namespace Go.Proofs.YtddkjbibjjehjaaGreatDoor
open Go.RowKit Go.BigFrame
set_option linter.unusedVariables false
theorem J4:(Tryz.prog.info? 154).map (fun i=>(i.zero,i.size,i.bytes))=some (some (.agg #[.int .i64 0,.int .i64 0,.int .i64 0]),3,24):=by kernel_rfl
section
variable {w:World} {ops:Array Oper} {rest:List Oper} {o:Oper} {a:Act} {Q:Exit->Act->World->Prop}
theorem Gi (s x:Operand){base:Nat}{v:Value}{n:Nat}{xs:List ay}(hown:w.ownsRow base 154 3 v n (aB xs))(hbase:base<=w.heap.size)
 {A:Option Addr} {m c:Nat} {ys:List ay} (hr:aC w A m ys) (hn:n<=1099511627776)
 (hgd:o.guard=none) (ho:o.op=.call { callee:=.builtin .append,args:= #[s,x],argTypes:= #[65,65] }) (hs:a.eval s=v) (hx:a.eval x=.slice A m c)
 (h: ∀v' w',w'.ownsRow base 154 3 v' (n+m) (aB (xs++ys))->w.grownBy w' v.ownBlock->(v'.ownBlock=v.ownBlock\/v'.ownBlock=some w.heap.size)->wpList Tryz.prog ops Q rest (a.put o.dst v') w'):wpList Tryz.prog ops Q (o::rest) a w:=by
 obtain⟨i0,hi,hz0,hz1,hz2⟩:=info_parts J4;have hm:=hr.2.1;refine lV hgd s x _ ho base _ i0 _ 3 24 Tryz.underlying65 hi hz0 hz1 hz2 rfl (by decide) v n _ hs hown A m c _ hx hr.src (by simp only[maxLen];omega) (by omega) hbase ?_
 intro v' w' h1 h2 h3;rw[<-iC] at h1;exact h v' w' h1 h2 h3
end
theorem rZ:(154:TypeId)≠89:=by decide
theorem A_:(154:TypeId)≠3:=by decide
theorem Io:(67:TypeId)≠89/\(67:TypeId)≠154/\(67:TypeId)≠3:=by decide
structure DV where
 d:Value
 w:Value
 l:Value
 k:Value
def DV.val (V:DV):Value:=.agg #[V.d,V.w,V.l,V.k]
def DV.list (V:DV):List Value:= [V.d,V.w,V.l,V.k]
def DV.nil:DV:=⟨.slice none 0 0,.slice none 0 0,.slice none 0 0,.slice none 0 0⟩
structure aP (w:World)(B:Nat)(V:DV)(D:bY):Prop where
 base:B<=w.heap.size
 done:w.ownsRow B 89 3 V.d D.done.length (aB D.done)
 wait:w.ownsRow B 89 3 V.w D.wait.length (aB D.wait)
 av:w.ownsRow B 154 3 V.l D.av.length (aB D.av)
 dead:w.ownsRow B 3 1 V.k D.dead.length (intCells D.dead)
 sep: ∀b,V.d.ownBlock=some b->V.w.ownBlock≠some b
def eT (V:DV)(g:Nat):Prop:=V.d.ownBlock≠some g/\V.w.ownBlock≠some g/\V.l.ownBlock≠some g/\V.k.ownBlock≠some g
structure DFr (w:World)(V:DV)(w':World):Prop where
 os:w'.os=w.os
 tape:w'.tape=w.tape
 output:w'.output=w.output
 size:w.heap.size<=w'.heap.size
 block: ∀i,i<w.heap.size->eT V i->w'.heap[i]? =w.heap[i]?
def NB (H:Nat)(v v':Value):Prop:=v'.ownBlock=v.ownBlock\/ ∀b,v'.ownBlock=some b->H<=b
structure DStep (w:World)(V:DV)(w':World)(V':DV):Prop where
 fr:DFr w V w'
 nd:NB w.heap.size V.d V'.d
 nw:NB w.heap.size V.w V'.w
 nl:NB w.heap.size V.l V'.l
 nk:NB w.heap.size V.k V'.k
theorem NB.refl (H:Nat)(v:Value):NB H v v:=.inl rfl
theorem NB.trans {H K:Nat}{a b c:Value}(h:NB H a b)(k:NB K b c)(hHK:H<=K):NB H a c:=by
 rcases k with k|k
 .rcases h with h|h
  .exact .inl (k.trans h)
  .exact .inr (by rw[k];exact h)
 .exact .inr fun x hx=>Nat.le_trans hHK (k x hx)
theorem NB.ne {H g:Nat}{a b:Value}(h:NB H a b)(hg:g<H)(ha:a.ownBlock≠some g):b.ownBlock≠some g:=by
 rcases h with h|h
 .rw[h];exact ha
 .intro e;have:=h g e;omega
theorem NB.uq {H K:Nat}{a b:Value}(h:b.ownBlock=a.ownBlock\/b.ownBlock=some K)(hHK:H<=K):NB H a b:=by
 rcases h with h|h
 .exact .inl h
 .exact .inr fun x hx=>by rw[h] at hx;injection hx with hx;omega
theorem DStep.cO {w w':World}{V V':DV}{g:Nat}(h:DStep w V w' V')(hg:g<w.heap.size)(hn:eT V g):eT V' g:=
 ⟨h.nd.ne hg hn.1,h.nw.ne hg hn.2.1,h.nl.ne hg hn.2.2.1,h.nk.ne hg hn.2.2.2⟩
theorem DStep.refl (w:World)(V:DV):DStep w V w V:=⟨⟨rfl,rfl,rfl,Nat.le_refl _,fun _ _ _=>rfl⟩,.refl _ _,.refl _ _,.refl _ _,.refl _ _⟩
theorem DStep.size {w w':World}{V V':DV}(h:DStep w V w' V'):w.heap.size<=w'.heap.size:=h.fr.size
theorem DStep.trans {w w1 w2:World}{V V1 V2:DV}(h:DStep w V w1 V1)(k:DStep w1 V1 w2 V2):DStep w V w2 V2:=by
 have hs:=h.fr.size;refine⟨⟨k.fr.os.trans h.fr.os,k.fr.tape.trans h.fr.tape,k.fr.output.trans h.fr.output,Nat.le_trans hs k.fr.size,fun i hi hn=>?_⟩,h.nd.trans k.nd hs,h.nw.trans k.nw hs,h.nl.trans k.nl hs,h.nk.trans k.nk hs⟩
 exact(k.fr.block i (by omega) (h.cO hi hn)).trans (h.fr.block i hi hn)
theorem DStep.of_below {w w':World}(V:DV)(h:Below w.heap.size w w'):DStep w V w' V:=
 ⟨⟨h.os,h.tape,h.output,h.size,fun i hi _=>h.block i hi⟩,.refl _ _,.refl _ _,.refl _ _,.refl _ _⟩
theorem DStep.below {w w1 w':World}{V V1:DV}(h:DStep w V w1 V1)(hb:Below w1.heap.size w1 w'):DStep w V w' V1:=h.trans (.of_below V1 hb)
theorem DStep.alloc {w w1:World}{V V1:DV}(h:DStep w V w1 V1)(o:Obj):DStep w V (w1.alloc o) V1:=h.below (aG.alloc aj _)
theorem DStep.set {w w1:World}{V V1:DV}(h:DStep w V w1 V1){g:Nat}(hg:w.heap.size<=g)(i:Nat)(u:Value):DStep w V (w1.setCell ⟨g,i,none⟩ u) V1:=
 ⟨⟨h.fr.os,h.fr.tape,h.fr.output,by simpa[World.setCell] using h.fr.size,fun j hj hn=>(Below.heap_setCell w1 ⟨g,i,none⟩ u j (by simp;omega)).trans (h.fr.block j hj hn)⟩,h.nd,h.nw,h.nl,h.nk⟩
theorem DStep.drew {w w1:World}{V V1:DV}(h:DStep w V w1 V1):DStep w V w1.drew V1:=h.below aG.drew
section
variable {w w1 w2:World} {V V1:DV}
theorem DStep.iF (h:DStep w V w1 V1){v:Value}(hg:w1.grownBy w2 V1.d.ownBlock)(hat:v.ownBlock=V1.d.ownBlock\/v.ownBlock=some w1.heap.size):DStep w V w2 ⟨v,V1.w,V1.l,V1.k⟩:=
 h.trans ⟨⟨hg.os,hg.tape,hg.output,hg.size,fun i hi hn=>hg.block i hi (fun e=>hn.1 e.symm)⟩,.uq hat aj,.refl _ _,.refl _ _,.refl _ _⟩
theorem DStep.jC (h:DStep w V w1 V1){v:Value}(hg:w1.grownBy w2 V1.w.ownBlock)(hat:v.ownBlock=V1.w.ownBlock\/v.ownBlock=some w1.heap.size):DStep w V w2 ⟨V1.d,v,V1.l,V1.k⟩:=
 h.trans ⟨⟨hg.os,hg.tape,hg.output,hg.size,fun i hi hn=>hg.block i hi (fun e=>hn.2.1 e.symm)⟩,.refl _ _,.uq hat aj,.refl _ _,.refl _ _⟩
theorem DStep.Gj (h:DStep w V w1 V1){v:Value}(hg:w1.grownBy w2 V1.l.ownBlock)(hat:v.ownBlock=V1.l.ownBlock\/v.ownBlock=some w1.heap.size):DStep w V w2 ⟨V1.d,V1.w,v,V1.k⟩:=
 h.trans ⟨⟨hg.os,hg.tape,hg.output,hg.size,fun i hi hn=>hg.block i hi (fun e=>hn.2.2.1 e.symm)⟩,.refl _ _,.refl _ _,.uq hat aj,.refl _ _⟩
theorem DStep.Ba (h:DStep w V w1 V1){v:Value}(hg:w1.grownBy w2 V1.k.ownBlock)(hat:v.ownBlock=V1.k.ownBlock\/v.ownBlock=some w1.heap.size):DStep w V w2 ⟨V1.d,V1.w,V1.l,v⟩:=
 h.trans ⟨⟨hg.os,hg.tape,hg.output,hg.size,fun i hi hn=>hg.block i hi (fun e=>hn.2.2.2 e.symm)⟩,.refl _ _,.refl _ _,.refl _ _,.uq hat aj⟩
theorem DStep.SQ (h:DStep w V w1 V1){v:Value}(hv: ∀b,v.ownBlock=some b->w.heap.size<=b):DStep w V w1 ⟨V1.d,v,V1.l,V1.k⟩:=⟨h.fr,h.nd,.inr hv,h.nl,h.nk⟩
end
section
variable {w w':World} {B:Nat} {V:DV} {D:bY}
theorem aP.below (h:aP w B V D)(hb:Below w.heap.size w w'):aP w' B V D:=
 ⟨Nat.le_trans h.base hb.size,own_below h.done hb,own_below h.wait hb,own_below h.av hb,own_below h.dead hb,h.sep⟩
theorem aP.alloc (h:aP w B V D)(o:Obj):aP (w.alloc o) B V D:=h.below (aG.alloc aj _)
theorem aP.drew (h:aP w B V D):aP w.drew B V D:=h.below aG.drew
theorem aP.set (h:aP w B V D){g:Nat}(hn:eT V g)(i:Nat)(u:Value):aP (w.setCell ⟨g,i,none⟩ u) B V D:=by
 have hg:w.grownBy (w.setCell ⟨g,i,none⟩ u) (some g):=fA;refine⟨Nat.le_trans h.base hg.size,iE h.done hg ?_,iE h.wait hg ?_,iE h.av hg ?_,iE h.dead hg ?_,h.sep⟩
 .intro b e;injection e with e;subst e;exact hn.1
 .intro b e;injection e with e;subst e;exact hn.2.1
 .intro b e;injection e with e;subst e;exact hn.2.2.1
 .intro b e;injection e with e;subst e;exact hn.2.2.2
theorem aP.cO (h:aP w B V D){g:Nat}{T:TypeId}{vs:List Value}(hr:au w g T vs)(h1:T≠89)(h2:T≠154)(h3:T≠3):eT V g:=
 ⟨own_ne h.done hr h1,own_ne h.wait hr h1,own_ne h.av hr h2,own_ne h.dead hr h3⟩
theorem aP.far (h:aP w B V D){g:Nat}(hg:w.heap.size<=g):eT V g:=⟨zP h.done hg,zP h.wait hg,zP h.av hg,zP h.dead hg⟩
theorem aP.low (h:aP w B V D){g:Nat}(hg:g<B):eT V g:=by
 have key: ∀ {e:TypeId} {size n:Nat} {v:Value} {xs:List Value},w.ownsRow B e size v n xs->v.ownBlock≠some g:=fun h e=>by
  have:=(World.ownsRow.lt h g e).1;omega
 exact⟨key h.done,key h.wait,key h.av,key h.dead⟩
theorem aP.Gj (h:aP w B V D){v:Value}{L:List ay}{n:Nat}(hg:w.grownBy w' V.l.ownBlock)(ho:w'.ownsRow B 154 3 v n (aB L)):aP w' B ⟨V.d,V.w,v,V.k⟩ ⟨D.done,D.wait,L,D.dead⟩:=by
 obtain rfl:=g_ ho;exact⟨Nat.le_trans h.base hg.size,gU h.done h.av rZ.symm hg,gU h.wait h.av rZ.symm hg,ho,gU h.dead h.av A_.symm hg,h.sep⟩
theorem aP.Ba (h:aP w B V D){v:Value}{K:List Int}{n:Nat}(hg:w.grownBy w' V.k.ownBlock)(ho:w'.ownsRow B 3 1 v n (intCells K)):aP w' B ⟨V.d,V.w,V.l,v⟩ ⟨D.done,D.wait,D.av,K⟩:=by
 obtain rfl:=gY ho;exact⟨Nat.le_trans h.base hg.size,gU h.done h.dead vI hg,gU h.wait h.dead vI hg,gU h.av h.dead A_ hg,ho,h.sep⟩
theorem aP.iF (h:aP w B V D){v:Value}{L:List ay}{n:Nat}(hg:w.grownBy w' V.d.ownBlock)(ho:w'.ownsRow B 89 3 v n (aB L))(hat:v.ownBlock=V.d.ownBlock\/v.ownBlock=some w.heap.size):aP w' B ⟨v,V.w,V.l,V.k⟩ ⟨L,D.wait,D.av,D.dead⟩:=by
 obtain rfl:=g_ ho;refine⟨Nat.le_trans h.base hg.size,ho,iE h.wait hg h.sep,gU h.av h.done rZ hg,gU h.dead h.done vI.symm hg,fun b hb=>?_⟩
 rcases hat with e|e
 .exact h.sep b (e▸hb)
 .have hb:v.ownBlock=some b:=hb;rw[e] at hb;injection hb with hb;subst hb;exact zP h.wait aj
theorem aP.jC (h:aP w B V D){v:Value}{L:List ay}{n:Nat}(hg:w.grownBy w' V.w.ownBlock)(ho:w'.ownsRow B 89 3 v n (aB L))(hat:v.ownBlock=V.w.ownBlock\/v.ownBlock=some w.heap.size):aP w' B ⟨V.d,v,V.l,V.k⟩ ⟨D.done,L,D.av,D.dead⟩:=by
 obtain rfl:=g_ ho;refine⟨Nat.le_trans h.base hg.size,iE h.done hg (fun b hb e=>h.sep b e hb),ho,gU h.av h.wait rZ hg,gU h.dead h.wait vI.symm hg,fun b hb he=>?_⟩
 rcases hat with e|e
 .exact h.sep b hb (e▸he)
 .have he:v.ownBlock=some b:=he;rw[e] at he;injection he with he;subst he;exact zP h.done aj hb
theorem aP.SQ (h:aP w B V D){v:Value}{L:List ay}{n:Nat}(ho:w.ownsRow B 89 3 v n (aB L))(hs: ∀b,V.d.ownBlock=some b->v.ownBlock≠some b):aP w B ⟨V.d,v,V.l,V.k⟩ ⟨D.done,L,D.av,D.dead⟩:=by
 obtain rfl:=g_ ho;exact⟨h.base,h.done,ho,h.av,h.dead,hs⟩
theorem aP.doneN (h:aP w B V D){n:Nat}(hn:D.done.length=n):w.ownsRow B 89 3 V.d n (aB D.done):=hn▸h.done
theorem aP.dh (h:aP w B V D){n:Nat}(hn:D.wait.length=n):w.ownsRow B 89 3 V.w n (aB D.wait):=hn▸h.wait
theorem aP.h_ (h:aP w B V D){n:Nat}(hn:D.av.length=n):w.ownsRow B 154 3 V.l n (aB D.av):=hn▸h.av
theorem aP.Ow (h:aP w B V D){n:Nat}(hn:D.dead.length=n):w.ownsRow B 3 1 V.k n (intCells D.dead):=hn▸h.dead
theorem aP.apart (h:aP w B V D){row:Option Nat}(hg:w.grownBy w' row)(hn: ∀b,row=some b->eT V b):aP w' B V D:=
 ⟨Nat.le_trans h.base hg.size,iE h.done hg (fun b e=>(hn b e).1),iE h.wait hg (fun b e=>(hn b e).2.1),iE h.av hg (fun b e=>(hn b e).2.2.1),iE h.dead hg (fun b e=>(hn b e).2.2.2),h.sep⟩
theorem DStep.apart {w1:World}{V1:DV}(h:DStep w V w1 V1){row:Option Nat}(hg:w1.grownBy w' row)(hn: ∀b,row=some b->w.heap.size<=b):DStep w V w' V1:=
 ⟨⟨hg.os.trans h.fr.os,hg.tape.trans h.fr.tape,hg.output.trans h.fr.output,Nat.le_trans h.fr.size hg.size,fun i hi hni=>(hg.block i (by have:=h.fr.size;omega) (fun e=>by have:=hn i e.symm;omega)).trans (h.fr.block i hi hni)⟩,h.nd,h.nw,h.nl,h.nk⟩
theorem DStep.row {w w':World}{V V':DV}(h:DStep w V w' V'){g:Nat}{T:TypeId}{vs:List Value}(hr:au w g T vs)(hn:eT V g):au w' g T vs:=(h.fr.block g hr.lt hn).trans hr
theorem DStep.ops {w w':World}{V V':DV}(h:DStep w V w' V'){A:Option Addr}{n:Nat}{xs:List ay}(hr:aC w A n xs)(hn: ∀ad,A=some ad->eT V ad.block):aC w' A n xs:=by
 obtain⟨h1,h2,h3⟩:=hr;refine⟨h1,h2,fun h0=>?_⟩
 obtain⟨b,off,hA,hlt,hc⟩:=h3 h0;have hh:=h.fr.block b hlt (hn _ hA);have hs:=h.fr.size;refine⟨b,off,hA,by omega,fun i o ho=>?_⟩
 obtain⟨c0,c1,c2⟩:=hc i o ho;exact⟨(World.cell?_of_block (w:=w) (a:=⟨b,_,none⟩) hh).trans c0,(World.cell?_of_block (w:=w) (a:=⟨b,_,none⟩) hh).trans c1,(World.cell?_of_block (w:=w) (a:=⟨b,_,none⟩) hh).trans c2⟩
theorem DStep.ints {w w':World}{V V':DV}(h:DStep w V w' V'){A:Option Addr}{n:Nat}{xs:List Int}(hr:aM w A n xs)(hn: ∀ad,A=some ad->eT V ad.block):aM w' A n xs:=by
 obtain⟨h1,h2,h3⟩:=hr;refine⟨h1,h2,fun h0=>?_⟩
 obtain⟨b,off,hA,hlt,hc⟩:=h3 h0;have hh:=h.fr.block b hlt (hn _ hA);have hs:=h.fr.size;exact⟨b,off,hA,by omega,fun i x hx=>(World.cell?_of_block (w:=w) (a:=⟨b,_,none⟩) hh).trans (hc i x hx)⟩
theorem aP.forms (h:aP w B V D): ∃ (Ad Aw Al Ak:Option Addr) (nd nw nl nk cd cw cl ck:Nat),V=⟨.slice Ad nd cd,.slice Aw nw cw,.slice Al nl cl,.slice Ak nk ck⟩/\(nd<=cd/\nw<=cw/\nl<=cl/\nk<=ck)/\D.done.length=nd/\D.wait.length=nw/\D.av.length=nl/\D.dead.length=nk:=by
 obtain⟨a1,c1,e1,l1⟩:=aD h.done;obtain⟨a2,c2,e2,l2⟩:=aD h.wait;obtain⟨a3,c3,e3,l3⟩:=aD h.av;obtain⟨a4,c4,e4,l4⟩:=aD h.dead;obtain⟨d,w',l,k⟩:=V;simp only at e1 e2 e3 e4;subst e1;subst e2;subst e3;subst e4;exact⟨a1,a2,a3,a4,_,_,_,_,c1,c2,c3,c4,rfl,⟨l1,l2,l3,l4⟩,rfl,rfl,rfl,rfl⟩
end
def Boxed (w:World)(g:Nat)(V:DV):Prop:=au w g 67 V.list
section
variable {w w':World} {g:Nat} {V:DV}
theorem Boxed.cells (h:Boxed w g V):w.cell? ⟨g,0,none⟩=some V.d/\w.cell? ⟨g,1,none⟩=some V.w/\w.cell? ⟨g,2,none⟩=some V.l/\w.cell? ⟨g,3,none⟩=some V.k:=
 ⟨au.cell h rfl,au.cell h rfl,au.cell h rfl,au.cell h rfl⟩
theorem Boxed.soft (h:Boxed w g V)(i:Nat):w.frozen? ⟨g,i,none⟩=false:=au.frozen h i
theorem Boxed.below (h:Boxed w g V)(hb:Below w.heap.size w w'):Boxed w' g V:=au.below h hb aj
theorem Boxed.alloc (h:Boxed w g V)(o:Obj):Boxed (w.alloc o) g V:=au.alloc h o
theorem Boxed.drew (h:Boxed w g V):Boxed w.drew g V:=h
theorem Boxed.VZ (h:Boxed w g V)(v:Value):Boxed (w.setCell ⟨g,0,none⟩ v) g ⟨v,V.w,V.l,V.k⟩:=au.set h 0 v
theorem Boxed.setW (h:Boxed w g V)(v:Value):Boxed (w.setCell ⟨g,1,none⟩ v) g ⟨V.d,v,V.l,V.k⟩:=au.set h 1 v
theorem Boxed.aam (h:Boxed w g V)(v:Value):Boxed (w.setCell ⟨g,2,none⟩ v) g ⟨V.d,V.w,v,V.k⟩:=au.set h 2 v
theorem Boxed.aan (h:Boxed w g V)(v:Value):Boxed (w.setCell ⟨g,3,none⟩ v) g ⟨V.d,V.w,V.l,v⟩:=au.set h 3 v
theorem Boxed.fU (h:Boxed w g V)(U:DV):Boxed ((((w.setCell ⟨g,0,none⟩ U.d).setCell ⟨g,1,none⟩ U.w).setCell ⟨g,2,none⟩ U.l).setCell ⟨g,3,none⟩ U.k) g U:=
 (((h.VZ U.d).setW U.w).aam U.l).aan U.k
theorem Boxed.Yx (h:Boxed w g V)(a b c d:Value):Boxed ((((w.setCell ⟨g,0,none⟩ a).setCell ⟨g,1,none⟩ b).setCell ⟨g,2,none⟩ c).setCell ⟨g,3,none⟩ d) g ⟨a,b,c,d⟩:=h.fU ⟨a,b,c,d⟩
theorem Boxed.other (h:Boxed w g V){g':Nat}(hne:g'≠g)(i:Nat)(u:Value):Boxed (w.setCell ⟨g',i,none⟩ u) g V:=
 (Below.heap_setCell w ⟨g',i,none⟩ u g (by simpa using hne.symm)).trans h
theorem Boxed.step {V0 V1:DV}(h:Boxed w g V)(hs:DStep w V0 w' V1)(hn:eT V0 g):Boxed w' g V:=hs.row h hn
theorem Boxed.new (w:World)(V:DV):Boxed (w.alloc (.cells V.list.toArray 67)) w.heap.size V:=heap_alloc_new w _
theorem Boxed.cO {B:Nat}{U:DV}{D:bY}(h:Boxed w g V)(hd:aP w B U D):eT U g:=hd.cO h Io.1 Io.2.1 Io.2.2
theorem Boxed.grown (h:Boxed w g V){row:Option Nat}(hg:w.grownBy w' row)(hne:row≠some g):Boxed w' g V:=au.grown h hg hne
end
theorem aP.fU {w:World}{B:Nat}{V:DV}{D:bY}(h:aP w B V D){g:Nat}(hn:eT V g)(a b c d:Value):aP ((((w.setCell ⟨g,0,none⟩ a).setCell ⟨g,1,none⟩ b).setCell ⟨g,2,none⟩ c).setCell ⟨g,3,none⟩ d) B V D:=
 (((h.set hn 0 a).set hn 1 b).set hn 2 c).set hn 3 d
theorem DStep.fU {w w1:World}{V V1:DV}(h:DStep w V w1 V1){g:Nat}(hg:w.heap.size<=g)(a b c d:Value):DStep w V ((((w1.setCell ⟨g,0,none⟩ a).setCell ⟨g,1,none⟩ b).setCell ⟨g,2,none⟩ c).setCell ⟨g,3,none⟩ d) V1:=
 (((h.set hg 0 a).set hg 1 b).set hg 2 c).set hg 3 d
theorem Boxed.J5 {w:World}{g:Nat}{V:DV}(h:Boxed w g V){g':Nat}(hne:g'≠g)(a b c d:Value):Boxed ((((w.setCell ⟨g',0,none⟩ a).setCell ⟨g',1,none⟩ b).setCell ⟨g',2,none⟩ c).setCell ⟨g',3,none⟩ d) g V:=
 (((h.other hne 0 a).other hne 1 b).other hne 2 c).other hne 3 d
theorem Bb (w:World)(g:Nat)(a b c d:Value):((((w.setCell ⟨g,0,none⟩ a).setCell ⟨g,1,none⟩ b).setCell ⟨g,2,none⟩ c).setCell ⟨g,3,none⟩ d).heap.size=w.heap.size:=by simp[World.setCell]
def yJ (w:World)(B:Nat)(V:DV)(D:bY)(e:Ending)(w':World):Prop:= ∃V':DV,e=.returned V'.val/\aP w' B V' D/\DStep w V w' V'
theorem DU (B:Nat)(V:DV)(D:bY)(t:Int)(w:World)(hd:aP w B V D)(hL:D.av.length<=10000):
 Calls Tryz.prog 139 #[V.val,.int .i64 t] w (yJ w B V ⟨D.done,D.wait,iT D.av t,D.dead⟩):=by
 obtain⟨W,hW⟩: ∃W:World,W=(w.alloc (.cells V.list.toArray 67)).alloc (.cells DV.nil.list.toArray 67):=⟨_,rfl⟩;have hD0:aP W B V D:=by rw[hW];exact(hd.alloc _).alloc _
 have hS0:DStep w V W V:=by rw[hW];exact((DStep.refl w V).alloc _).alloc _
 have hB0:Boxed W w.heap.size V:=by rw[hW];exact(Boxed.new w V).alloc _
 have hR0:Boxed W (w.heap.size+1) DV.nil:=by
  rw[hW];have:=Boxed.new (w.alloc (.cells V.list.toArray 67)) DV.nil;rw[show(w.alloc (.cells V.list.toArray 67)).heap.size=w.heap.size+1 by simp] at this
  exact this
 have HST:=ah (And.intro hD0 (And.intro hS0 (And.intro hB0 hR0)));obtain⟨Ad,Aw,Al,Ak,nd,nw,nl,nk,cd,cw,cl,ck,rfl,_,_⟩:=hd.forms;have HW:=ah hW;clear hD0 hS0 hB0 hR0 hW hd;unfold DV.val;simp only;go_enter Tryz.func139,Tryz.ntmps139;go_wp2_with fail
 have HW2:=HW.out;change W=(w.alloc (.cells #[.slice Ad nd cd,.slice Aw nw cw,.slice Al nl cl,.slice Ak nk ck] _)).alloc (.cells #[.slice none 0 0,.slice none 0 0,.slice none 0 0,.slice none 0 0] _) at HW2;rw[<-HW2];clear HW HW2;go_loopw [5] (fun i wr=> ∃ (k:Nat) (U:DV),k<=3/\i=.int .i64 k/\aP wr B U ⟨D.done,D.wait,gQ D.av t k,D.dead⟩/\DStep w ⟨.slice Ad nd cd,.slice Aw nw cw,.slice Al nl cl,.slice Ak nk ck⟩ wr U/\Boxed wr w.heap.size U/\Boxed wr (w.heap.size+1) DV.nil) (fun i _=>3- (intOf i).toNat)
 case atStart=>exact⟨0,_,by omega,rfl,HST.out.1,HST.out.2.1,HST.out.2.2.1,HST.out.2.2.2⟩
 case round=>
  clear HST;obtain⟨k,U,hk,rfl,zQ,SS,PL,hRk⟩:=hrel;obtain⟨Ad',Aw',Xz,Ak',nd',nw',nl',nk',cd',cw',cl',ck',rfl,_,h1,h2,h3,h4⟩:=zQ.forms;have hlen:=(rX D.av t k).2;have hsc:=jy D.av t k;simp only at h1 h2 h3 h4;obtain⟨M,hM⟩: ∃M,gQ D.av t k=M:=⟨_,rfl⟩;rw[hM] at zQ h3 hlen hsc;have hnl:nl'<=10003:=by omega
  have hsz:=SS.size;obtain⟨b0,b1,b2,b3⟩:=PL.cells;obtain⟨r0,r1,r2,r3⟩:=hRk.cells;simp only at b0 b1 b2 b3;unfold DV.nil at r0 r1 r2 r3;simp only at r0 r1 r2 r3;by_cases hlt:k<3
  .have hro:aC wr Xz nl' M:=aC.aH (by have:=zQ.av;simp only[h3] at this;exact this) (by omega)
   obtain⟨h,hh⟩: ∃h,aL M t (k:Int)=h:=⟨_,rfl⟩;have HE:Hid (aL (M.take nl') t (k:Int)=h):=by show _=_;rw[List.take_of_length_le (by omega)];exact hh
   rw[hh] at hsc;have HI:=ah (And.intro zQ (And.intro SS (And.intro PL hRk)));have H3:=ah h3;have PN:=ah hro;clear hh hM hlen h1 h2 h3 h4 hro zQ SS PL hRk;by_cases hp:0<=h
   .rw[if_pos hp] at hsc;have HS2:=ah hsc;clear hsc;go_wp2_with (first
     |(go_at_call 138;refine(mY Xz nl' cl' M nl' t (k:Int) wr PN.out aj).mono ?_;rintro e w2 ⟨rfl,hb2⟩;rw[HE.out];have hD2:=HI.out.1.below hb2;have hS2:=HI.out.2.1.below hb2;have hB2:=HI.out.2.2.1.below hb2;have hR2:=HI.out.2.2.2.below hb2;have hlo:w2.ownsRow B 154 3 (.slice Xz nl' cl') nl' (aB M):=(by have:=hD2.av;simp only[H3.out] at this;exact this);obtain⟨c0,c1,c2,c3⟩:=hB2.cells;simp only at c0 c1 c2 c3;have hsz2:=hS2.size;have hbase:=hD2.base;have hne2:=hB2.cO hD2;have aao:=hR2.cO hD2;have HI2:=ah (And.intro hD2 (And.intro hS2 (And.intro hB2 hR2)));clear hD2 hS2 hB2 hR2)
     |(at_builtin;refine Gi (.tmp 20) (.tmp 24) (hlo.alloc _) (by simp;omega) (aC.dB _ ⟨_,_,_⟩ _) (by omega) rfl rfl rfl rfl ?_;intro v3 w3 hown3 hg3 aU;obtain⟨A3,c3',rfl,hc3⟩:=aD hown3;have hB3:=ah ((HI2.out.2.2.1.alloc (.cells #[.int .i64 t,.int .i64 2,.int .i64 (k:Int)] 154)).grown hg3 hne2.2.2.1);have d2:=hB3.out.cells.2.2.1;have f2:=hB3.out.soft 2;simp only at d2))
    go_roundw
    case rel=>
     refine⟨k+1,⟨.slice Ad' nd' cd',.slice Aw' nw' cw',.slice A3 (nl'+1) c3',.slice Ak' nk' ck'⟩,by omega,by go_num,?_,?_,hB3.out.aam _,?_⟩
     .have:=(HI2.out.1.alloc (.cells #[.int .i64 t,.int .i64 2,.int .i64 (k:Int)] 154)).Gj (L:=M++ [⟨t,2,(k:Int)⟩]) hg3 hown3;rw[HS2.out];exact this.set (hB3.out.cO this) 2 _
     .exact((HI2.out.2.1.alloc _).Gj hg3 aU).set aj 2 _
     .exact((HI2.out.2.2.2.alloc _).grown hg3 aao.2.2.1).other (by omega) 2 _
    case measure=>simp[intOf];omega
   .rw[if_neg hp] at hsc;have HS2:=ah hsc;clear hsc;go_wp2_with (go_at_call 138;refine(mY Xz nl' cl' M nl' t (k:Int) wr PN.out aj).mono ?_;rintro e w2 ⟨rfl,hb2⟩;rw[HE.out];have hD2:=HI.out.1.below hb2;have hS2:=HI.out.2.1.below hb2;have hB2:=HI.out.2.2.1.below hb2;have hR2:=HI.out.2.2.2.below hb2;have hlo:w2.ownsRow B 154 3 (.slice Xz nl' cl') nl' (aB M):=(by have:=hD2.av;simp only[H3.out] at this;exact this);obtain⟨c0,c1,c2,c3⟩:=hB2.cells;simp only at c0 c1 c2 c3;have hsz2:=hS2.size;have hbase:=hD2.base;have hne2:=hB2.cO hD2;have aao:=hR2.cO hD2;have HI2:=ah (And.intro hD2 (And.intro hS2 (And.intro hB2 hR2)));clear hD2 hS2 hB2 hR2)
    go_roundw
    case rel=>exact⟨k+1,_,by omega,by go_num,by rw[HS2.out];exact HI2.out.1,HI2.out.2.1,HI2.out.2.2.1,HI2.out.2.2.2⟩
    case measure=>simp[intOf];omega
  .have hk3:k=3:=by omega
   subst hk3;have hfz:=fun i=>hRk.soft i
   have hne:=hRk.cO zQ;have HI:=ah (And.intro zQ (And.intro SS (And.intro PL hRk)));have HM:=ah hM;clear zQ SS PL hRk hM h1 h2 h3 h4 hsc;go_wp2_with fail
   have hF:=(HI.out.2.2.2.fU ⟨.slice Ad' nd' cd',.slice Aw' nw' cw',.slice Xz nl' cl',.slice Ak' nk' ck'⟩);obtain⟨d0,d1,d2,d3⟩:=hF.cells;simp only at d0 d1 d2 d3;refine bodyPost_ret (v:=.agg #[.slice Ad' nd' cd',.slice Aw' nw' cw',.slice Xz nl' cl',.slice Ak' nk' ck']) (by simp[results,Tryz.results139,go_sem,d0,d1,d2,d3]) rfl ?_
   refine⟨⟨.slice Ad' nd' cd',.slice Aw' nw' cw',.slice Xz nl' cl',.slice Ak' nk' ck'⟩,rfl,?_,?_⟩
   .have:(⟨D.done,D.wait,iT D.av t,D.dead⟩:bY)=⟨D.done,D.wait,M,D.dead⟩:=by rw[<-HM.out];rfl
    rw[this];exact(((HI.out.1.set hne 0 _).set hne 1 _).set hne 2 _).set hne 3 _
   .exact(((HI.out.2.1.set (by omega) 0 _).set (by omega) 1 _).set (by omega) 2 _).set (by omega) 3 _
theorem J6 {s:List ay}{k:Nat}{o:ay}(ho:s[k]? =some o)(p:ay->Bool):(s.take (k+1)).filter p=(s.take k).filter p++if p o=true then [o] else [] :=by
 rw[aR ho,List.filter_append];simp[List.filter_cons]
theorem uw (B:Nat)(V:DV)(D:bY)(t:Int)(w:World)(hd:aP w B V D)(hL:D.av.length<=9000)(hN:D.done.length<=9000/\D.wait.length<=9000/\D.dead.length<=9000):
 Calls Tryz.prog 97 #[V.val,.int .i64 t] w (yJ w B V (bP D t)):=by
 obtain⟨W,hW⟩: ∃W:World,W=(w.alloc (.cells V.list.toArray 67)).alloc (.cells DV.nil.list.toArray 67):=⟨_,rfl⟩;have hD0:aP W B V D:=by rw[hW];exact(hd.alloc _).alloc _
 have hS0:DStep w V W V:=by rw[hW];exact((DStep.refl w V).alloc _).alloc _
 have hB0:Boxed W w.heap.size V:=by rw[hW];exact(Boxed.new w V).alloc _
 have hR0:Boxed W (w.heap.size+1) DV.nil:=by
  rw[hW];have:=Boxed.new (w.alloc (.cells V.list.toArray 67)) DV.nil;rw[show(w.alloc (.cells V.list.toArray 67)).heap.size=w.heap.size+1 by simp] at this
  exact this
 have HB:=ah hd.base;obtain⟨Ad,Aw,Al,Ak,nd,nw,nl,nk,cd,cw,cl,ck,rfl,_,_⟩:=hd.forms;have hDR:=DU B _ D t W hD0 (by omega)
 have HST:=ah (And.intro hD0 (And.intro hS0 (And.intro hB0 hR0)));have HW:=ah hW;have HDR:=ah hDR;clear hD0 hS0 hB0 hR0 hW hd hDR;unfold DV.val;simp only;go_enter Tryz.func97,Tryz.ntmps97;go_wp2_with fail
 have HW2:=HW.out;change W=(w.alloc (.cells #[.slice Ad nd cd,.slice Aw nw cw,.slice Al nl cl,.slice Ak nk ck] _)).alloc (.cells #[.slice none 0 0,.slice none 0 0,.slice none 0 0,.slice none 0 0] _) at HW2;rw[<-HW2];clear HW HW2;refine HDR.out.mono ?_;rintro e w1 ⟨V1,rfl,hD1,hS1⟩;have hS:=HST.out.2.1.trans hS1;have hB1:=HST.out.2.2.1.step hS1 (HST.out.2.2.1.cO HST.out.1);have hR1:=HST.out.2.2.2.step hS1 (HST.out.2.2.2.cO HST.out.1);have nB:=hB1.cO hD1;have nR:=hR1.cO hD1;obtain⟨Ad1,V_,PO,Ak1,Ip,Ox,PS,Iq,cd1,XA,PU,ck1,rfl,hcs,h1,h2,h3,h4⟩:=hD1.forms;simp only at h1 h2 h3 h4;have hbd:Ip<=9000/\Ox<=9000/\Iq<=9000:=by omega
 have H1:=ah h1;have H2:=ah h2;have H4:=ah h4;have hsW:=HST.out.2.1.size;have hlB:=au.lt hB1;have hlR:=au.lt hR1;obtain⟨b0,b1,b2,b3⟩:=hB1.cells;simp only at b0 b1 b2 b3;have f0:=hB1.soft 0;have f1:=hB1.soft 1;have f2:=hB1.soft 2;have f3:=hB1.soft 3;obtain⟨Wb,Yy⟩: ∃u:World,u=(((w1.setCell ⟨w.heap.size,0,none⟩ (.slice Ad1 Ip cd1)).setCell ⟨w.heap.size,1,none⟩ (.slice V_ Ox XA)).setCell ⟨w.heap.size,2,none⟩ (.slice PO PS PU)).setCell ⟨w.heap.size,3,none⟩ (.slice Ak1 Iq ck1):=⟨_,rfl⟩;have hDb:=hD1.fU nB (.slice Ad1 Ip cd1) (.slice V_ Ox XA) (.slice PO PS PU) (.slice Ak1 Iq ck1);rw[<-Yy] at hDb;have hSb:=hS.fU aj (.slice Ad1 Ip cd1) (.slice V_ Ox XA) (.slice PO PS PU) (.slice Ak1 Iq ck1);rw[<-Yy] at hSb;have hBb:=hB1.Yx (.slice Ad1 Ip cd1) (.slice V_ Ox XA) (.slice PO PS PU) (.slice Ak1 Iq ck1);rw[<-Yy] at hBb;have hRb:=hR1.J5 (show w.heap.size≠w.heap.size+1 by omega) (.slice Ad1 Ip cd1) (.slice V_ Ox XA) (.slice PO PS PU) (.slice Ak1 Iq ck1)
 rw[<-Yy] at hRb;have aap:Wb.heap.size=w1.heap.size:=(congrArg (fun u:World=>u.heap.size) Yy).trans (Bb _ _ _ _ _ _)
 have HWB:=ah Yy;have HB:=ah (And.intro hDb (And.intro hSb (And.intro hBb hRb)));clear HST HDR hS1 hS hB1 hR1 nB nR h1 h2 h3 h4 hD1 hDb hSb hBb hRb Yy;unfold DV.val;simp only;go_wp2_with (first
  |(at_builtin;go_loud (rw[<-HWB.out];refine gX (.tmp 11) (.tmp 14) ((HB.out.1.doneN H1.out).alloc _) (Nat.le_trans HB.out.1.base (by simp)) (aC.Yw aap ⟨_,_,_⟩ _) (by omega) rfl rfl rfl rfl ?_;intro v3 w3 hown3 hg3 aU;obtain⟨A3,c3,rfl,hc3⟩:=aD hown3;have hB3:=(HB.out.2.2.1.alloc (.cells #[.int .i64 t,.int .i64 3,.int .i64 0] 89)).grown hg3 (HB.out.2.2.1.cO HB.out.1).1;have SV:=(HB.out.2.2.2.alloc (.cells #[.int .i64 t,.int .i64 3,.int .i64 0] 89)).grown hg3 (HB.out.2.2.2.cO HB.out.1).1;have hD3:=(HB.out.1.alloc _).iF (L:=D.done++ [⟨t,3,0⟩]) hg3 hown3 aU;have eu:=(HB.out.2.1.alloc _).iF hg3 aU;obtain⟨c0,c1,c2,c3'⟩:=hB3.cells;simp only at c0 c1 c2 c3';have g0:=hB3.soft 0;have g3:=hB3.soft 3;have XB:=hB3.cO hD3;obtain⟨Wc,hWc⟩: ∃u:World,u=w3.setCell ⟨w.heap.size,0,none⟩ (.slice A3 (Ip+1) c3):=⟨_,rfl⟩;have SX:=hD3.set XB 0 (.slice A3 (Ip+1) c3);rw[<-hWc] at SX;have SY:=eu.set aj 0 (.slice A3 (Ip+1) c3);rw[<-hWc] at SY;have S9:=hB3.VZ (.slice A3 (Ip+1) c3);rw[<-hWc] at S9;have S_:=SV.other (show w.heap.size≠w.heap.size+1 by omega) 0 (.slice A3 (Ip+1) c3);rw[<-hWc] at S_;have HC:=ah (And.intro SX (And.intro SY (And.intro S9 S_)));have XC:=ah hWc;have aaq:Wc.heap.size=w3.heap.size:=(congrArg (fun u:World=>u.heap.size) hWc).trans (by simp[World.setCell]);clear hB3 SV hD3 eu XB SX SY S9 S_ hWc HB HWB))
  |(at_builtin;go_loud (rw[<-XC.out];refine gI (.tmp 18) (.tmp 20) ((HC.out.1.Ow H4.out).alloc _) (Nat.le_trans HC.out.1.base (by simp)) (Go.Proofs.YtddkjbibjjehjaaGreatDoor.dB aaq _) (by omega) rfl rfl rfl rfl ?_;intro v4 w4 iy hg4 PV;obtain⟨A4,c4,rfl,hc4⟩:=aD iy;have hB4:=(HC.out.2.2.1.alloc (.cells #[.int .i64 t] 3)).grown hg4 (HC.out.2.2.1.cO HC.out.1).2.2.2;have hR4:=(HC.out.2.2.2.alloc (.cells #[.int .i64 t] 3)).grown hg4 (HC.out.2.2.2.cO HC.out.1).2.2.2;have hD4:=(HC.out.1.alloc _).Ba (K:=D.dead++ [t]) hg4 iy;have XD:=(HC.out.2.1.alloc _).Ba hg4 PV;obtain⟨e0,e1,e2,e3⟩:=hB4.cells;simp only at e0 e1 e2 e3;have i3:=hB4.soft 3;have nB4:=hB4.cO hD4;obtain⟨Wd,hWd⟩: ∃u:World,u=w4.setCell ⟨w.heap.size,3,none⟩ (.slice A4 (Iq+1) c4):=⟨_,rfl⟩;have Ta:=hD4.set nB4 3 (.slice A4 (Iq+1) c4);rw[<-hWd] at Ta;have hSd:=XD.set aj 3 (.slice A4 (Iq+1) c4);rw[<-hWd] at hSd;have hBd:=hB4.aan (.slice A4 (Iq+1) c4);rw[<-hWd] at hBd;have Tc:=hR4.other (show w.heap.size≠w.heap.size+1 by omega) 3 (.slice A4 (Iq+1) c4);rw[<-hWd] at Tc;have HD:=ah (And.intro Ta (And.intro hSd (And.intro hBd Tc)));have lY:=ah hWd;have Yz:Wd.heap.size=w4.heap.size:=(congrArg (fun u:World=>u.heap.size) hWd).trans (by simp[World.setCell]);clear hB4 hR4 hD4 XD nB4 Ta hSd hBd Tc hWd HC XC)))
 rw[<-lY.out];obtain⟨Ta,hSd,hBd,Tc⟩:=HD.out;have bF: ∀b,Wd.heap.size<=b->eT _ b:=fun b hb=>Ta.far hb
 have hgl:=au.lt hBd;have hrl:=au.lt Tc;have hbs:=Ta.base;have Td:=ah bF;have XE:=World.ownsRow_made (base:=Wd.heap.size) (e:=89) (size:=3) Wd #[] 0 aj (by decide) rfl
 have HST:Hid (_/\_/\_/\_/\_):=And.intro (Ta.alloc (.cells #[] 89)) (And.intro (hSd.alloc (.cells #[] 89)) (And.intro (hBd.alloc (.cells #[] 89)) (And.intro (Tc.alloc (.cells #[] 89)) XE)));have hsd:=hSd.size;have Oy:Hid (w4.heap.size<=(Wd.alloc (.cells #[] 89)).heap.size):=by show _<=_;rw[<-Yz];simp
 clear HD lY Ta hSd hBd Tc bF XE;rw[Yz] at hgl hrl hbs Td HST hsd;clear hg3 hown3 aU c0 c1 c2 c3' g0 g3 aaq hg4 iy PV e0 e1 e2 e3 i3 Yz b0 b1 b2 b3 f0 f1 f2 f3 aap;go_loopw [5,6] (fun ov i wr=> ∃k m:Nat,k<=Ox/\m<=k/\i=.int .i64 k/\aP wr B ⟨.slice A3 (Ip+1) c3,.slice V_ Ox XA,.slice PO PS PU,.slice A4 (Iq+1) c4⟩ ⟨D.done++ [⟨t,3,0⟩],D.wait,iT D.av t,D.dead++ [t]⟩/\DStep w ⟨.slice Ad nd cd,.slice Aw nw cw,.slice Al nl cl,.slice Ak nk ck⟩ wr ⟨.slice A3 (Ip+1) c3,.slice V_ Ox XA,.slice PO PS PU,.slice A4 (Iq+1) c4⟩/\Boxed wr w.heap.size ⟨.slice A3 (Ip+1) c3,.slice V_ Ox XA,.slice PO PS PU,.slice A4 (Iq+1) c4⟩/\Boxed wr (w.heap.size+1) DV.nil/\w4.heap.size<=wr.heap.size/\wr.ownsRow w4.heap.size 89 3 ov m (aB ((D.wait.take k).filter fun o=>o.tx !=t))) (fun _ i _=>Ox- (intOf i).toNat)
 case atStart=>exact⟨0,0,Nat.zero_le _,Nat.le_refl _,rfl,HST.out.1,HST.out.2.1,HST.out.2.2.1,HST.out.2.2.2.1,Oy.out,by simpa[aB] using HST.out.2.2.2.2⟩
 case round=>
  clear HST;obtain⟨k,m,hk,hmk,rfl,zQ,SS,PL,hRk,hwr,hown⟩:=hrel;obtain⟨x0,x1,x2,x3⟩:=PL.cells;simp only at x0 x1 x2 x3;have hsk:=SS.size;have hbk:=zQ.base;by_cases hlt:k<Ox
  .have hro:aC wr V_ Ox D.wait:=aC.aH (zQ.dh H2.out) (by omega)
   obtain⟨b,off,o,hA,hbl,ho,c0,c1,c2⟩:=hro.at_ hlt;subst hA;have HT:=ah (J6 ho fun o=>o.tx !=t)
   have HI:=ah (And.intro zQ (And.intro SS (And.intro PL hRk)));clear zQ SS PL hRk hro ho;obtain⟨tx,kd,it⟩:=o;by_cases e1:tx=t
   .go_wp2_with fail
    go_roundw
    case rel=>exact⟨k+1,m,by omega,by omega,by go_num,HI.out.1,HI.out.2.1,HI.out.2.2.1,HI.out.2.2.2,hwr,by rw[HT.out];simpa[e1] using hown⟩
    case measure=>simp[intOf];omega
   .go_wp2_with (at_builtin;refine gX (.tmp 39) (.tmp 45) (hown.alloc _) (by simp;omega) (aC.dB _ ⟨_,_,_⟩ _) (by omega) rfl rfl rfl rfl ?_;intro v5 w5 hown5 hg5 Dy)
    have Te: ∀b,u5.ownBlock=some b->w4.heap.size<=b:=fun b hb=>(World.ownsRow.lt hown b hb).1
    go_roundw
    case rel=>
     refine⟨k+1,m+1,by omega,by omega,by go_num,(HI.out.1.alloc _).apart hg5 fun b hb=>Td.out b (Te b hb),(HI.out.2.1.alloc _).apart hg5 fun b hb=>Nat.le_trans hsd (Te b hb),(HI.out.2.2.1.alloc _).grown hg5 fun e=>?_,(HI.out.2.2.2.alloc _).grown hg5 fun e=>?_,by have:=hg5.size;simp at this;omega,by rw[HT.out];simpa[e1] using hown5⟩
     .have:=Te _ e;omega
     .have:=Te _ e;omega
    case measure=>simp[intOf];omega
  .have hkn:k=Ox:=by omega
   have e:D.wait.take k=D.wait:=List.take_of_length_le (by have:=H2.out;omega)
   rw[e] at hown;obtain⟨A6,c6,rfl,hc6⟩:=aD hown;have f1:=PL.soft 1;have hnB:=PL.cO zQ;have hnR:=hRk.cO zQ;have Te: ∀b,(Value.slice A6 m c6).ownBlock=some b->w4.heap.size<=b:=fun b hb=>(World.ownsRow.lt hown b hb).1
   have hnv:(Value.slice A6 m c6).ownBlock≠some w.heap.size:=fun e=>by have:=Te _ e;omega
   have hnr:(Value.slice A6 m c6).ownBlock≠some (w.heap.size+1):=fun e=>by have:=Te _ e;omega
   have hD6:=zQ.SQ (Dt hown (show B<=w4.heap.size by omega)) (fun b hb e=>by have:=Td.out b (Te b e);exact this.1 hb)
   have LK:=SS.SQ (v:=.slice A6 m c6) (fun b hb=>by have:=Te b hb;omega)
   have abH:=PL.cO hD6;have abI:=hRk.cO hD6;have hD7:=(hD6.set abH 1 (.slice A6 m c6)).fU abI (.slice A3 (Ip+1) c3) (.slice A6 m c6) (.slice PO PS PU) (.slice A4 (Iq+1) c4);have lS:=(LK.set aj 1 (.slice A6 m c6)).fU (show w.heap.size<=w.heap.size+1 by omega) (.slice A3 (Ip+1) c3) (.slice A6 m c6) (.slice PO PS PU) (.slice A4 (Iq+1) c4)
   have hR7:=hRk.other (show w.heap.size≠w.heap.size+1 by omega) 1 (.slice A6 m c6)
   obtain⟨y0,y1,y2,y3⟩:=hRk.cells;have s0:=hRk.soft 0;have s1:=hRk.soft 1;have s2:=hRk.soft 2;have s3:=hRk.soft 3;have HF:=ah (And.intro hD7 (And.intro lS hR7));clear hD6 LK hD7 lS hR7 zQ SS PL hRk e hown;unfold DV.nil at y0 y1 y2 y3;simp only at y0 y1 y2 y3;go_wp2_with fail
   have hF:=(HF.out.2.2).fU ⟨.slice A3 (Ip+1) c3,.slice A6 m c6,.slice PO PS PU,.slice A4 (Iq+1) c4⟩;obtain⟨d0,d1,d2,d3⟩:=hF.cells;simp only at d0 d1 d2 d3;refine bodyPost_ret (v:=.agg #[.slice A3 (Ip+1) c3,.slice A6 m c6,.slice PO PS PU,.slice A4 (Iq+1) c4]) (by simp[results,Tryz.results97,go_sem,d0,d1,d2,d3]) rfl ?_
   refine⟨⟨.slice A3 (Ip+1) c3,.slice A6 m c6,.slice PO PS PU,.slice A4 (Iq+1) c4⟩,rfl,?_,?_⟩
   .exact HF.out.1
   .exact HF.out.2.1
end Go.Proofs.YtddkjbibjjehjaaGreatDoor
