/-
  Texts that the proof rests on, joined: part 44.
-/
import Derived.Test.YtddkjbibjjehjaaGreatDoorSXr43
set_option maxHeartbeats 16000000
set_option maxRecDepth 100000
namespace Go.Proofs.YtddkjbibjjehjaaGreatDoor
open Go.RowKit Go.BigFrame
set_option linter.unusedVariables false
def dK (x:List UInt8)(g:Nat):List UInt8×Value:=(x,.agg #[.int .i64 16,.func (.func 75) #[] #[.pointer (some ⟨g,0,none⟩)]])
def iL (x:List UInt8)(g:Nat):List UInt8×Value:=(x,.agg #[.int .i64 12,.func (.func 78) #[] #[.pointer (some ⟨g,0,none⟩)]])
def lI (x:List UInt8)(f:Nat):List UInt8×Value:=(x,.agg #[.int .i64 16,.func (.func f) #[] #[]])
def eD:KV:= [lI ([115,101,114,105,97,108] :List UInt8) 65,lI ([111,114,100,101,114] :List UInt8) 67,lI ([99,121,99,108,101] :List UInt8) 70,lI ([115,110,97,112,115,104,111,116] :List UInt8) 72]
structure Ld (w:World)(b:Nat)(L:KV)(bx:List (Nat×List UInt8))(wr:World):Prop where
 map:qE wr b L
 box: ∀p∈bx,wr.cell? ⟨p.1,0,none⟩=some (dw p.2)/\p.1≠b
 Bw:Below w.heap.size w wr
 low:w.heap.size<=b
theorem Ld.start (w:World):Ld w w.heap.size [] [] (w.alloc (.map #[] 0)):=⟨qE.made w,fun p h=>(by cases h),aG.alloc aj _,Nat.le_refl _⟩
theorem Ld.four {w wr W:World}{b:Nat}{L L':KV}{bx:List (Nat×List UInt8)}(h:Ld w b L bx wr)(hm:qE W b L')(hg:wr.grownBy W (some b)):Ld w b L' bx W:=by
 refine⟨hm,fun p hp=>?_,h.Bw.grown hg h.Bw.size (fun k e=>by cases e;exact h.low),h.low⟩
 obtain⟨h1,h2⟩:=h.box p hp;exact⟨(World.cell?_of_block (w:=wr) (a:=⟨p.1,0,none⟩) (hg.block p.1 (block_lt_of_cell h1) (fun e=>h2 (by injection e)))).trans h1,h2⟩
theorem Ld.step {w wr W W':World}{b:Nat}{L L':KV}{bx:List (Nat×List UInt8)}{x:List UInt8}{vs:List Value}{T:TypeId}(h:Ld w b L bx wr)(hW:W=wr.alloc (.cells (dw x::vs).toArray T))(hm:qE W' b L')(hg:W.grownBy W' (some b)):Ld w b L' (bx++ [(wr.heap.size,x)]) W':=by
 have hbl:=h.map.lt;have hbW:Below wr.heap.size wr W:=by rw[hW];exact aG.alloc aj _
 have h1:Ld w b L (bx++ [(wr.heap.size,x)]) W:=by
  refine⟨h.map.kept (hbW.block _ hbl),fun p hp=>?_,h.Bw.trans (hbW.mono h.Bw.size),h.low⟩
  rcases List.mem_append.1 hp with hp|hp
  .obtain⟨h1,h2⟩:=h.box p hp;exact⟨(hbW.cell (p:=⟨p.1,0,none⟩) (block_lt_of_cell h1)).trans h1,h2⟩
  .rw[List.mem_singleton] at hp;subst hp;refine⟨?_,by simp only;omega⟩
   rw[hW];exact aV _ _ _ _ _ rfl
 exact h1.four hm hg
def bT:List (List UInt8):= [([114,101,99,111,118,101,114,97,98,108,101] :List UInt8),([99,97,115,99,97,100,101,115] :List UInt8),([115,116,114,105,99,116] :List UInt8),([114,105,103,111,114,111,117,115] :List UInt8),([99,111,109,109,105,116,115] :List UInt8)]
def eU:List (List UInt8):= [([119,97,105,116] :List UInt8),([100,105,101] :List UInt8),([119,111,117,110,100] :List UInt8)]
theorem gy {α β γ:Type}{x:α}(f:α->β->γ){g:β} : ∀ {l:List α} {gs:List β},l[gs.length]? =some x->List.zipWith f l (gs++ [g])=List.zipWith f l gs++ [f x g]
 | [],gs,h=>by simp at h
 |y::l,[],h=>by simp at h;subst h;simp
 |y::l,z::gs,h=>by
  simp only[List.length_cons,List.getElem?_cons_succ] at h;simp only[List.cons_append,List.zipWith_cons_cons,gy f h]
theorem lJ {α β:Type}{x:α}{g:β} : ∀ {l:List α} {gs:List β},l[gs.length]? =some x->(gs++ [g]).zip l=gs.zip l++ [(g,x)]
 | [],gs,h=>by simp at h
 |y::l,[],h=>by simp at h;subst h;simp
 |y::l,z::gs,h=>by
  simp only[List.length_cons,List.getElem?_cons_succ] at h;simp only[List.cons_append,List.zip_cons_cons,lJ h]
theorem G8 {L:KV}{k:List UInt8}(h:k ∉ L.map (·.1)):nV L k=none:=by
 unfold nV;rw[Option.map_eq_none_iff,List.find?_eq_none];intro p hp e;exact h (List.mem_map.2 ⟨p,hp,by simpa using e⟩)
theorem zl {f:List UInt8->Nat->List UInt8×Value}(hf: ∀x g,(f x g).1=x): ∀ (l:List (List UInt8)) (gs:List Nat),(List.zipWith f l gs).map (·.1)=l.take gs.length
 | [],gs=>by simp
 |y::l,[] =>by simp
 |y::l,g::gs=>by simp[hf,zl hf l gs]
theorem qQ {gs:List Nat}{k:Nat}{x:List UInt8}(hg:gs.length=k)(hx:x ∉ eD.map (·.1)++bT.take k):nV (eD++List.zipWith dK bT gs) x=none:=by
 refine G8 ?_;rw[List.map_append,zl (fun _ _=>rfl),hg]
 exact hx
theorem Az {gs hs:List Nat}{k m:Nat}{x:List UInt8}(hg:gs.length=k)(hh:hs.length=m)(hx:x ∉ eD.map (·.1)++bT.take k++eU.take m):nV (eD++List.zipWith dK bT gs++List.zipWith iL eU hs) x=none:=by
 refine G8 ?_;rw[List.map_append,List.map_append,zl (fun _ _=>rfl),zl (fun _ _=>rfl),hg,hh]
 exact hx
def aa8 (w:World)(e:Ending)(w':World):Prop:= ∃b gs hs,e=.returned (.map (some b))/\gs.length=5/\hs.length=3/\Ld w b (eD++List.zipWith dK bT gs++List.zipWith iL eU hs) (gs.zip bT++hs.zip eU) w'
theorem mR (w:World):Calls Tryz.prog 41 #[] w (aa8 w):=by
 have HQ0:=ah (Ld.start w);obtain⟨W0,hW0⟩: ∃W0:World,w.alloc (.map #[] 0)=W0:=⟨_,rfl⟩;rw[hW0] at HQ0;have hmm:= @run_makeMap Tryz.prog;obtain⟨W1,hr1,hm1,hg1⟩: ∃W',(Instr.mapUpdate 76 (.map (some w.heap.size)) (.string { data:= #[115,101,114,105,97,108] }) (.agg #[.int .i64 16,.func (.func 65) #[] #[]])).run Tryz.prog W0=.ok () W'/\qE W' w.heap.size ([] ++ [lI ([115,101,114,105,97,108] :List UInt8) 65])/\W0.grownBy W' (some w.heap.size):=
  ku Tryz.underlying76 Tryz.underlying9 HQ0.out.map _ _ (by decide)
 have HQ1:=ah (HQ0.out.four hm1 hg1);clear hm1 hg1;obtain⟨W2,hr2,hm2,hg2⟩: ∃W',(Instr.mapUpdate 76 (.map (some w.heap.size)) (.string { data:= #[111,114,100,101,114] }) (.agg #[.int .i64 16,.func (.func 67) #[] #[]])).run Tryz.prog W1=.ok () W'/\qE W' w.heap.size ([lI ([115,101,114,105,97,108] :List UInt8) 65] ++ [lI ([111,114,100,101,114] :List UInt8) 67])/\W1.grownBy W' (some w.heap.size):=
  ku Tryz.underlying76 Tryz.underlying9 HQ1.out.map _ _ (by decide)
 have HQ2:=ah (HQ1.out.four hm2 hg2);clear hm2 hg2;obtain⟨W3,hr3,hm3,hg3⟩: ∃W',(Instr.mapUpdate 76 (.map (some w.heap.size)) (.string { data:= #[99,121,99,108,101] }) (.agg #[.int .i64 16,.func (.func 70) #[] #[]])).run Tryz.prog W2=.ok () W'/\qE W' w.heap.size ([lI ([115,101,114,105,97,108] :List UInt8) 65,lI ([111,114,100,101,114] :List UInt8) 67] ++ [lI ([99,121,99,108,101] :List UInt8) 70])/\W2.grownBy W' (some w.heap.size):=
  ku Tryz.underlying76 Tryz.underlying9 HQ2.out.map _ _ (by decide)
 have O0:=ah (HQ2.out.four hm3 hg3);clear hm3 hg3;obtain⟨W4,hr4,hm4,hg4⟩: ∃W',(Instr.mapUpdate 76 (.map (some w.heap.size)) (.string { data:= #[115,110,97,112,115,104,111,116] }) (.agg #[.int .i64 16,.func (.func 72) #[] #[]])).run Tryz.prog W3=.ok () W'/\qE W' w.heap.size ([lI ([115,101,114,105,97,108] :List UInt8) 65,lI ([111,114,100,101,114] :List UInt8) 67,lI ([99,121,99,108,101] :List UInt8) 70] ++ [lI ([115,110,97,112,115,104,111,116] :List UInt8) 72])/\W3.grownBy W' (some w.heap.size):=
  ku Tryz.underlying76 Tryz.underlying9 O0.out.map _ _ (by decide)
 have HQ4:=ah (O0.out.four hm4 hg4);clear hm4 hg4;have Xf:Hid (Ld w w.heap.size eD [] W4):=HQ4.out;clear HQ0 HQ1 HQ2 O0 HQ4;obtain⟨b,nD⟩: ∃b,Hid (w.heap.size=b):=⟨_,rfl⟩;rw[nD.out] at Xf;obtain⟨rb,ZC⟩: ∃rb,Hid (W4.heap.size=rb):=⟨_,rfl⟩;have YH:Hid (b≠rb):=ah (by have:=Xf.out.map.lt;have:=ZC.out;omega)
 go_enter Tryz.func41,Tryz.ntmps41;go_wp2_with fail
 refine(n_ W4).mono ?_;rintro e w2 ⟨rfl,hw2⟩;have hb2:Below W4.heap.size W4 w2:=by rw[hw2];exact aG.alloc aj _
 have HQ2:Hid (Ld w b eD [] w2):=⟨Xf.out.map.kept (hb2.block _ Xf.out.map.lt),fun p hp=>(by cases hp),Xf.out.Bw.trans (hb2.mono Xf.out.Bw.size),Xf.out.low⟩
 have HW2:=ah hw2;clear hw2 hb2 hr1 hr2 hr3 hr4 hW0 hmm;rw[ZC.out,nD.out];have xU:Hid (w2.heap[rb]? =some (.cells #[.string { data:= #[114,101,99,111,118,101,114,97,98,108,101] },.func (.func 114) #[] #[],.string { data:= #[99,97,115,99,97,100,101,115] },.func (.func 116) #[] #[],.string { data:= #[115,116,114,105,99,116] },.func (.func 117) #[] #[],.string { data:= #[114,105,103,111,114,111,117,115] },.func (.func 120) #[] #[],.string { data:= #[99,111,109,109,105,116,115] },.func (.func 122) #[] #[]] 114 (0,0))):=by show _=_;rw[<-ZC.out,HW2.out];exact heap_alloc_new _ _
 go_wp2_with fail
 go_loopw [14] (fun i wr=> ∃ (k:Nat) (gs:List Nat),k<=5/\i=.int .i64 k/\gs.length=k/\Ld w b (eD++List.zipWith dK bT gs) (gs.zip bT) wr/\wr.heap[rb]? =w2.heap[rb]?) (fun i _=>5- (intOf i).toNat)
 case atStart=>exact⟨0,[],by omega,rfl,rfl,HQ2.out,rfl⟩
 case round=>
  obtain⟨k,gs,hk,rfl,hgs,hQ,hrow⟩:=hrel;rcases(by omega:k=0\/k=1\/k=2\/k=3\/k=4\/k=5) with rfl|rfl|rfl|rfl|rfl|rfl
  .rw[show((0:Nat):Int)=0 from rfl]
   have d0:wr.cell? ⟨rb,0,none⟩=some (.string { data:= #[114,101,99,111,118,101,114,97,98,108,101] }):=(World.cell?_of_block (w:=w2) (a:=⟨rb,0,none⟩) hrow).trans ((cell_of_row w2 rb 0 _ _ (0,0) xU.out).trans rfl);have d1:wr.cell? ⟨rb,1,none⟩=some (.func (.func 114) #[] #[]):=(World.cell?_of_block (w:=w2) (a:=⟨rb,1,none⟩) hrow).trans ((cell_of_row w2 rb 1 _ _ (0,0) xU.out).trans rfl);obtain⟨wo,rfl⟩: ∃wo:World,wo=wr:=⟨_,rfl⟩;obtain⟨W,hW⟩: ∃W:World,wo.alloc (.cells #[.string { data:= #[114,101,99,111,118,101,114,97,98,108,101] },.func (.func 114) #[] #[]] 114)=W:=⟨_,rfl⟩;have x0:W.cell? ⟨wo.heap.size,0,none⟩=some (.string { data:= #[114,101,99,111,118,101,114,97,98,108,101] }):=by rw[<-hW];exact aV _ _ _ _ _ rfl
   have EH:qE W b (eD++List.zipWith dK bT gs):=hQ.map.kept (by rw[<-hW];exact Below.heap_alloc wo _ b hQ.map.lt)
   obtain⟨W',hr,hm,hg⟩: ∃W',(Instr.mapUpdate 76 (.map (some b)) (.string { data:= #[114,101,99,111,118,101,114,97,98,108,101] }) (.agg #[.int .i64 16,.func (.func 75) #[] #[.pointer (some ⟨wo.heap.size,0,none⟩)]])).run Tryz.prog W=.ok () W'/\qE W' b (eD++List.zipWith dK bT gs++ [dK ([114,101,99,111,118,101,114,97,98,108,101] :List UInt8) wo.heap.size])/\W.grownBy W' (some b):=
    ku Tryz.underlying76 Tryz.underlying9 EH _ _ (qQ hgs (by decide))
   have hQ':=hQ.step (x:=([114,101,99,111,118,101,114,97,98,108,101] :List UInt8)) hW.symm hm hg;rw[List.append_assoc,<-gy (x:=([114,101,99,111,118,101,114,97,98,108,101] :List UInt8)) dK (l:=bT) (gs:=gs) (by rw[hgs];rfl),<-lJ (x:=([114,101,99,111,118,101,114,97,98,108,101] :List UInt8)) (l:=bT) (gs:=gs) (by rw[hgs];rfl)] at hQ'
   have hrow':W'.heap[rb]? =w2.heap[rb]? :=by
    have hlt:rb<wo.heap.size:=lt_of_block (hrow.trans xU.out);have e1:W.heap[rb]? =wo.heap[rb]? :=by rw[<-hW];exact Below.heap_alloc wo _ rb hlt
    exact(hg.block rb (by have:wo.heap.size<=W.heap.size:=(by rw[<-hW];simp);omega) (fun e=>YH.out (by injection e with e;exact e.symm))).trans (e1.trans hrow)
   have HN:=ah (And.intro hQ' hrow');clear hQ hQ' hrow hrow' EH hm hg;go_wp2_with fail
   go_roundw
   case rel=>exact⟨1,gs++ [wo.heap.size],by omega,by go_num,by simp[hgs],HN.out.1,HN.out.2⟩
   case measure=>simp[intOf] <;>omega
  .rw[show((1:Nat):Int)=1 from rfl]
   have d0:wr.cell? ⟨rb,2,none⟩=some (.string { data:= #[99,97,115,99,97,100,101,115] }):=(World.cell?_of_block (w:=w2) (a:=⟨rb,2,none⟩) hrow).trans ((cell_of_row w2 rb 2 _ _ (0,0) xU.out).trans rfl);have d1:wr.cell? ⟨rb,3,none⟩=some (.func (.func 116) #[] #[]):=(World.cell?_of_block (w:=w2) (a:=⟨rb,3,none⟩) hrow).trans ((cell_of_row w2 rb 3 _ _ (0,0) xU.out).trans rfl);obtain⟨wo,rfl⟩: ∃wo:World,wo=wr:=⟨_,rfl⟩;obtain⟨W,hW⟩: ∃W:World,wo.alloc (.cells #[.string { data:= #[99,97,115,99,97,100,101,115] },.func (.func 116) #[] #[]] 114)=W:=⟨_,rfl⟩;have x0:W.cell? ⟨wo.heap.size,0,none⟩=some (.string { data:= #[99,97,115,99,97,100,101,115] }):=by rw[<-hW];exact aV _ _ _ _ _ rfl
   have EH:qE W b (eD++List.zipWith dK bT gs):=hQ.map.kept (by rw[<-hW];exact Below.heap_alloc wo _ b hQ.map.lt)
   obtain⟨W',hr,hm,hg⟩: ∃W',(Instr.mapUpdate 76 (.map (some b)) (.string { data:= #[99,97,115,99,97,100,101,115] }) (.agg #[.int .i64 16,.func (.func 75) #[] #[.pointer (some ⟨wo.heap.size,0,none⟩)]])).run Tryz.prog W=.ok () W'/\qE W' b (eD++List.zipWith dK bT gs++ [dK ([99,97,115,99,97,100,101,115] :List UInt8) wo.heap.size])/\W.grownBy W' (some b):=
    ku Tryz.underlying76 Tryz.underlying9 EH _ _ (qQ hgs (by decide))
   have hQ':=hQ.step (x:=([99,97,115,99,97,100,101,115] :List UInt8)) hW.symm hm hg;rw[List.append_assoc,<-gy (x:=([99,97,115,99,97,100,101,115] :List UInt8)) dK (l:=bT) (gs:=gs) (by rw[hgs];rfl),<-lJ (x:=([99,97,115,99,97,100,101,115] :List UInt8)) (l:=bT) (gs:=gs) (by rw[hgs];rfl)] at hQ'
   have hrow':W'.heap[rb]? =w2.heap[rb]? :=by
    have hlt:rb<wo.heap.size:=lt_of_block (hrow.trans xU.out);have e1:W.heap[rb]? =wo.heap[rb]? :=by rw[<-hW];exact Below.heap_alloc wo _ rb hlt
    exact(hg.block rb (by have:wo.heap.size<=W.heap.size:=(by rw[<-hW];simp);omega) (fun e=>YH.out (by injection e with e;exact e.symm))).trans (e1.trans hrow)
   have HN:=ah (And.intro hQ' hrow');clear hQ hQ' hrow hrow' EH hm hg;go_wp2_with fail
   go_roundw
   case rel=>exact⟨2,gs++ [wo.heap.size],by omega,by go_num,by simp[hgs],HN.out.1,HN.out.2⟩
   case measure=>simp[intOf] <;>omega
  .rw[show((2:Nat):Int)=2 from rfl]
   have d0:wr.cell? ⟨rb,4,none⟩=some (.string { data:= #[115,116,114,105,99,116] }):=(World.cell?_of_block (w:=w2) (a:=⟨rb,4,none⟩) hrow).trans ((cell_of_row w2 rb 4 _ _ (0,0) xU.out).trans rfl);have d1:wr.cell? ⟨rb,5,none⟩=some (.func (.func 117) #[] #[]):=(World.cell?_of_block (w:=w2) (a:=⟨rb,5,none⟩) hrow).trans ((cell_of_row w2 rb 5 _ _ (0,0) xU.out).trans rfl);obtain⟨wo,rfl⟩: ∃wo:World,wo=wr:=⟨_,rfl⟩;obtain⟨W,hW⟩: ∃W:World,wo.alloc (.cells #[.string { data:= #[115,116,114,105,99,116] },.func (.func 117) #[] #[]] 114)=W:=⟨_,rfl⟩;have x0:W.cell? ⟨wo.heap.size,0,none⟩=some (.string { data:= #[115,116,114,105,99,116] }):=by rw[<-hW];exact aV _ _ _ _ _ rfl
   have EH:qE W b (eD++List.zipWith dK bT gs):=hQ.map.kept (by rw[<-hW];exact Below.heap_alloc wo _ b hQ.map.lt)
   obtain⟨W',hr,hm,hg⟩: ∃W',(Instr.mapUpdate 76 (.map (some b)) (.string { data:= #[115,116,114,105,99,116] }) (.agg #[.int .i64 16,.func (.func 75) #[] #[.pointer (some ⟨wo.heap.size,0,none⟩)]])).run Tryz.prog W=.ok () W'/\qE W' b (eD++List.zipWith dK bT gs++ [dK ([115,116,114,105,99,116] :List UInt8) wo.heap.size])/\W.grownBy W' (some b):=
    ku Tryz.underlying76 Tryz.underlying9 EH _ _ (qQ hgs (by decide))
   have hQ':=hQ.step (x:=([115,116,114,105,99,116] :List UInt8)) hW.symm hm hg;rw[List.append_assoc,<-gy (x:=([115,116,114,105,99,116] :List UInt8)) dK (l:=bT) (gs:=gs) (by rw[hgs];rfl),<-lJ (x:=([115,116,114,105,99,116] :List UInt8)) (l:=bT) (gs:=gs) (by rw[hgs];rfl)] at hQ'
   have hrow':W'.heap[rb]? =w2.heap[rb]? :=by
    have hlt:rb<wo.heap.size:=lt_of_block (hrow.trans xU.out);have e1:W.heap[rb]? =wo.heap[rb]? :=by rw[<-hW];exact Below.heap_alloc wo _ rb hlt
    exact(hg.block rb (by have:wo.heap.size<=W.heap.size:=(by rw[<-hW];simp);omega) (fun e=>YH.out (by injection e with e;exact e.symm))).trans (e1.trans hrow)
   have HN:=ah (And.intro hQ' hrow');clear hQ hQ' hrow hrow' EH hm hg;go_wp2_with fail
   go_roundw
   case rel=>exact⟨3,gs++ [wo.heap.size],by omega,by go_num,by simp[hgs],HN.out.1,HN.out.2⟩
   case measure=>simp[intOf] <;>omega
  .rw[show((3:Nat):Int)=3 from rfl]
   have d0:wr.cell? ⟨rb,6,none⟩=some (.string { data:= #[114,105,103,111,114,111,117,115] }):=(World.cell?_of_block (w:=w2) (a:=⟨rb,6,none⟩) hrow).trans ((cell_of_row w2 rb 6 _ _ (0,0) xU.out).trans rfl);have d1:wr.cell? ⟨rb,7,none⟩=some (.func (.func 120) #[] #[]):=(World.cell?_of_block (w:=w2) (a:=⟨rb,7,none⟩) hrow).trans ((cell_of_row w2 rb 7 _ _ (0,0) xU.out).trans rfl);obtain⟨wo,rfl⟩: ∃wo:World,wo=wr:=⟨_,rfl⟩;obtain⟨W,hW⟩: ∃W:World,wo.alloc (.cells #[.string { data:= #[114,105,103,111,114,111,117,115] },.func (.func 120) #[] #[]] 114)=W:=⟨_,rfl⟩;have x0:W.cell? ⟨wo.heap.size,0,none⟩=some (.string { data:= #[114,105,103,111,114,111,117,115] }):=by rw[<-hW];exact aV _ _ _ _ _ rfl
   have EH:qE W b (eD++List.zipWith dK bT gs):=hQ.map.kept (by rw[<-hW];exact Below.heap_alloc wo _ b hQ.map.lt)
   obtain⟨W',hr,hm,hg⟩: ∃W',(Instr.mapUpdate 76 (.map (some b)) (.string { data:= #[114,105,103,111,114,111,117,115] }) (.agg #[.int .i64 16,.func (.func 75) #[] #[.pointer (some ⟨wo.heap.size,0,none⟩)]])).run Tryz.prog W=.ok () W'/\qE W' b (eD++List.zipWith dK bT gs++ [dK ([114,105,103,111,114,111,117,115] :List UInt8) wo.heap.size])/\W.grownBy W' (some b):=
    ku Tryz.underlying76 Tryz.underlying9 EH _ _ (qQ hgs (by decide))
   have hQ':=hQ.step (x:=([114,105,103,111,114,111,117,115] :List UInt8)) hW.symm hm hg;rw[List.append_assoc,<-gy (x:=([114,105,103,111,114,111,117,115] :List UInt8)) dK (l:=bT) (gs:=gs) (by rw[hgs];rfl),<-lJ (x:=([114,105,103,111,114,111,117,115] :List UInt8)) (l:=bT) (gs:=gs) (by rw[hgs];rfl)] at hQ'
   have hrow':W'.heap[rb]? =w2.heap[rb]? :=by
    have hlt:rb<wo.heap.size:=lt_of_block (hrow.trans xU.out);have e1:W.heap[rb]? =wo.heap[rb]? :=by rw[<-hW];exact Below.heap_alloc wo _ rb hlt
    exact(hg.block rb (by have:wo.heap.size<=W.heap.size:=(by rw[<-hW];simp);omega) (fun e=>YH.out (by injection e with e;exact e.symm))).trans (e1.trans hrow)
   have HN:=ah (And.intro hQ' hrow');clear hQ hQ' hrow hrow' EH hm hg;go_wp2_with fail
   go_roundw
   case rel=>exact⟨4,gs++ [wo.heap.size],by omega,by go_num,by simp[hgs],HN.out.1,HN.out.2⟩
   case measure=>simp[intOf] <;>omega
  .rw[show((4:Nat):Int)=4 from rfl]
   have d0:wr.cell? ⟨rb,8,none⟩=some (.string { data:= #[99,111,109,109,105,116,115] }):=(World.cell?_of_block (w:=w2) (a:=⟨rb,8,none⟩) hrow).trans ((cell_of_row w2 rb 8 _ _ (0,0) xU.out).trans rfl);have d1:wr.cell? ⟨rb,9,none⟩=some (.func (.func 122) #[] #[]):=(World.cell?_of_block (w:=w2) (a:=⟨rb,9,none⟩) hrow).trans ((cell_of_row w2 rb 9 _ _ (0,0) xU.out).trans rfl);obtain⟨wo,rfl⟩: ∃wo:World,wo=wr:=⟨_,rfl⟩;obtain⟨W,hW⟩: ∃W:World,wo.alloc (.cells #[.string { data:= #[99,111,109,109,105,116,115] },.func (.func 122) #[] #[]] 114)=W:=⟨_,rfl⟩;have x0:W.cell? ⟨wo.heap.size,0,none⟩=some (.string { data:= #[99,111,109,109,105,116,115] }):=by rw[<-hW];exact aV _ _ _ _ _ rfl
   have EH:qE W b (eD++List.zipWith dK bT gs):=hQ.map.kept (by rw[<-hW];exact Below.heap_alloc wo _ b hQ.map.lt)
   obtain⟨W',hr,hm,hg⟩: ∃W',(Instr.mapUpdate 76 (.map (some b)) (.string { data:= #[99,111,109,109,105,116,115] }) (.agg #[.int .i64 16,.func (.func 75) #[] #[.pointer (some ⟨wo.heap.size,0,none⟩)]])).run Tryz.prog W=.ok () W'/\qE W' b (eD++List.zipWith dK bT gs++ [dK ([99,111,109,109,105,116,115] :List UInt8) wo.heap.size])/\W.grownBy W' (some b):=
    ku Tryz.underlying76 Tryz.underlying9 EH _ _ (qQ hgs (by decide))
   have hQ':=hQ.step (x:=([99,111,109,109,105,116,115] :List UInt8)) hW.symm hm hg;rw[List.append_assoc,<-gy (x:=([99,111,109,109,105,116,115] :List UInt8)) dK (l:=bT) (gs:=gs) (by rw[hgs];rfl),<-lJ (x:=([99,111,109,109,105,116,115] :List UInt8)) (l:=bT) (gs:=gs) (by rw[hgs];rfl)] at hQ'
   have hrow':W'.heap[rb]? =w2.heap[rb]? :=by
    have hlt:rb<wo.heap.size:=lt_of_block (hrow.trans xU.out);have e1:W.heap[rb]? =wo.heap[rb]? :=by rw[<-hW];exact Below.heap_alloc wo _ rb hlt
    exact(hg.block rb (by have:wo.heap.size<=W.heap.size:=(by rw[<-hW];simp);omega) (fun e=>YH.out (by injection e with e;exact e.symm))).trans (e1.trans hrow)
   have HN:=ah (And.intro hQ' hrow');clear hQ hQ' hrow hrow' EH hm hg;go_wp2_with fail
   go_roundw
   case rel=>exact⟨5,gs++ [wo.heap.size],by omega,by go_num,by simp[hgs],HN.out.1,HN.out.2⟩
   case measure=>simp[intOf] <;>omega
  .rw[show((5:Nat):Int)=5 from rfl]
   have Wl:=ah hgs;have O0:=ah hQ;obtain⟨lb,hlb⟩: ∃lb,wr.heap.size=lb:=⟨_,rfl⟩;have Vj:Hid (b≠lb):=ah (by have:=O0.out.map.lt;omega)
   obtain⟨w4,hw4⟩: ∃w4:World,wr.alloc (.cells #[.string { data:= #[119,97,105,116] },.string { data:= #[100,105,101] },.string { data:= #[119,111,117,110,100] }] 9)=w4:=⟨_,rfl⟩;have hb4:Below wr.heap.size wr w4:=by rw[<-hw4];exact aG.alloc aj _
   have HQ4:Hid (Ld w b (eD++List.zipWith dK bT gs) (gs.zip bT) w4):=⟨O0.out.map.kept (hb4.block _ O0.out.map.lt),fun p hp=>⟨(hb4.cell (p:=⟨p.1,0,none⟩) (block_lt_of_cell (O0.out.box p hp).1)).trans (O0.out.box p hp).1,(O0.out.box p hp).2⟩,O0.out.Bw.trans (hb4.mono O0.out.Bw.size),O0.out.low⟩
   have HW4:Hid (w4.heap[lb]? =some (.cells #[.string { data:= #[119,97,105,116] },.string { data:= #[100,105,101] },.string { data:= #[119,111,117,110,100] }] 9 (0,0))):=by show _=_;rw[<-hlb,<-hw4];exact heap_alloc_new _ _
   clear hQ hrow hgs O0 hb4;go_wp2_with fail
   go_loopw [26] (fun i wr=> ∃ (k:Nat) (hs:List Nat),k<=3/\i=.int .i64 k/\hs.length=k/\Ld w b (eD++List.zipWith dK bT gs++List.zipWith iL eU hs) (gs.zip bT++hs.zip eU) wr/\wr.heap[lb]? =w4.heap[lb]?) (fun i _=>3- (intOf i).toNat)
   case atStart=>exact⟨0,[],by omega,rfl,rfl,by simpa using HQ4.out,rfl⟩
   case round=>
   clear hw4;obtain⟨k,hs,hk,rfl,Rl,hQ,hrow⟩:=hrel;rcases(by omega:k=0\/k=1\/k=2\/k=3) with rfl|rfl|rfl|rfl
   .rw[show((0:Nat):Int)=0 from rfl]
    have d0:wr.cell? ⟨lb,0,none⟩=some (.string { data:= #[119,97,105,116] }):=(World.cell?_of_block (w:=w4) (a:=⟨lb,0,none⟩) hrow).trans ((cell_of_row w4 lb 0 _ _ (0,0) HW4.out).trans rfl);obtain⟨wo,rfl⟩: ∃wo:World,wo=wr:=⟨_,rfl⟩;obtain⟨W,hW⟩: ∃W:World,wo.alloc (.cells #[.string { data:= #[119,97,105,116] }] 9)=W:=⟨_,rfl⟩;have x0:W.cell? ⟨wo.heap.size,0,none⟩=some (.string { data:= #[119,97,105,116] }):=by rw[<-hW];exact aV _ _ _ _ _ rfl
    have EH:qE W b (eD++List.zipWith dK bT gs++List.zipWith iL eU hs):=hQ.map.kept (by rw[<-hW];exact Below.heap_alloc wo _ b hQ.map.lt)
    obtain⟨W',hr,hm,hg⟩: ∃W',(Instr.mapUpdate 76 (.map (some b)) (.string { data:= #[119,97,105,116] }) (.agg #[.int .i64 12,.func (.func 78) #[] #[.pointer (some ⟨wo.heap.size,0,none⟩)]])).run Tryz.prog W=.ok () W'/\qE W' b (eD++List.zipWith dK bT gs++List.zipWith iL eU hs++ [iL ([119,97,105,116] :List UInt8) wo.heap.size])/\W.grownBy W' (some b):=
     ku Tryz.underlying76 Tryz.underlying9 EH _ _ (Az Wl.out Rl (by decide))
    have hQ':=hQ.step (x:=([119,97,105,116] :List UInt8)) (vs:= []) hW.symm hm hg;rw[List.append_assoc (eD++List.zipWith dK bT gs),<-gy (x:=([119,97,105,116] :List UInt8)) iL (l:=eU) (gs:=hs) (by rw[Rl];rfl),List.append_assoc (gs.zip bT),<-lJ (x:=([119,97,105,116] :List UInt8)) (l:=eU) (gs:=hs) (by rw[Rl];rfl)] at hQ'
    have hrow':W'.heap[lb]? =w4.heap[lb]? :=by
     have hlt:lb<wo.heap.size:=lt_of_block (hrow.trans HW4.out);have e1:W.heap[lb]? =wo.heap[lb]? :=by rw[<-hW];exact Below.heap_alloc wo _ lb hlt
     exact(hg.block lb (by have:wo.heap.size<=W.heap.size:=(by rw[<-hW];simp);omega) (fun e=>Vj.out (by injection e with e;exact e.symm))).trans (e1.trans hrow)
    have HN:=ah (And.intro hQ' hrow');clear hQ hQ' hrow hrow' EH hm hg;go_wp2_with fail
    go_roundw
    case rel=>exact⟨1,hs++ [wo.heap.size],by omega,by go_num,by simp[Rl],HN.out.1,HN.out.2⟩
    case measure=>simp[intOf] <;>omega
   .rw[show((1:Nat):Int)=1 from rfl]
    have d0:wr.cell? ⟨lb,1,none⟩=some (.string { data:= #[100,105,101] }):=(World.cell?_of_block (w:=w4) (a:=⟨lb,1,none⟩) hrow).trans ((cell_of_row w4 lb 1 _ _ (0,0) HW4.out).trans rfl);obtain⟨wo,rfl⟩: ∃wo:World,wo=wr:=⟨_,rfl⟩;obtain⟨W,hW⟩: ∃W:World,wo.alloc (.cells #[.string { data:= #[100,105,101] }] 9)=W:=⟨_,rfl⟩;have x0:W.cell? ⟨wo.heap.size,0,none⟩=some (.string { data:= #[100,105,101] }):=by rw[<-hW];exact aV _ _ _ _ _ rfl
    have EH:qE W b (eD++List.zipWith dK bT gs++List.zipWith iL eU hs):=hQ.map.kept (by rw[<-hW];exact Below.heap_alloc wo _ b hQ.map.lt)
    obtain⟨W',hr,hm,hg⟩: ∃W',(Instr.mapUpdate 76 (.map (some b)) (.string { data:= #[100,105,101] }) (.agg #[.int .i64 12,.func (.func 78) #[] #[.pointer (some ⟨wo.heap.size,0,none⟩)]])).run Tryz.prog W=.ok () W'/\qE W' b (eD++List.zipWith dK bT gs++List.zipWith iL eU hs++ [iL ([100,105,101] :List UInt8) wo.heap.size])/\W.grownBy W' (some b):=
     ku Tryz.underlying76 Tryz.underlying9 EH _ _ (Az Wl.out Rl (by decide))
    have hQ':=hQ.step (x:=([100,105,101] :List UInt8)) (vs:= []) hW.symm hm hg;rw[List.append_assoc (eD++List.zipWith dK bT gs),<-gy (x:=([100,105,101] :List UInt8)) iL (l:=eU) (gs:=hs) (by rw[Rl];rfl),List.append_assoc (gs.zip bT),<-lJ (x:=([100,105,101] :List UInt8)) (l:=eU) (gs:=hs) (by rw[Rl];rfl)] at hQ'
    have hrow':W'.heap[lb]? =w4.heap[lb]? :=by
     have hlt:lb<wo.heap.size:=lt_of_block (hrow.trans HW4.out);have e1:W.heap[lb]? =wo.heap[lb]? :=by rw[<-hW];exact Below.heap_alloc wo _ lb hlt
     exact(hg.block lb (by have:wo.heap.size<=W.heap.size:=(by rw[<-hW];simp);omega) (fun e=>Vj.out (by injection e with e;exact e.symm))).trans (e1.trans hrow)
    have HN:=ah (And.intro hQ' hrow');clear hQ hQ' hrow hrow' EH hm hg;go_wp2_with fail
    go_roundw
    case rel=>exact⟨2,hs++ [wo.heap.size],by omega,by go_num,by simp[Rl],HN.out.1,HN.out.2⟩
    case measure=>simp[intOf] <;>omega
   .rw[show((2:Nat):Int)=2 from rfl]
    have d0:wr.cell? ⟨lb,2,none⟩=some (.string { data:= #[119,111,117,110,100] }):=(World.cell?_of_block (w:=w4) (a:=⟨lb,2,none⟩) hrow).trans ((cell_of_row w4 lb 2 _ _ (0,0) HW4.out).trans rfl);obtain⟨wo,rfl⟩: ∃wo:World,wo=wr:=⟨_,rfl⟩;obtain⟨W,hW⟩: ∃W:World,wo.alloc (.cells #[.string { data:= #[119,111,117,110,100] }] 9)=W:=⟨_,rfl⟩;have x0:W.cell? ⟨wo.heap.size,0,none⟩=some (.string { data:= #[119,111,117,110,100] }):=by rw[<-hW];exact aV _ _ _ _ _ rfl
    have EH:qE W b (eD++List.zipWith dK bT gs++List.zipWith iL eU hs):=hQ.map.kept (by rw[<-hW];exact Below.heap_alloc wo _ b hQ.map.lt)
    obtain⟨W',hr,hm,hg⟩: ∃W',(Instr.mapUpdate 76 (.map (some b)) (.string { data:= #[119,111,117,110,100] }) (.agg #[.int .i64 12,.func (.func 78) #[] #[.pointer (some ⟨wo.heap.size,0,none⟩)]])).run Tryz.prog W=.ok () W'/\qE W' b (eD++List.zipWith dK bT gs++List.zipWith iL eU hs++ [iL ([119,111,117,110,100] :List UInt8) wo.heap.size])/\W.grownBy W' (some b):=
     ku Tryz.underlying76 Tryz.underlying9 EH _ _ (Az Wl.out Rl (by decide))
    have hQ':=hQ.step (x:=([119,111,117,110,100] :List UInt8)) (vs:= []) hW.symm hm hg;rw[List.append_assoc (eD++List.zipWith dK bT gs),<-gy (x:=([119,111,117,110,100] :List UInt8)) iL (l:=eU) (gs:=hs) (by rw[Rl];rfl),List.append_assoc (gs.zip bT),<-lJ (x:=([119,111,117,110,100] :List UInt8)) (l:=eU) (gs:=hs) (by rw[Rl];rfl)] at hQ'
    have hrow':W'.heap[lb]? =w4.heap[lb]? :=by
     have hlt:lb<wo.heap.size:=lt_of_block (hrow.trans HW4.out);have e1:W.heap[lb]? =wo.heap[lb]? :=by rw[<-hW];exact Below.heap_alloc wo _ lb hlt
     exact(hg.block lb (by have:wo.heap.size<=W.heap.size:=(by rw[<-hW];simp);omega) (fun e=>Vj.out (by injection e with e;exact e.symm))).trans (e1.trans hrow)
    have HN:=ah (And.intro hQ' hrow');clear hQ hQ' hrow hrow' EH hm hg;go_wp2_with fail
    go_roundw
    case rel=>exact⟨3,hs++ [wo.heap.size],by omega,by go_num,by simp[Rl],HN.out.1,HN.out.2⟩
    case measure=>simp[intOf] <;>omega
   .rw[show((3:Nat):Int)=3 from rfl]
    have HR:Hid (aa8 w (.returned (.map (some b))) wr):=ah ⟨b,gs,hs,rfl,Wl.out,Rl,hQ⟩;clear hQ hrow;go_wp2_with fail
    go_ret;exact HR.out
theorem Le (A:Option Addr)(n c:Nat)(s:List ay)(w:World)(hx:aC w A n s)(hnc:n<=c)(hv:aF s=true):
 Calls Tryz.prog 65 #[.slice A n c] w (nA w (rR (jk s))):=by
 have h:=Hr A n c s w hx hnc;have e:C_ s=jk s:=by unfold C_;rw[hv,Bool.and_true]
 rw[e] at h;have HI:=ah h;clear h e hx hv;generalize jk s=bb at*;cases bb
 .go_enter Tryz.func65,Tryz.ntmps65;go_wp2_with fail
  refine HI.out.mono ?_;rintro e w1 ⟨rfl,hb1⟩;go_wp2_with fail
  go_ret;exact⟨rfl,hb1⟩
 .go_enter Tryz.func65,Tryz.ntmps65;go_wp2_with fail
  refine HI.out.mono ?_;rintro e w1 ⟨rfl,hb1⟩;go_wp2_with fail
  go_ret;exact⟨rfl,hb1⟩
theorem NM (A:Option Addr)(n c:Nat)(s:List ay)(w:World)(hx:aC w A n s)(hnc:n<=c)(hv:aF s=true):
 Calls Tryz.prog 70 #[.slice A n c] w (nA w (fO (pq s))):=by
 have h:=Kv A n c s w hx hnc;rw[hv] at h;have hsm:=Aj hv;have hlen:(pq s).length<=16:=by
  have:=vC (y7 hv).1 (yP hv);unfold pq;omega
 have HI:=ah h;clear h hx hv;unfold wF at HI;simp only[if_true] at HI;generalize pq s=xs at*;go_enter Tryz.func70,Tryz.ntmps70;go_wp2_with fail
 refine HI.out.mono ?_;rintro e w1 ⟨A2,c2,rfl,hc2,hf2,hb1⟩;generalize hm:xs.length=m at*;go_wp2_with fail
 refine(Dz A2 m c2 xs w1 hf2.1 hsm hlen).mono ?_;rintro e w2 ⟨rfl,hb2⟩;go_wp2_with fail
 go_ret;exact⟨rfl,hb1.trans (hb2.mono hb1.size)⟩
theorem FL (A:Option Addr)(n c:Nat)(s:List ay)(w:World)(hx:aC w A n s)(hnc:n<=c)(hv:aF s=true):
 Calls Tryz.prog 72 #[.slice A n c] w (nA w (fO (lT s))):=by
 have h:=BF A n c s w hx (fun o ho _=>by
  have:=p9 hv o ho;rcases this with h|h
  .unfold aK at h;simp_all
  .exact h)
 rw[WR hv] at h;have hsm:=xR hv;have hlen:(lT s).length<=16:=by have:=G5 s;have h2:=((bn s).1 hv).1;omega
 have HI:=ah h;clear h hx hv;generalize lT s=xs at*;go_enter Tryz.func72,Tryz.ntmps72;go_wp2_with fail
 refine HI.out.mono ?_;rintro e w1 ⟨A2,c2,rfl,hc2,hf2,hb1⟩;generalize hm:xs.length=m at*;go_wp2_with fail
 refine(Dz A2 m c2 xs w1 hf2.1 hsm hlen).mono ?_;rintro e w2 ⟨rfl,hb2⟩;go_wp2_with fail
 go_ret;exact⟨rfl,hb1.trans (hb2.mono hb1.size)⟩
theorem NN (A:Option Addr)(n c:Nat)(s:List ay)(w:World)(hx:aC w A n s)(hnc:n<=c)(hv:aF s=true):
 Calls Tryz.prog 67 #[.slice A n c] w (nA w (Ie (jY s))):=by
 have h:=IK A n c s w hx hv;rw[Ch hv] at h;have hsm:=Ai hv;have hlen: ∀o∈jY s,o.length<=16:=fun o ho=>by
  rw[<-Ch hv] at ho;unfold JY Ih at ho;have h1:=su _ _ _ (List.mem_filter.1 ho).1;have h2:(ji (committed s)).length<=4:=by unfold ji;exact List.length_filter_le _ _
  simp only[List.length_nil] at h1;omega
 have HI:=ah h;clear h hx hv;generalize jY s=oo at*;go_enter Tryz.func67,Tryz.ntmps67;go_wp2_with fail
 refine HI.out.mono ?_;intro e w1 h1;obtain⟨A2,c2,rv,rfl,hc2,ho2,hr2,hb1⟩:=h1.lists;cases oo with
 |nil=>
  go_wp2_with fail
  refine wp_loop_rounds 1 ?_;rw[rounds_succ];go_wp2_with fail
  go_ret;exact⟨rfl,hb1⟩
 |cons o r=>
  obtain⟨b5,ab5,A6,n6,c6,rfl,hcell,ab6,hx6⟩:=Er ho2 hr2;have hn6:n6<=16:=by have:=hlen o (by simp);have h2:=hx6.1;omega
  have hs6:=hsm o (by simp)
  have ZQ:0< (o::r).length:=by simp
  generalize(o::r).length=n5 at*;have hz6:(0:Int)< (n5:Int):=by omega
  have hz7:decide ((0:Int)< (n5:Int))=true:=by simp;omega
  go_wp2_with fail
  refine wp_loop_rounds 1 ?_;rw[rounds_succ];go_wp2_with fail
  refine(Dz A6 n6 c6 o w1 hx6 hs6 hn6).mono ?_;rintro e w2 ⟨rfl,hb2⟩;go_wp2_with fail
  go_ret;exact⟨rfl,hb1.trans (hb2.mono hb1.size)⟩
def FM (W:World)(g:Nat)(x:List UInt8):Prop:=W.cell? ⟨g,0,none⟩=some (dw x)
def Xi (x:List UInt8)(B:List ay->Nat->Bool):Prop:= ∀ (A:Option Addr) (n c:Nat) (s:List ay) (w:World),aC w A n s->n<=c->Calls Tryz.prog 76 #[.string ⟨⟨x⟩⟩,.slice A n c] w (eF s w (aY (B s) s.length))
theorem qR {x:List UInt8}{B B':List ay->Nat->Bool}(hF:Xi x B)(A:Option Addr)(n c g:Nat)(s:List ay)(w:World)(hx:aC w A n s)(hnc:n<=c)(hv:aF s=true)(he:B s=B' s)(hb:FM w g x)(hp:yC w):
 Calls Tryz.prog 75 #[.slice A n c,.pointer (some ⟨g,0,none⟩)] w (nA w (Lib.itoa (aY (B' s) s.length))):=by
 have h:=hF A n c s w hx hnc;unfold eF at h;rw[hv,if_pos rfl,he] at h;have hz:=kF (B' s) s.length;have h16:=((bn s).1 hv).1;have HI:=ah h;have HP:=ah hp;have hc0:w.cell? ⟨g,0,none⟩=some (.string ⟨⟨x⟩⟩):=hb;clear h hx hv hF hp hb he;generalize s.length=m at*;generalize aY (B' s) m=z at*;go_enter Tryz.func75,Tryz.ntmps75;go_wp2_with fail
 refine HI.out.mono ?_;rintro e w1 ⟨rfl,hb1⟩;have hp1:yC w1:=HP.out.below hb1;go_wp2_with fail
 refine(SG (x:=z) hz.1 (by omega) w1 hp1).mono ?_
 rintro e w2 ⟨rfl,hb2⟩;go_wp2_with fail
 go_ret;exact⟨rfl,hb1.trans (hb2.mono hb1.size)⟩
theorem AA {x:List UInt8}{r:dQ}(hr:jH ⟨⟨x⟩⟩=some r)(A:Option Addr)(n c g:Nat)(s:List ay)(w:World)(hx:aC w A n s)(hnc:n<=c)(hv:aF s=true)(h12:s.length<=12)(hb:FM w g x):
 Calls Tryz.prog 78 #[.slice A n c,.pointer (some ⟨g,0,none⟩)] w (nA w (bX (dO r s).done)):=by
 have h:=Je ⟨⟨x⟩⟩ A n c s w hx hnc;have hok:uT ⟨⟨x⟩⟩ s=true:=by unfold uT;rw[hr,hv,decide_eq_true h12];rfl
 unfold Jd at h;rw[K3 hok hr,hok] at h;have hd:=yY (r:=r) hv h12;have HI:=ah h;have hc0:w.cell? ⟨g,0,none⟩=some (.string ⟨⟨x⟩⟩):=hb;have HST:=ah (fun A n c w hx hnc=>zF A n c (dO r s).done w hx hnc)
 unfold SE at HST;rw[if_pos hd] at HST;clear h hx hv hb hok hd;generalize dO r s=D at*;go_enter Tryz.func78,Tryz.ntmps78;go_wp2_with fail
 refine HI.out.mono ?_;rintro e w1 ⟨hb1,v,rfl,Ad,Aw,Al,Ak,nd,nw,nl,nk,rfl,h1,h2,h3,h4,h5⟩;have HX1:=ah h1.1;clear h1 h2 h3 h4 h5;have HB1:=ah hb1;obtain⟨W,hW⟩: ∃W:World,w1.alloc (.cells #[.slice Ad nd nd,.slice Aw nw nw,.slice Al nl nl,.slice Ak nk nk] 67)=W:=⟨_,rfl⟩;have hbW:Below w1.heap.size w1 W:=by rw[<-hW];exact aG.alloc aj _
 have x0:W.cell? ⟨w1.heap.size,0,none⟩=some (.slice Ad nd nd):=by rw[<-hW];exact aV _ _ _ _ _ rfl
 have LD:=ah (HX1.out.below hbW aj);have nD:=ah (HB1.out.trans (hbW.mono HB1.out.size));clear hbW hb1;go_wp2_with fail
 refine(HST.out Ad nd nd W LD.out aj).mono ?_;rintro e w2 ⟨rfl,hb2⟩;go_wp2_with fail
 go_ret;exact⟨rfl,nD.out.trans (hb2.mono nD.out.size)⟩
end Go.Proofs.YtddkjbibjjehjaaGreatDoor
