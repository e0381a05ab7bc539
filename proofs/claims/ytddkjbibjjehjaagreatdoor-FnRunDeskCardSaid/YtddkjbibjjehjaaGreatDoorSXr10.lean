/-
  Texts that the proof rests on, joined: part 10.
-/
import Derived.Test.YtddkjbibjjehjaaGreatDoorSXr9
set_option maxHeartbeats 16000000
set_option maxRecDepth 100000
namespace Go.Proofs.YtddkjbibjjehjaaGreatDoor
open Go.RowKit
set_option linter.unusedVariables false
def eP (L:List ay)(t x kind:Int):List Int:= [0,1,2,3].filter fun u=>u !=t&& (decide (0<=aL L u x) && (aL L u x==1||kind==1))
def gQ (L:List ay)(t:Int):Nat->List ay
 |0=>L
 |k+1=>if 0<=aL (gQ L t k) t (k:Int) then gQ L t k++ [⟨t,2,(k:Int)⟩] else gQ L t k
theorem jy (L:List ay)(t:Int)(k:Nat):gQ L t (k+1)=if 0<=aL (gQ L t k) t (k:Int) then gQ L t k++ [⟨t,2,(k:Int)⟩] else gQ L t k:=rfl
def iT (L:List ay)(t:Int):List ay:=gQ L t 3
structure bY where
 done:List ay
 wait:List ay
 av:List ay
 dead:List Int
def bY.zero:bY:=⟨[],[],[],[]⟩
def bP (d:bY)(t:Int):bY:=⟨d.done++ [⟨t,3,0⟩],d.wait.filter fun o=>o.tx !=t,iT d.av t,d.dead++ [t]⟩
def dM (L:List ay)(o:ay):List ay:=if aK o then iT L o.tx else if aL L o.tx o.item<o.kind then L++ [⟨o.tx,o.kind,o.item⟩] else L
def bK (d:bY)(o:ay):bY:=⟨d.done++ [o],d.wait,dM d.av o,d.dead⟩
inductive dQ where
 |wait
 |die
 |bA
 deriving DecidableEq
def aW (L:List ay)(o:ay):List Int:=if aK o then [] else eP L o.tx o.item o.kind
def fQ (d:bY)(o:ay):bY:=⟨d.done,d.wait++ [o],d.av,d.dead⟩
def bS (d:bY)(ts:List Int):bY:=ts.foldl bP d
def gP (r:dQ)(d:bY)(o:ay):bY:=
 match r with
 | .wait=>if(aW d.av o).isEmpty then bK d o else fQ d o
 | .die=>if(aW d.av o).isEmpty then bK d o else if(aW d.av o).headD 0<o.tx then bP d o.tx else fQ d o
 | .bA=>if((aW d.av o).filter fun u=> !decide (o.tx<u)).isEmpty then bK (bS d ((aW d.av o).filter fun u=>decide (o.tx<u))) o else fQ (bS d ((aW d.av o).filter fun u=>decide (o.tx<u))) o
def dV (W:List ay)(i:Nat):Bool:=match W[i]? with|some o=>(W.take i).all fun p=>p.tx !=o.tx|none=>false
def dN (d:bY)(i:Nat):Bool:=match d.wait[i]? with|some o=>dV d.wait i&& (aW d.av o).isEmpty|none=>false
def o9 (d:bY)(i:Nat):Bool:=match d.wait[i]? with|some o=>dV d.wait i&&decide ((aW d.av o).headD 0<o.tx)|none=>false
def gK (d:bY)(i:Nat):Bool:=match d.wait[i]? with|some o=>dV d.wait i&&decide (o.tx< (aW d.av o).getLastD 0)|none=>false
def bitsOf (us:List Int):Nat:=us.foldl (fun a u=>a|||2^u.toNat) 0
def mD (d:bY)(t:Int):Nat:=match(opsOf d.wait t).head? with|some o=>if aK o then 0 else bitsOf (eP d.av t o.item o.kind)|none=>0
def bW (d:bY):List Nat:= [0,1,2,3].map (mD d)
def vX (c:List Int):Int:=c.foldl max (c.headD 0)
def bB (r:dQ)(d:bY):Option bY:=
 match(List.range d.wait.length).find? (dN d) with
 |some i=>some (bK ⟨d.done,d.wait.take i++d.wait.drop (i+1),d.av,d.dead⟩ (d.wait.getD i ay.zero))
 |none=>match r with
  | .die=>match(List.range d.wait.length).find? (o9 d) with
   |some i=>some (bP d (d.wait.getD i ay.zero).tx)
   |none=>none
  | .bA=>match(List.range d.wait.length).find? (gK d) with
   |some i=>some (bP d ((aW d.av (d.wait.getD i ay.zero)).getLastD 0))
   |none=>none
  | .wait=>if(fI (bW d)).isEmpty then none else some (bP d (vX (fI (bW d))))
def jf (r:dQ):Nat->bY->bY
 |0,d=>d
 |f+1,d=>match bB r d with|some e=>jf r f e|none=>d
def holdB (L:List ay)(u:Int):Bool:= [0,1,2].any fun x=>decide (0<=aL L u x)
def hold (L:List ay):List Int:= [0,1,2,3].filter (holdB L)
def qW (d:bY):Nat:=2*d.wait.length+(hold d.av).length
theorem Mh (L:List ay)(t:Int)(k:Int)(u x:Int):aL (L++ [⟨t,2,k⟩]) u x=if u=t/\x=k then-1 else aL L u x:=by
 rw[jr];unfold gB;by_cases h:t=u/\k=x
 .rw[if_pos h,if_pos rfl,if_pos ⟨h.1.symm,h.2.symm⟩]
 .rw[if_neg h,if_neg (fun h'=>h ⟨h'.1.symm,h'.2.symm⟩)]
theorem J2 (L:List ay)(t:Int)(k:Nat): ∀u x:Int,((u≠t\/x<0\/(k:Int)<=x)->aL (gQ L t k) u x=aL L u x)/\(u=t->0<=x->x< (k:Int)->aL (gQ L t k) u x<0):=by
 induction k with
 |zero=>exact fun u x=>⟨fun _=>rfl,fun _ _ _=>by omega⟩
 |succ k ih=>
  intro u x;obtain⟨h1,h2⟩:=ih u x;rw[jy];by_cases hh:0<=aL (gQ L t k) t (k:Int)
  .rw[if_pos hh,Mh];constructor
   .intro h;rw[if_neg (by omega)]
    exact h1 (by omega)
   .intro hu hx hk;by_cases hxk:x=(k:Int)
    .rw[if_pos ⟨hu,hxk⟩];omega
    .rw[if_neg (by omega)]
     exact h2 hu hx (by omega)
  .rw[if_neg hh];constructor
   .intro h;exact h1 (by omega)
   .intro hu hx hk;by_cases hxk:x=(k:Int)
    .subst hu;subst hxk;omega
    .exact h2 hu hx (by omega)
theorem gL (L:List ay)(t u x:Int):((u≠t\/x<0\/3<=x)->aL (iT L t) u x=aL L u x)/\(u=t->0<=x->x<3->aL (iT L t) u x<0):=J2 L t 3 u x
theorem rX (L:List ay)(t:Int)(k:Nat):L.length<=(gQ L t k).length/\(gQ L t k).length<=L.length+k:=by
 induction k with
 |zero=>exact⟨Nat.le_refl _,by show L.length<=_;omega⟩
 |succ k ih=>
  rw[jy];split
  .rw[List.length_append,List.length_singleton];omega
  .omega
theorem lX (L:List ay)(t:Int):(iT L t).length<=L.length+3:=(rX L t 3).2
theorem vD {L:List ay}{u:Int} :holdB L u=true↔ ∃x:Int,(x=0\/x=1\/x=2)/\0<=aL L u x:=by
 simp only[holdB,List.any_cons,List.any_nil,Bool.or_eq_true,decide_eq_true_eq];constructor
 .rintro(h|h|h|h)
  .exact⟨0,by omega,h⟩
  .exact⟨1,by omega,h⟩
  .exact⟨2,by omega,h⟩
  .cases h
 .rintro⟨x,rfl|rfl|rfl,h⟩
  .exact .inl h
  .exact .inr (.inl h)
  .exact .inr (.inr (.inl h))
theorem filter_le {l:List Int}{p q:Int->Bool}(h: ∀u∈l,p u=true->q u=true):(l.filter p).length<=(l.filter q).length:=by
 rw[<-List.countP_eq_length_filter,<-List.countP_eq_length_filter];exact List.countP_mono_left h
theorem filter_lt {l:List Int}{p q:Int->Bool}(h: ∀u∈l,p u=true->q u=true){v:Int}(hv:v∈l)(h1:p v=false)(h2:q v=true):(l.filter p).length< (l.filter q).length:=by
 induction l with
 |nil=>cases hv
 |cons x r ih=>
  have hle:=filter_le (l:=r) (p:=p) (q:=q) fun u hu=>h u (List.mem_cons_of_mem _ hu)
  rw[List.filter_cons,List.filter_cons];rcases List.mem_cons.1 hv with rfl|hv
  .rw[if_neg (by simp[h1]),if_pos h2,List.length_cons];omega
  .have:=ih (fun u hu=>h u (List.mem_cons_of_mem _ hu)) hv
   have hx:=h x (by simp)
   by_cases hp:p x=true
   .rw[if_pos hp,if_pos (hx hp),List.length_cons,List.length_cons];omega
   .rw[if_neg hp];split
    .rw[List.length_cons];omega
    .exact this
theorem zL (L:List ay)(t:Int):(hold (iT L t)).length<=(hold L).length:=by
 refine filter_le fun u _ h=>?_
 rw[vD] at h ⊢;obtain⟨x,hx,h⟩:=h;refine⟨x,hx,?_⟩;by_cases hu:u=t
 .have:=(gL L t u x).2 hu (by omega) (by omega);omega
 .rw[(gL L t u x).1 (.inl hu)] at h;exact h
theorem Ij {L:List ay}{t x:Int}(ht:0<=t/\t<=3)(hx:0<=x/\x<=2)(h:0<=aL L t x):(hold (iT L t)).length< (hold L).length:=by
 refine filter_lt (v:=t) (fun u _ h=>?_) ?_ ?_ ?_
 .rw[vD] at h ⊢;obtain⟨x,hx,h⟩:=h;refine⟨x,hx,?_⟩;by_cases hu:u=t
  .have:=(gL L t u x).2 hu (by omega) (by omega);omega
  .rw[(gL L t u x).1 (.inl hu)] at h;exact h
 .rcases(by omega:t=0\/t=1\/t=2\/t=3) with rfl|rfl|rfl|rfl<;>simp
 .cases hb:holdB (iT L t) t
  .rfl
  .obtain⟨y,hy,h2⟩:=vD.1 hb;have:=(gL L t t y).2 rfl (by omega) (by omega);omega
 .rw[vD];exact⟨x,by omega,h⟩
theorem PI (L:List ay)(s:ay):(hold (L++ [s])).length<=(hold L).length+1:=by
 have key: ∀l:List Int,l.Nodup->(l.filter (holdB (L++ [s]))).length<=(l.filter (holdB L)).length+1/\(s.tx ∉ l->(l.filter (holdB (L++ [s]))).length<=(l.filter (holdB L)).length):=by
  intro l;induction l with
  |nil=>exact fun _=>⟨by simp,fun _=>by simp⟩
  |cons u r ih=>
   intro hd;rw[List.nodup_cons] at hd;obtain⟨h1,h2⟩:=ih hd.2;have same:u≠s.tx->holdB (L++ [s]) u=holdB L u:=fun hu=>by
    unfold holdB;simp only[jr];have: ∀x,gB u x (aL L u x) s=aL L u x:=fun x=>by unfold gB;rw[if_neg (fun h=>hu h.1.symm)]
    simp only[this]
   rw[List.filter_cons,List.filter_cons];by_cases hu:u=s.tx
   .have h3:=h2 (by rw[<-hu];exact hd.1)
    refine⟨?_,fun hm=>absurd (by rw[hu];simp) hm⟩
    split<;>split<;>(try simp only[List.length_cons])<;>omega
   .rw[same hu];refine⟨?_,fun hm=>?_⟩
    .split<;>(try simp only[List.length_cons])<;>omega
    .have h3:=h2 (fun h=>hm (List.mem_cons_of_mem _ h))
     split<;>(try simp only[List.length_cons])<;>omega
 exact(key [0,1,2,3] (by decide)).1
theorem DN (L:List ay)(o:ay):(hold (dM L o)).length<=(hold L).length+1:=by
 unfold dM;split
 .have:=zL L o.tx;omega
 .split
  .exact PI L _
  .omega
theorem DR (L:List ay)(o:ay):(dM L o).length<=L.length+3:=by
 unfold dM;split
 .exact lX L o.tx
 .split
  .simp
  .omega
theorem zM {L:List ay}{t x k u:Int} :u∈eP L t x k↔(0<=u/\u<=3)/\u≠t/\0<=aL L u x/\(aL L u x=1\/k=1):=by
 unfold eP;rw[List.mem_filter];simp only[Bool.and_eq_true,bne_iff_ne,decide_eq_true_eq,Bool.or_eq_true,beq_iff_eq,List.mem_cons,List.not_mem_nil,or_false];constructor
 .rintro⟨h1,h2,h3⟩;exact⟨by omega,h2,h3⟩
 .rintro⟨h1,h2,h3⟩;exact⟨by omega,h2,h3⟩
theorem jK {L:List ay}{o:ay}{u:Int} :u∈aW L o↔aK o=false/\(0<=u/\u<=3)/\u≠o.tx/\0<=aL L u o.item/\(aL L u o.item=1\/o.kind=1):=by
 unfold aW;split
 .rename_i h;simp[h]
 .rename_i h;rw[zM];simp[h]
theorem rY (L:List ay)(o:ay):(aW L o).length<=4:=by
 unfold aW;split
 .simp
 .exact List.length_filter_le _ _
theorem Mi {us:List Int}(h: ∀u∈us,0<=u/\u<=3)(a:Nat)(u:Nat):((us.foldl (fun a u=>a|||2^u.toNat) a).testBit u=true↔a.testBit u=true\/(u:Int)∈us):=by
 induction us generalizing a with
 |nil=>simp
 |cons v r ih=>
  rw[List.foldl_cons,ih (fun u hu=>h u (List.mem_cons_of_mem _ hu)),Nat.testBit_or,Bool.or_eq_true,Nat.testBit_two_pow]
  have:=h v (by simp)
  rw[List.mem_cons,decide_eq_true_eq];constructor
  .rintro((h1|h1)|h1)
   .exact .inl h1
   .exact .inr (.inl (by omega))
   .exact .inr (.inr h1)
  .rintro(h1|h1|h1)
   .exact .inl (.inl h1)
   .exact .inl (.inr (by omega))
   .exact .inr h1
theorem PK {us:List Int}(h: ∀u∈us,0<=u/\u<=3): ∀a:Nat,a<16->us.foldl (fun a u=>a|||2^u.toNat) a<16:=by
 induction us with
 |nil=>exact fun a ha=>ha
 |cons v r ih=>
  intro a ha;rw[List.foldl_cons];refine ih (fun u hu=>h u (List.mem_cons_of_mem _ hu)) _ ?_
  have hv:=h v (by simp)
  exact Nat.or_lt_two_pow (n:=4) ha (by rcases(by omega:v=0\/v=1\/v=2\/v=3) with rfl|rfl|rfl|rfl<;>decide)
theorem vE {L:List ay}{t x k:Int} : ∀u∈eP L t x k,0<=u/\u<=3:=fun u hu=>(zM.1 hu).1
theorem Mj (d:bY)(t:Int):mD d t<16:=by
 unfold mD;split
 .split
  .omega
  .exact PK vE 0 (by omega)
 .omega
theorem eX (d:bY):dA (bW d):=⟨rfl,fun r hr=>by
 unfold bW at hr;obtain⟨t,_,rfl⟩:=List.mem_map.1 hr;exact Mj d t⟩
theorem vF (d:bY){t:Nat}(ht:t<4):(bW d).getD t 0=mD d (t:Int):=by
 rcases(by omega:t=0\/t=1\/t=2\/t=3) with rfl|rfl|rfl|rfl<;>rfl
theorem pK {d:bY}{t:Int}{u:Nat} :(mD d t).testBit u=true↔ ∃o,(opsOf d.wait t).head? =some o/\aK o=false/\(u:Int)∈eP d.av t o.item o.kind:=by
 unfold mD;split
 .rename_i o ho
  split
  .rename_i he
   rw[ho];simp[he]
  .rename_i he
   unfold bitsOf;rw[Mi vE,ho];simp[he]
 .rename_i ho
  rw[ho];simp
theorem oH (d:bY): ∀t:Int,0<=t->cB (bW d) t t=false:=by
 intro t ht;obtain⟨T,rfl⟩:=Int.eq_ofNat_of_zero_le ht;cases h:cB (bW d) (T:Int) (T:Int)
 .rfl
 .exfalso
  unfold cB at h;rw[Int.toNat_natCast] at h;by_cases h4:T<4
  .rw[vF d h4,pK] at h;obtain⟨o,_,_,h⟩:=h;exact(zM.1 h).2.1 rfl
  .have:(bW d).getD T 0=0:=by
    rw[List.getD_eq_getElem?_getD,List.getElem?_eq_none (by rw[(eX d).1];omega)];rfl
   rw[this] at h;simp at h
theorem DT {c:List Int}(h:c≠ []):vX c∈c:=by
 have: ∀ (l:List Int) (a:Int),l.foldl max a=a\/l.foldl max a∈l:=by
  intro l;induction l with
  |nil=>exact fun a=>.inl rfl
  |cons x r ih=>
   intro a;rw[List.foldl_cons];rcases ih (max a x) with h|h
   .rw[h];rcases(by omega:max a x=a\/max a x=x) with e|e
    .exact .inl e
    .exact .inr (by rw[e];simp)
   .exact .inr (List.mem_cons_of_mem _ h)
 unfold vX;rcases this c (c.headD 0) with e|e
 .rw[e];cases c with
  |nil=>exact absurd rfl h
  |cons x r=>simp
 .exact e
theorem zN {d:bY}(h:fI (bW d)≠ []){t:Int}(ht:t∈fI (bW d)):(0<=t/\t<=3)/\ ∃o∈d.wait,o.tx=t:=by
 obtain⟨i,hi⟩:=List.mem_iff_getElem?.1 ht;have hil:=(List.getElem?_eq_some_iff.1 hi).1;obtain⟨_,h1,_,_,h2,h3⟩:=Yu (eX d) (oH d) h hil;have e:(fI (bW d)).getD i 0=t:=by rw[List.getD_eq_getElem?_getD,hi];rfl
 rw[e] at h1 h2 h3;refine⟨⟨h2,h3⟩,?_⟩;unfold cB at h1;obtain⟨T,rfl⟩:=Int.eq_ofNat_of_zero_le h2;rw[Int.toNat_natCast,vF d (by omega),pK] at h1
 obtain⟨o,ho,_⟩:=h1;have:=List.mem_of_head? ho;unfold opsOf at this;rw[List.mem_filter] at this;exact⟨o,this.1,by simpa using this.2⟩
theorem Ik {W:List ay}{t:Int}(h: ∃o∈W,o.tx=t):(W.filter fun o=>o.tx !=t).length<W.length:=by
 obtain⟨o,ho,rfl⟩:=h;rcases Nat.lt_or_ge (W.filter fun p=>p.tx !=o.tx).length W.length with h|h
 .exact h
 .exfalso
  have h1:=List.length_filter_le (fun p:ay=>p.tx !=o.tx) W
  have h2:=List.length_filter_eq_length_iff.1 (Nat.le_antisymm h1 h) o ho;simp at h2
theorem wG {d:bY}{t:Int}(h: ∃o∈d.wait,o.tx=t):qW (bP d t)<qW d:=by
 have h1:=Ik h;have h2:=zL d.av t;unfold qW bP;simp only;omega
theorem E9 {d:bY}{t x:Int}(ht:0<=t/\t<=3)(hx:0<=x/\x<=2)(h:0<=aL d.av t x):qW (bP d t)<qW d:=by
 have h1:=List.length_filter_le (fun p:ay=>p.tx !=t) d.wait
 have h2:=Ij ht hx h;unfold qW bP;simp only;omega
theorem SN (d:bY)(t:Int):qW (bP d t)<=qW d:=by
 have h1:=List.length_filter_le (fun p:ay=>p.tx !=t) d.wait
 have h2:=zL d.av t;unfold qW bP;simp only;omega
theorem getD_at {W:List ay}{i:Nat}{o:ay}(h:W[i]? =some o):W.getD i ay.zero=o:=by rw[List.getD_eq_getElem?_getD,h];rfl
theorem Ov {W:List ay}{i:Nat}(h:i<W.length):(W.take i++W.drop (i+1)).length+1=W.length:=by
 rw[List.length_append,List.length_take,List.length_drop];omega
theorem mW {r:dQ}{d e:bY}(h:bB r d=some e):
 (∃ (i:Nat) (o:ay),d.wait[i]? =some o/\dN d i=true/\(∀j,j<i->dN d j=false)/\e=bK ⟨d.done,d.wait.take i++d.wait.drop (i+1),d.av,d.dead⟩ o)\/
 ((∀j,j<d.wait.length->dN d j=false)/\ ∃t:Int,e=bP d t/\
  ((r=.die/\ ∃ (i:Nat) (o:ay),d.wait[i]? =some o/\o9 d i=true/\(∀j,j<i->o9 d j=false)/\t=o.tx)\/
   (r=.bA/\ ∃ (i:Nat) (o:ay),d.wait[i]? =some o/\gK d i=true/\(∀j,j<i->gK d j=false)/\t=(aW d.av o).getLastD 0)\/
   (r=.wait/\fI (bW d)≠ [] /\t=vX (fI (bW d))))):=by
 have pick: ∀ (p:Nat->Bool) (i:Nat),(List.range d.wait.length).find? p=some i->i<d.wait.length/\p i=true/\ ∀j,j<i->p j=false:=by
  intro p i hf;rw[List.find?_range_eq_some] at hf;obtain⟨h1,h2,h3⟩:=hf;exact⟨by simpa using h2,h1,fun j hj=>by have:=h3 j hj;simpa using this⟩
 cases hf:(List.range d.wait.length).find? (dN d) with
 |some i=>
  obtain⟨h1,h2,h3⟩:=pick _ _ hf;have e1:d.wait[i]? =some (d.wait[i]'h1):=List.getElem?_eq_getElem h1;simp only[bB,hf] at h;rw[getD_at e1] at h;injection h with h;exact .inl ⟨i,_,e1,h2,h3,h.symm⟩
 |none=>
  have hno: ∀j,j<d.wait.length->dN d j=false:=fun j hj=>by
   have:=List.find?_eq_none.1 hf j (List.mem_range.2 hj);simpa using this
  refine .inr ⟨hno,?_⟩;cases r with
  |die=>
   cases hg:(List.range d.wait.length).find? (o9 d) with
   |none=>simp only[bB,hf,hg] at h;cases h
   |some i=>
    obtain⟨h1,h2,h3⟩:=pick _ _ hg;have e1:d.wait[i]? =some (d.wait[i]'h1):=List.getElem?_eq_getElem h1;simp only[bB,hf,hg] at h;rw[getD_at e1] at h;injection h with h;exact⟨_,h.symm,.inl ⟨rfl,i,_,e1,h2,h3,rfl⟩⟩
  |bA=>
   cases hg:(List.range d.wait.length).find? (gK d) with
   |none=>simp only[bB,hf,hg] at h;cases h
   |some i=>
    obtain⟨h1,h2,h3⟩:=pick _ _ hg;have e1:d.wait[i]? =some (d.wait[i]'h1):=List.getElem?_eq_getElem h1;simp only[bB,hf,hg] at h;rw[getD_at e1] at h;injection h with h;exact⟨_,h.symm,.inr (.inl ⟨rfl,i,_,e1,h2,h3,rfl⟩)⟩
  |wait=>
   simp only[bB,hf] at h;by_cases hc:(fI (bW d)).isEmpty=true
   .rw[if_pos hc] at h;cases h
   .rw[if_neg hc] at h;injection h with h;exact⟨_,h.symm,.inr (.inr ⟨rfl,fun e=>hc (by rw[e];rfl),rfl⟩)⟩
def bZ (W:List ay):Prop:= ∀o∈W,aK o=true\/(0<=o.item/\o.item<=2)
theorem J3 {l:List Int}(h:l≠ []):l.getLastD 0∈l:=by
 cases l with
 |nil=>exact absurd rfl h
 |cons x r=>rw[List.getLastD_cons];exact List.getLastD_mem_cons
theorem Mk {d:bY}{i:Nat}{o:ay}(hi:d.wait[i]? =some o)(hf:dV d.wait i=true)(hn:dN d i=false):aW d.av o≠ [] :=by
 intro e;unfold dN at hn;rw[hi] at hn;simp only at hn;rw[hf,e] at hn;cases hn
theorem dS {r:dQ}{d e:bY}(hx:r=.bA->bZ d.wait)(h:bB r d=some e):qW e<qW d:=by
 rcases mW h with⟨i,o,hi,_,_,rfl⟩|⟨hno,t,rfl,hh⟩
 .have h1:=Ov (List.getElem?_eq_some_iff.1 hi).1;have h2:=DN d.av o;unfold qW bK;simp only;omega
 .rcases hh with⟨rfl,i,o,hi,h1,h2,rfl⟩|⟨rfl,i,o,hi,h1,h2,rfl⟩|⟨rfl,hc,rfl⟩
  .exact wG ⟨o,List.mem_of_getElem? hi,rfl⟩
  .have hil:=(List.getElem?_eq_some_iff.1 hi).1;unfold gK at h1;rw[hi] at h1;simp only[Bool.and_eq_true,decide_eq_true_eq] at h1;have hw:=Mk hi h1.1 (hno i hil);have hm:=jK.1 (J3 hw);have hit:=hx rfl o (List.mem_of_getElem? hi);rw[hm.1] at hit;exact E9 hm.2.1 (hit.resolve_left (by simp)) hm.2.2.2.1
  .exact wG (zN hc (DT hc)).2
theorem jA {r:dQ}{d e:bY}(h:bB r d=some e)(hx:bZ d.wait):bZ e.wait:=by
 rcases mW h with⟨i,o,hi,_,_,rfl⟩|⟨hno,t,rfl,hh⟩
 .intro p hp;rcases List.mem_append.1 hp with hp|hp
  .exact hx p (List.mem_of_mem_take hp)
  .exact hx p (List.mem_of_mem_drop hp)
 .intro p hp;exact hx p (List.mem_filter.1 hp).1
structure nN (d:bY)(N:Nat):Prop where
 done:d.done.length+qW d<=N
 av:d.av.length<=3*d.done.length
 dead:d.dead.length<=d.done.length
theorem nN.wait {d:bY}{N:Nat}(h:nN d N):2*d.wait.length<=N:=by have:=h.done;unfold qW at this;omega
theorem nN.mono {d:bY}{N M:Nat}(h:nN d N)(hm:N<=M):nN d M:=⟨Nat.le_trans h.done hm,h.av,h.dead⟩
theorem nN.kill {d:bY}{N:Nat}(h:nN d N)(t:Int):nN (bP d t) (N+1):=by
 have h1:=SN d t;have h2:=lX d.av t;obtain⟨a,b,c⟩:=h;refine⟨?_,?_,?_⟩<;>simp only[bP,List.length_append,List.length_singleton] at* <;>omega
theorem nN.kills {d:bY}(ts:List Int): ∀ {N:Nat} {d:bY},nN d N->nN (bS d ts) (N+ts.length):=by
 induction ts with
 |nil=>exact fun h=>h
 |cons t r ih=>
  intro N d h;have:=ih (h.kill t);refine nN.mono this ?_;rw[List.length_cons];omega
theorem nN.grant {d:bY}{N:Nat}(h:nN d N)(o:ay):nN (bK d o) (N+2):=by
 have h1:=DN d.av o;have h2:=DR d.av o;obtain⟨a,b,c⟩:=h;refine⟨?_,?_,?_⟩<;>simp only[bK,qW,List.length_append,List.length_singleton] at* <;>omega
theorem nN.waits {d:bY}{N:Nat}(h:nN d N)(o:ay):nN (fQ d o) (N+2):=by
 obtain⟨a,b,c⟩:=h;refine⟨?_,?_,?_⟩<;>simp only[fQ,qW,List.length_append,List.length_singleton] at* <;>omega
theorem nN.ask {d:bY}{N:Nat}(h:nN d N)(r:dQ)(o:ay):nN (gP r d o) (N+6):=by
 unfold gP;split
 .split
  .exact(h.grant o).mono (by omega)
  .exact(h.waits o).mono (by omega)
 .split
  .exact(h.grant o).mono (by omega)
  .split
   .exact(h.kill _).mono (by omega)
   .exact(h.waits o).mono (by omega)
 .have hl:((aW d.av o).filter fun u=>decide (o.tx<u)).length<=4:=Nat.le_trans (List.length_filter_le _ _) (rY d.av o)
  have hk:=nN.kills (d:=d) ((aW d.av o).filter fun u=>decide (o.tx<u)) h
  split
  .exact(hk.grant o).mono (by omega)
  .exact(hk.waits o).mono (by omega)
theorem nN.next {r:dQ}{d e:bY}{N:Nat}(hx:r=.bA->bZ d.wait)(h:nN d N)(hn:bB r d=some e):nN e N:=by
 have hlt:=dS hx hn;obtain⟨a,b,c⟩:=h;rcases mW hn with⟨i,o,hi,_,_,rfl⟩|⟨_,t,rfl,_⟩
 .have h2:=DR d.av o;refine⟨?_,?_,?_⟩<;>simp only[bK,List.length_append,List.length_singleton] at* <;>omega
 .have h2:=lX d.av t;refine⟨?_,?_,?_⟩<;>simp only[bP,List.length_append,List.length_singleton] at* <;>omega
theorem jB {r:dQ}{f:Nat}{d:bY}(h:bB r d=none):jf r f d=d:=by
 cases f with
 |zero=>rfl
 |succ f=>simp only[jf,h]
theorem mX {r:dQ}{f:Nat}{d e:bY}(h:bB r d=some e):jf r (f+1) d=jf r f e:=by simp only[jf,h]
theorem uo {r:dQ} : ∀ (f:Nat) (d:bY),(r=.bA->bZ d.wait)->qW d<=f->jf r f d=jf r (qW d) d/\bB r (jf r f d)=none/\(bZ d.wait->bZ (jf r f d).wait)/\(∀N,nN d N->nN (jf r f d) N):=by
 intro f;induction f with
 |zero=>
  intro d hx hm;have h0:qW d=0:=by omega
  refine⟨by rw[h0],?_,fun h=>h,fun N h=>h⟩
  cases hn:bB r d with
  |none=>exact hn
  |some e=>have:=dS hx hn;omega
 |succ f ih=>
  intro d hx hm;cases hn:bB r d with
  |none=>rw[jB hn,jB hn];exact⟨rfl,hn,fun h=>h,fun N h=>h⟩
  |some e=>
   have hlt:=dS hx hn;have hx2:r=.bA->bZ e.wait:=fun h=>jA hn (hx h)
   obtain⟨h1,h2,h3,h4⟩:=ih e hx2 (by omega)
   rw[mX hn];refine⟨?_,h2,fun h=>h3 (jA hn h),fun N h=>h4 N (h.next hx hn)⟩
   obtain⟨m,hmm⟩: ∃m,qW d=m+1:=⟨qW d-1,by omega⟩
   rw[hmm,mX hn,h1];by_cases hmf:m=f
   .subst hmf;exact h1.symm
   .
    have: ∀ (a b:Nat) (d:bY),(r=.bA->bZ d.wait)->qW d<=a->a<=b->jf r b d=jf r a d:=by
     intro a;induction a with
     |zero=>
      intro b d hx hm _;have hd:bB r d=none:=by
       cases hn:bB r d with
       |none=>rfl
       |some e=>have:=dS hx hn;omega
      rw[jB hd,jB hd]
     |succ a iha=>
      intro b d hx hm hab;obtain⟨b,rfl⟩: ∃c,b=c+1:=⟨b-1,by omega⟩
      cases hn:bB r d with
      |none=>rw[jB hn,jB hn]
      |some e=>
       have:=dS hx hn;rw[mX hn,mX hn];exact iha b e (fun h=>jA hn (hx h)) (by omega) (by omega)
    exact(this (qW e) m e hx2 aj (by omega)).symm
def b_ (r:dQ)(d:bY):bY:=jf r (qW d) d
theorem iI {r:dQ}{d:bY}(h:bB r d=none):b_ r d=d:=jB h
theorem fu {r:dQ}{d e:bY}(hx:r=.bA->bZ d.wait)(h:bB r d=some e):b_ r d=b_ r e:=by
 have hlt:=dS hx h;unfold b_;obtain⟨m,hmm⟩: ∃m,qW d=m+1:=⟨qW d-1,by omega⟩
 rw[hmm,mX h];exact(uo m e (fun h'=>jA h (hx h')) (by omega)).1
def jL (r:dQ)(d:bY)(o:ay):bY:=
 if d.dead.any fun y=>y==o.tx then d else if(opsOf d.wait o.tx).isEmpty then b_ r (gP r d o) else fQ d o
def dO (r:dQ)(s:List ay):bY:=s.foldl (jL r) bY.zero
theorem vG {r:dQ}{s:List ay}{k:Nat}{o:ay}(h:s[k]? =some o):dO r (s.take (k+1))=jL r (dO r (s.take k)) o:=by
 unfold dO;rw[aR h,List.foldl_append,List.foldl_cons,List.foldl_nil]
theorem zO {r:dQ}{d:bY}{o:ay}(h:bZ d.wait)(ho:aK o=true\/(0<=o.item/\o.item<=2)):bZ (gP r d o).wait:=by
 have hk: ∀ (ts:List Int) (d:bY),bZ d.wait->bZ (bS d ts).wait:=by
  intro ts;induction ts with
  |nil=>exact fun d h=>h
  |cons t r ih=>exact fun d h=>ih _ fun p hp=>h p (List.mem_filter.1 hp).1
 have hw: ∀d:bY,bZ d.wait->bZ (fQ d o).wait:=fun d h p hp=>by
  rcases List.mem_append.1 hp with hp|hp
  .exact h p hp
  .rw[List.mem_singleton] at hp;subst hp;exact ho
 unfold gP;split
 .split
  .exact h
  .exact hw d h
 .split
  .exact h
  .split
   .exact fun p hp=>h p (List.mem_filter.1 hp).1
   .exact hw d h
 .split
  .exact hk _ d h
  .exact hw _ (hk _ d h)
theorem E_ {r:dQ}{d:bY}{o:ay}{N:Nat}(hb:nN d N)(hi:r=.bA->bZ d.wait)(ho:r=.bA->aK o=true\/(0<=o.item/\o.item<=2)):nN (jL r d o) (N+6)/\(r=.bA->bZ (jL r d o).wait):=by
 unfold jL;split
 .exact⟨hb.mono (by omega),hi⟩
 .split
  .have h1:r=.bA->bZ (gP r d o).wait:=fun h=>zO (hi h) (ho h)
   obtain⟨_,_,h3,h4⟩:=uo (r:=r) _ (gP r d o) h1 aj;exact⟨h4 _ (hb.ask r o),fun h=>h3 (h1 h)⟩
  .refine⟨(hb.waits o).mono (by omega),fun h p hp=>?_⟩
   rcases List.mem_append.1 hp with hp|hp
   .exact hi h p hp
   .rw[List.mem_singleton] at hp;subst hp;exact ho h
theorem Ml {r:dQ}{s:List ay}(hs:r=.bA->bZ s)(k:Nat):nN (dO r (s.take k)) (6*k)/\(r=.bA->bZ (dO r (s.take k)).wait):=by
 induction k with
 |zero=>
  have e:dO r (s.take 0)=bY.zero:=rfl;rw[e];exact⟨⟨by decide,by decide,by decide⟩,fun _ o ho=>by cases ho⟩
 |succ k ih=>
  cases e:s[k]? with
  |none=>
   have hl:s.length<=k:=by
    rcases Nat.lt_or_ge k s.length with h|h
    .rw[List.getElem?_eq_getElem h] at e;cases e
    .exact h
   rw[List.take_of_length_le (by omega)]
   rw[List.take_of_length_le (by omega)] at ih
   exact⟨ih.1.mono (by omega),ih.2⟩
  |some o=>
   rw[vG e];have:=E_ (r:=r) ih.1 ih.2 (fun h=>hs h o (List.mem_of_getElem? e))
   exact⟨this.1.mono (by omega),this.2⟩
open Go.RowKit Go.BigFrame
theorem mY (A:Option Addr)(n c:Nat)(st:List ay)(i:Nat)(t x:Int)(w:World)(hx:aC w A n st)(hi:i<=n):
 Calls Tryz.prog 138 #[.slice A n c,.int .i64 (i:Int),.int .i64 t,.int .i64 x] w fun e w'=>e=.returned (.int .i64 (aL (st.take i) t x))/\Below w.heap.size w w':=by
 have hn:=hx.2.1;have hl:=hx.1;have HX:=ah hx;clear hx;go_enter Tryz.func138,Tryz.ntmps138;go_wp2
 go_loopw [9,10] (fun o k wr=> ∃q:Nat,q<=i/\k=.int .i64 q/\o=.int .i64 (aL (st.take q) t x)/\Below w.heap.size w wr) (fun _ k _=>i- (intOf k).toNat)
 case atStart=>exact⟨0,Nat.zero_le _,rfl,rfl,Below.refl _ _⟩
 case round=>
  obtain⟨q,hq,rfl,rfl,hb⟩:=hrel;by_cases hlt:q<i
  .obtain⟨b,off,o,rfl,hbl,ho,c0,c1,c2⟩:=(HX.out.below hb aj).at_ (k:=q) (by omega)
   have hs:=rT ho t x;generalize aL (st.take (q+1)) t x=h2 at hs;obtain⟨h1,Yv⟩: ∃h,aL (st.take q) t x=h:=⟨_,rfl⟩;rw[Yv] at hs ⊢;have HE:Hid (∀e:Int,e=gB t x h1 o->aL (st.take (q+1)) t x=e):=fun e he=>by rw[rT ho,Yv,he]
   clear hs Yv ho;obtain⟨tx,kd,it⟩:=o;by_cases e1:tx=t
   .by_cases e2:it=x
    .by_cases e3:kd=2
     .go_wp2_with fail
      go_roundw
      case rel=>exact⟨q+1,by omega,by go_num,by rw[HE.out (-1) (by simp[gB,e1,e2,e3])],hb⟩
      case measure=>simp[intOf];omega
     .by_cases e4:kd<=1
      .go_wp2_with fail
       go_roundw
       case rel=>exact⟨q+1,by omega,by go_num,by rw[HE.out kd (by simp[gB,e1,e2,e3,e4])],hb⟩
       case measure=>simp[intOf];omega
      .go_wp2_with fail
       go_roundw
       case rel=>exact⟨q+1,by omega,by go_num,by rw[HE.out h1 (by simp[gB,e1,e2,e3,e4])],hb⟩
       case measure=>simp[intOf];omega
    .go_wp2_with fail
     go_roundw
     case rel=>exact⟨q+1,by omega,by go_num,by rw[HE.out h1 (by simp[gB,e1,e2])],hb⟩
     case measure=>simp[intOf];omega
   .go_wp2_with fail
    go_roundw
    case rel=>exact⟨q+1,by omega,by go_num,by rw[HE.out h1 (by simp[gB,e1])],hb⟩
    case measure=>simp[intOf];omega
  .obtain rfl:q=i:=by omega
   obtain⟨h1,Yv⟩: ∃h,aL (st.take q) t x=h:=⟨_,rfl⟩;rw[Yv];have HE:=ah Yv;clear Yv;go_wp2_with fail
   go_ret;exact⟨gW HE.out.symm,hb⟩
def vH (L:List ay)(t x kind:Int)(k:Nat):List Int:=((List.range k).map fun i:Nat=>(i:Int)).filter fun u=>u !=t&& (decide (0<=aL L u x) && (aL L u x==1||kind==1))
theorem Il (L:List ay)(t x kind:Int)(k:Nat):vH L t x kind (k+1)=vH L t x kind k++if((k:Int) !=t&& (decide (0<=aL L k x) && (aL L k x==1||kind==1)))=true then [(k:Int)] else [] :=by
 unfold vH;rw[List.range_succ,List.map_append,List.filter_append];simp[List.filter_cons]
theorem Im (L:List ay)(t x kind:Int):vH L t x kind 4=eP L t x kind:=rfl
theorem dU (A:Option Addr)(n c:Nat)(L:List ay)(t x kd:Int)(w:World)(hx:aC w A n L):
 Calls Tryz.prog 95 #[.slice A n c,.int .i64 t,.int .i64 x,.int .i64 kd] w (aT w (eP L t x kd)):=by
 have hn:=hx.2.1;have hl:=hx.1;have hown0:=World.ownsRow_made (base:=w.heap.size) (e:=3) (size:=1) w #[] 0 aj (by decide) rfl
 have HST:Hid ((w.alloc (.cells #[] 3)).ownsRow w.heap.size 3 1 (.slice (some ⟨w.heap.size,0,none⟩) 0 0) 0 (intCells (vH L t x kd 0))/\Below w.heap.size w (w.alloc (.cells #[] 3))):=⟨hown0,aG.alloc aj _⟩;have HX:=ah hx;have HL:=ah hl;clear hx hown0 hl;go_enter Tryz.func95,Tryz.ntmps95;go_wp2
 go_loopw [9,10] (fun ov i wr=> ∃ (k m:Nat),k<=4/\m<=k/\i=.int .i64 k/\Below w.heap.size w wr/\wr.ownsRow w.heap.size 3 1 ov m (intCells (vH L t x kd k))) (fun _ i _=>4- (intOf i).toNat)
 case atStart=>exact⟨0,0,by omega,Nat.le_refl _,rfl,HST.out.2,HST.out.1⟩
 case round=>
  clear HST;obtain⟨k,m,hk,hmk,rfl,hb,hown⟩:=hrel;by_cases hlt:k<4
  .have hs:=hb.size;have HT:=ah (Il L t x kd k);obtain⟨h,hh⟩: ∃h,aL L (k:Int) x=h:=⟨_,rfl⟩;rw[hh] at HT;have HE:Hid (aL (L.take n) (k:Int) x=h):=by rw[List.take_of_length_le (by have:=HL.out;omega)];exact hh
   clear hh;by_cases e1:(k:Int)=t
   .subst e1;go_wp2_with (go_at_call 138;refine(mY A n c L n (k:Int) x wr (HX.out.below hb aj) aj).mono ?_;rintro e w2 ⟨rfl,hb2⟩;rw[HE.out];have hown2:=own_below hown hb2;have hbw:=hb.trans (hb2.mono hs);have hs2:=hb2.size)
    go_roundw
    case rel=>exact⟨k+1,m,by omega,by omega,by go_num,hbw,by rw[HT.out];simpa using hown2⟩
    case measure=>simp[intOf];omega
   .by_cases e2:0<=h
    .by_cases e3:h=1
     .subst e3;go_wp2_with (first|(go_at_call 138;refine(mY A n c L n (k:Int) x wr (HX.out.below hb aj) aj).mono ?_;rintro e w2 ⟨rfl,hb2⟩;rw[HE.out];have hown2:=own_below hown hb2;have hbw:=hb.trans (hb2.mono hs);have hs2:=hb2.size)|(at_builtin;refine gI (.tmp 38) (.tmp 40) (hown2.alloc _) (by simp;omega) (dB rfl _) (by omega) rfl rfl rfl rfl ?_;intro v3 w3 hown3 hg3 aU))
      have hb3:=Below.own hbw hown2 aj (World.grownBy.trans (World.grownBy_alloc w2 _ _) hg3);go_roundw
      case rel=>exact⟨k+1,m+1,by omega,by omega,by go_num,hb3,by rw[HT.out];simpa[e1] using hown3⟩
      case measure=>simp[intOf];omega
     .have f3:(h==1)=false:=by simp[e3]
      by_cases e4:kd=1
      .subst e4;go_wp2_with (first|(go_at_call 138;refine(mY A n c L n (k:Int) x wr (HX.out.below hb aj) aj).mono ?_;rintro e w2 ⟨rfl,hb2⟩;rw[HE.out];have hown2:=own_below hown hb2;have hbw:=hb.trans (hb2.mono hs);have hs2:=hb2.size)|(at_builtin;refine gI (.tmp 38) (.tmp 40) (hown2.alloc _) (by simp;omega) (dB rfl _) (by omega) rfl rfl rfl rfl ?_;intro v3 w3 hown3 hg3 aU))
       have hb3:=Below.own hbw hown2 aj (World.grownBy.trans (World.grownBy_alloc w2 _ _) hg3);go_roundw
       case rel=>exact⟨k+1,m+1,by omega,by omega,by go_num,hb3,by rw[HT.out];simpa[e1,e2,e3] using hown3⟩
       case measure=>simp[intOf];omega
      .have f4:(kd==1)=false:=by simp[e4]
       go_wp2_with (go_at_call 138;refine(mY A n c L n (k:Int) x wr (HX.out.below hb aj) aj).mono ?_;rintro e w2 ⟨rfl,hb2⟩;rw[HE.out];have hown2:=own_below hown hb2;have hbw:=hb.trans (hb2.mono hs);have hs2:=hb2.size)
       go_roundw
       case rel=>exact⟨k+1,m,by omega,by omega,by go_num,hbw,by rw[HT.out];simpa[e1,e2,e3,e4,f3,f4] using hown2⟩
       case measure=>simp[intOf];omega
    .go_wp2_with (go_at_call 138;refine(mY A n c L n (k:Int) x wr (HX.out.below hb aj) aj).mono ?_;rintro e w2 ⟨rfl,hb2⟩;rw[HE.out];have hown2:=own_below hown hb2;have hbw:=hb.trans (hb2.mono hs);have hs2:=hb2.size)
     go_roundw
     case rel=>exact⟨k+1,m,by omega,by omega,by go_num,hbw,by rw[HT.out,show decide (0<=h)=false by simp;omega];simpa using hown2⟩
     case measure=>simp[intOf];omega
  .obtain⟨Ao,co,rfl,hmc⟩:=aD hown;obtain rfl:k=4:=by omega
   rw[Im] at hown;have HO:=ah (aT.mk (c:=co) (gY hown) hmc (aN.aH hown aj (by omega)) hb)
   clear hown;go_wp2_with fail
   go_ret;exact HO.out
theorem au.grown {w w':World}{g:Nat}{T:TypeId}{vs:List Value}{row:Option Nat}(h:au w g T vs)(hg:w.grownBy w' row)(hne:row≠some g):au w' g T vs:=
 (hg.block g h.lt hne.symm).trans h
theorem own_ne {w:World}{base:Nat}{e:TypeId}{size n:Nat}{v:Value}{xs:List Value}(h:w.ownsRow base e size v n xs){g:Nat}{T:TypeId}{vs:List Value}(hr:au w g T vs)(hT:T≠e):v.ownBlock≠some g:=by
 rcases h.2 with⟨rfl,_⟩|⟨g',cap,cur,rfl,_,hh,_⟩
 .simp[Value.ownBlock]
 .intro e';simp[Value.ownBlock] at e';subst e';unfold au at hr;rw[hr] at hh;injection hh with hh;injection hh with _ hh _;exact hT hh
theorem zP {w:World}{base:Nat}{e:TypeId}{size n:Nat}{v:Value}{xs:List Value}(h:w.ownsRow base e size v n xs){b:Nat}(hb:w.heap.size<=b):v.ownBlock≠some b:=by
 intro e';have:=(World.ownsRow.lt h b e').2;omega
theorem iE {w w':World}{base:Nat}{e:TypeId}{size n:Nat}{v:Value}{xs:List Value}(h:w.ownsRow base e size v n xs){row:Option Nat}(hg:w.grownBy w' row)(hne: ∀b,row=some b->v.ownBlock≠some b):w'.ownsRow base e size v n xs:=by
 refine World.ownsRow.kept h hg ?_;cases hv:v.ownBlock with
 |none=>exact .inl rfl
 |some b=>
  refine .inr (fun e=>?_)
  exact hne b e.symm hv
theorem vI:(89:TypeId)≠3:=by decide
theorem aC.Yw {w:World}{H:Nat}(hH:w.heap.size=H)(o:ay)(t:TypeId):aC (w.alloc (.cells #[.int .i64 o.tx,.int .i64 o.kind,.int .i64 o.item] t)) (some ⟨H,0,none⟩) 1 [o] :=by subst hH;exact aC.dB w o t
end Go.Proofs.YtddkjbibjjehjaaGreatDoor
