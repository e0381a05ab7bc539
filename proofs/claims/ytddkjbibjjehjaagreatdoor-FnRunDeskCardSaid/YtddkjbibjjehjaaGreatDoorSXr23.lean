/-
  Texts that the proof rests on, joined: part 23.
-/
import Derived.Test.YtddkjbibjjehjaaGreatDoorSXr22
set_option maxHeartbeats 16000000
set_option maxRecDepth 100000
namespace Go.Proofs.YtddkjbibjjehjaaGreatDoor
open Go.RowKit
set_option linter.unusedVariables false
def lN (P:ay->Bool)(s:List ay)(k:Nat):Bool:=match s[k]? with|some q=>(s.take k).any fun o=>P o&&fH o q&&decide (dz (s.take k) o.tx<0)|none=>false
def Act (D:List ay)(t:Int):Prop:= ∀o∈D,o.tx=t->aK o=false
theorem Act.snoc {D:List ay}{t:Int}{o:ay} :Act (D++ [o]) t↔Act D t/\(o.tx=t->aK o=false):=by
 unfold Act;constructor
 .exact fun h=>⟨fun p hp=>h p (by simp[hp]),h o (by simp)⟩
 .rintro⟨h1,h2⟩ p hp;rcases List.mem_append.1 hp with hp|hp
  .exact h1 p hp
  .rw[List.mem_singleton] at hp;subst hp;exact h2
theorem IQ {D:List ay}{t:Int} :dz D t<0↔Act D t:=by
 unfold dz Act;constructor
 .intro h o ho ht;cases he:aK o
  .rfl
  .exfalso
   cases hf:D.find? (fun o=>o.tx==t&&aK o) with
   |none=>
    have:=List.find?_eq_none.1 hf o ho;simp[ht,he] at this
   |some q=>
    rw[hf] at h;have hq:=List.find?_some hf;simp only[Bool.and_eq_true] at hq;have:=hq.2;simp only[aK,Bool.or_eq_true,beq_iff_eq] at this;simp only[Option.map_some,Option.getD_some] at h;omega
 .intro h;have:D.find? (fun o=>o.tx==t&&aK o)=none:=by
   rw[List.find?_eq_none];intro o ho hh;simp only[Bool.and_eq_true,beq_iff_eq] at hh;rw[h o ho hh.1] at hh;cases hh.2
  rw[this];simp
theorem sI {o:ay}(h:aJ o=true)(ha:bU o=true):0<=o.item/\o.item<=2:=by
 unfold aJ at h;have he:aK o=false:=GH ha;rw[he,ha] at h;simp only[xW,Bool.and_eq_true,Bool.or_eq_true,decide_eq_true_eq,Bool.false_and,Bool.true_and] at h;rcases h.2 with h1|h1
 .exact h1
 .cases h1
theorem ng {o:ay}(h:aJ o=true):0<=o.tx/\o.tx<=3:=by
 unfold aJ at h;simp only[xW,Bool.and_eq_true,decide_eq_true_eq] at h;exact h.1
theorem vO {o:ay}(h:aK o=true):bU o=false:=by
 cases ha:bU o
 .rfl
 .rw[GH ha] at h;cases h
theorem qG {o:ay}(hv:aJ o=true)(h:aK o=false):bU o=true:=by
 have:=oM hv h;simp only[bU,Bool.or_eq_true,beq_iff_eq];omega
structure lZ (D L:List ay):Prop where
 ok: ∀o∈D,aJ o=true
 pos: ∀t x:Int,0<=aL L t x↔Act D t/\ ∃o∈D,o.tx=t/\bU o=true/\o.item=x
 own: ∀t x:Int,aL L t x=1↔Act D t/\ ∃o∈D,o.tx=t/\o.kind=1/\o.item=x
theorem lZ.nil:lZ [] [] :=by
 refine⟨fun o ho=>(by cases ho),fun t x=>?_,fun t x=>?_⟩
 .rw[zH];exact⟨fun h=>by omega,fun⟨_,o,ho,_⟩=>by cases ho⟩
 .rw[zH];exact⟨fun h=>by omega,fun⟨_,o,ho,_⟩=>by cases ho⟩
theorem lZ.same {D L M:List ay}(h:lZ D L)(he: ∀t x,aL M t x=aL L t x):lZ D M:=
 ⟨h.ok,fun t x=>by rw[he];exact h.pos t x,fun t x=>by rw[he];exact h.own t x⟩
theorem Ec {L:List ay}{o:ay}(he:aK o=false)(hk:o.kind<=1/\0<=o.kind)(t x:Int):
 aL (dM L o) t x=if t=o.tx/\x=o.item then(if aL L t x<o.kind then o.kind else aL L t x) else aL L t x:=by
 unfold dM;rw[if_neg (by rw[he];simp)]
 by_cases hlt:aL L o.tx o.item<o.kind
 .rw[if_pos hlt,jr];unfold gB;simp only;by_cases h:t=o.tx/\x=o.item
  .obtain⟨rfl,rfl⟩:=h;have h2: ¬ o.kind=2:=by omega
   simp[hk.1,hlt,h2]
  .rw[if_neg (fun h'=>h ⟨h'.1.symm,h'.2.symm⟩),if_neg h]
 .rw[if_neg hlt];by_cases h:t=o.tx/\x=o.item
  .obtain⟨rfl,rfl⟩:=h;rw[if_pos ⟨rfl,rfl⟩,if_neg hlt]
  .rw[if_neg h]
theorem Cz {D:List ay}{o:ay}{P:ay->Prop} :(∃p∈D++ [o],P p)↔(∃p∈D,P p)\/P o:=by
 constructor
 .rintro⟨p,hp,h⟩;rcases List.mem_append.1 hp with hp|hp
  .exact .inl ⟨p,hp,h⟩
  .rw[List.mem_singleton] at hp;subst hp;exact .inr h
 .rintro(⟨p,hp,h⟩|h)
  .exact⟨p,by simp[hp],h⟩
  .exact⟨o,by simp,h⟩
theorem lZ.grant {D L:List ay}(h:lZ D L){o:ay}(hv:aJ o=true)(ha:Act D o.tx):lZ (D++ [o]) (dM L o):=by
 have ok: ∀p∈D++ [o],aJ p=true:=fun p hp=>by
  rcases List.mem_append.1 hp with hp|hp
  .exact h.ok p hp
  .rw[List.mem_singleton] at hp;subst hp;exact hv
 by_cases he:aK o=true
 .have hna:=vO he;have hn1:o.kind≠1:=fun e=>by simp[bU,e] at hna
  have hg:dM L o=iT L o.tx:=by unfold dM;rw[if_pos he]
  have hno: ∀x,aL (dM L o) o.tx x<0:=fun x=>by
   rw[hg];obtain⟨d1,d2⟩:=gL L o.tx o.tx x;by_cases hx:0<=x/\x<3
   .exact d2 rfl hx.1 hx.2
   .rw[d1 (by omega)]
    rcases Int.lt_or_le (aL L o.tx x) 0 with hh|hh
    .exact hh
    .exfalso
     obtain⟨_,p,hp,_,hpa,hpx⟩:=(h.pos o.tx x).1 hh;have:=sI (h.ok p hp) hpa;omega
  have XR: ¬ Act (D++ [o]) o.tx:=fun hh=>by
   have:=(Act.snoc.1 hh).2 rfl;rw[he] at this;cases this
  have heq: ∀t x,t≠o.tx->aL (dM L o) t x=aL L t x:=fun t x ht=>by rw[hg];exact(gL L o.tx t x).1 (.inl ht)
  have hact: ∀t,t≠o.tx->(Act (D++ [o]) t↔Act D t):=fun t ht=>by rw[Act.snoc];exact⟨fun hh=>hh.1,fun hh=>⟨hh,fun e=>absurd e.symm ht⟩⟩
  refine⟨ok,fun t x=>?_,fun t x=>?_⟩
  .by_cases ht:t=o.tx
   .subst ht;have:=hno x;exact⟨fun hh=>by omega,fun hh=>absurd hh.1 XR⟩
   .rw[heq t x ht,hact t ht,h.pos,Cz];exact and_congr_right fun _=>⟨.inl,fun hh=>hh.elim id fun hh=>absurd hh.1.symm ht⟩
  .by_cases ht:t=o.tx
   .subst ht;have:=hno x;exact⟨fun hh=>by omega,fun hh=>absurd hh.1 XR⟩
   .rw[heq t x ht,hact t ht,h.own,Cz];exact and_congr_right fun _=>⟨.inl,fun hh=>hh.elim id fun hh=>absurd hh.1.symm ht⟩
 .have he:aK o=false:=by simpa using he
  have hk:=oM hv he;have hia:=qG hv he;have hg:=Ec (L:=L) he ⟨hk.2,hk.1⟩;have hact: ∀t,Act (D++ [o]) t↔Act D t:=fun t=>by rw[Act.snoc];exact⟨fun hh=>hh.1,fun hh=>⟨hh,fun _=>he⟩⟩
  refine⟨ok,fun t x=>?_,fun t x=>?_⟩
  .rw[hg,hact,Cz];by_cases hc:t=o.tx/\x=o.item
   .obtain⟨rfl,rfl⟩:=hc;rw[if_pos ⟨rfl,rfl⟩];exact⟨fun _=>⟨ha,.inr ⟨rfl,hia,rfl⟩⟩,fun _=>by split<;>omega⟩
   .rw[if_neg hc,h.pos];exact and_congr_right fun _=>⟨.inl,fun hh=>hh.elim id fun hh=>absurd ⟨hh.1.symm,hh.2.2.symm⟩ hc⟩
  .rw[hg,hact,Cz];have hle:=vN L t x;by_cases hc:t=o.tx/\x=o.item
   .obtain⟨rfl,rfl⟩:=hc;rw[if_pos ⟨rfl,rfl⟩];have ho:=h.own o.tx o.item;constructor
    .intro hh;refine⟨ha,?_⟩;split at hh
     .exact .inr ⟨rfl,hh,rfl⟩
     .exact .inl (ho.1 hh).2
    .rintro⟨_,hh|hh⟩
     .have h1:=ho.2 ⟨ha,hh⟩;rw[if_neg (by omega)];exact h1
     .have:=hh.2.1;split<;>omega
   .rw[if_neg hc,h.own];exact and_congr_right fun _=>⟨.inl,fun hh=>hh.elim id fun hh=>absurd ⟨hh.1.symm,hh.2.2.symm⟩ hc⟩
def Legal (L:List ay):Prop:= ∀j,j<L.length->oG L j=false
theorem Qs:Legal [] :=fun j hj=>by cases hj
theorem yS {L:List ay}{s:ay}{j:Nat}(h:j<L.length):oG (L++ [s]) j=oG L j:=by
 unfold oG;rw[List.getElem?_append_left h,List.take_append_of_le_length (by omega)]
theorem xP {L:List ay}{s:ay} :Legal (L++ [s])↔Legal L/\yD L s=false:=by
 have hlast:oG (L++ [s]) L.length=yD L s:=by
  unfold oG;rw[List.getElem?_append_right aj,Nat.sub_self,List.take_left];rfl
 constructor
 .intro h;refine⟨fun j hj=>?_,?_⟩
  .rw[<-yS (s:=s) hj];exact h j (by simp;omega)
  .rw[<-hlast];exact h _ (by simp)
 .rintro⟨h1,h2⟩ j hj;rw[List.length_append,List.length_singleton] at hj;by_cases e:j=L.length
  .subst e;rw[hlast];exact h2
  .rw[yS (by omega)];exact h1 j (by omega)
theorem TW {L:List ay}{t x:Int}(h:0<=aL L t x):yD L ⟨t,2,x⟩=false:=by
 unfold yD;simp only[Int.reduceEq,if_false];simp;omega
theorem IU {L:List ay}(h:Legal L)(t:Int)(k:Nat):Legal (gQ L t k):=by
 induction k with
 |zero=>exact h
 |succ k ih=>
  rw[jy];split
  .exact xP.2 ⟨ih,TW (by assumption)⟩
  .exact ih
theorem Bg {p:List ay}{t x least:Int} :vw p t x least=true↔ ∃u:Int,(0<=u/\u<=3)/\u≠t/\least<=aL p u x:=by
 unfold vw;rw[List.any_eq_true];constructor
 .rintro⟨u,hu,h⟩;simp only[Bool.and_eq_true,bne_iff_ne,decide_eq_true_eq] at h;refine⟨u,?_,h⟩;simp at hu;omega
 .rintro⟨u,hu,h⟩;refine⟨u,by simp;omega,?_⟩
  simp only[Bool.and_eq_true,bne_iff_ne,decide_eq_true_eq];exact h
theorem OP {s:List ay}{k:Nat}{q:ay}{L:List ay}(h:lZ (s.take k) L)(hq:s[k]? =some q)(hv:aJ q=true)(he:aK q=false):
 lN bU s k=true↔ ∃u:Int,(0<=u/\u<=3)/\u≠q.tx/\((q.kind=0/\aL L u q.item=1)\/(q.kind=1/\0<=aL L u q.item)):=by
 have hk:=oM hv he;have hia:=qG hv he;unfold lN;rw[hq];simp only;rw[List.any_eq_true];constructor
 .rintro⟨o,ho,hh⟩;simp only[Bool.and_eq_true,decide_eq_true_eq,fH,bne_iff_ne,beq_iff_eq,Bool.or_eq_true] at hh;obtain⟨⟨h1,h2⟩,h3⟩:=hh;refine⟨o.tx,ng (h.ok o ho),h2.1.1.1.1,?_⟩;have ha:=IQ.1 h3;rcases(by omega:q.kind=0\/q.kind=1) with e|e
  .refine .inl ⟨e,(h.own _ _).2 ⟨ha,o,ho,rfl,?_,h2.1.2⟩⟩;rcases h2.2 with h4|h4
   .exact h4
   .omega
  .exact .inr ⟨e,(h.pos _ _).2 ⟨ha,o,ho,rfl,h1,h2.1.2⟩⟩
 .rintro⟨u,hu,hne,hh⟩;rcases hh with⟨e,hh⟩|⟨e,hh⟩
  .obtain⟨ha,o,ho,rfl,h1,h2⟩:=(h.own _ _).1 hh;refine⟨o,ho,?_⟩;have h5:=IQ.2 ha;simp only[Bool.and_eq_true,decide_eq_true_eq,fH,bne_iff_ne,beq_iff_eq,Bool.or_eq_true];have hao:bU o=true:=by simp[bU,h1]
   exact⟨⟨hao,⟨⟨⟨hne,hao⟩,hia⟩,h2⟩,.inl h1⟩,h5⟩
  .obtain⟨ha,o,ho,rfl,h1,h2⟩:=(h.pos _ _).1 hh;refine⟨o,ho,?_⟩;have h5:=IQ.2 ha;simp only[Bool.and_eq_true,decide_eq_true_eq,fH,bne_iff_ne,beq_iff_eq,Bool.or_eq_true];exact⟨⟨h1,⟨⟨⟨hne,h1⟩,hia⟩,h2⟩,.inr e⟩,h5⟩
theorem TY {L:List ay}{o:ay}(hk:o.kind<=1/\0<=o.kind)(hlt:aL L o.tx o.item<o.kind):
 yD L ⟨o.tx,o.kind,o.item⟩=true↔ ∃u:Int,(0<=u/\u<=3)/\u≠o.tx/\((o.kind=0/\aL L u o.item=1)\/(o.kind=1/\0<=aL L u o.item)):=by
 unfold yD;simp only;rcases(by omega:o.kind=0\/o.kind=1) with e|e
 .rw[if_pos e,show decide (0<=aL L o.tx o.item)=false by simp;omega,Bool.false_or,Bg]
  constructor
  .rintro⟨u,h1,h2,h3⟩;have:=vN L u o.item;exact⟨u,h1,h2,.inl ⟨e,by omega⟩⟩
  .rintro⟨u,h1,h2,h3|h3⟩
   .exact⟨u,h1,h2,by omega⟩
   .omega
 .rw[if_neg (by omega),if_pos e,show(aL L o.tx o.item==1)=false by simp;omega,Bool.false_or,Bg]
  constructor
  .rintro⟨u,h1,h2,h3⟩;exact⟨u,h1,h2,.inr ⟨e,h3⟩⟩
  .rintro⟨u,h1,h2,h3|h3⟩
   .omega
   .exact⟨u,h1,h2,h3.2⟩
theorem WE {L:List ay}{o:ay}(hk:o.kind<=1/\0<=o.kind)(h:o.kind<=aL L o.tx o.item):yD L ⟨o.tx,3+o.kind,o.item⟩=false:=by
 have:=vN L o.tx o.item;unfold yD;simp only;rw[if_neg (by omega),if_neg (by omega)]
 split
 .have:aL L o.tx o.item=1:=by omega
  rw[this];rfl
 .simp;omega
section
variable {s:List ay}
theorem qH {L:List ay}{o:ay} :Eb L o=if aK o then dM L o else dM L o++ [⟨o.tx,3+o.kind,o.item⟩] :=by
 unfold Eb dM;split<;>rfl
theorem MO {L:List ay}{t:Int}(k:Nat): ∃fs,gQ L t k=L++fs/\ ∀a∈fs,a.tx=t/\a.kind=2/\0<=a.item/\a.item< (k:Int):=by
 induction k with
 |zero=>exact⟨[],by simp[gQ],by simp⟩
 |succ k ih=>
  obtain⟨fs,h1,h2⟩:=ih;rw[jy];split
  .refine⟨fs++ [⟨t,2,(k:Int)⟩],by rw[h1,List.append_assoc],fun a ha=>?_⟩
   rcases List.mem_append.1 ha with ha|ha
   .have:=h2 a ha;omega
   .rw[List.mem_singleton] at ha;subst ha;exact⟨rfl,rfl,by simp,by show(k:Int)< ((k+1:Nat):Int);omega⟩
  .exact⟨fs,h1,fun a ha=>by have:=h2 a ha;omega⟩
theorem Y8 {L:List ay}{o:ay}(hv:aJ o=true): ∃fs,Eb L o=L++fs/\fs.length<=3/\(∀a∈fs,a.tx=o.tx/\fB a=true/\(a.kind=2->aK o=true)/\(a.kind<=1->aK o=false))/\fs.Pairwise Y7:=by
 have htx:=ng hv;by_cases he:aK o=true
 .obtain⟨fs,h1,h2⟩:=MO (L:=L) (t:=o.tx) 3;have hlen:=(rX L o.tx 3).2;refine⟨fs,by rw[qH,if_pos he];unfold dM;rw[if_pos he];exact h1,by rw[h1,List.length_append] at hlen;omega,fun a ha=>?_,?_⟩
  .have:=h2 a ha;exact⟨this.1,fC.2 (by omega),fun _=>he,fun h=>by omega⟩
  .exact List.pairwise_of_forall_mem_list fun a ha b hb hR=>by have:=(h2 b hb).2.1;have:=hR.2.2;omega
 .have he:aK o=false:=by simpa using he
  have hk:=oM hv he;have hi:=sI hv (qG hv he);rw[qH,if_neg (by rw[he];simp)]
  unfold dM;rw[if_neg (by rw[he];simp)]
  split
  .refine⟨[⟨o.tx,o.kind,o.item⟩,⟨o.tx,3+o.kind,o.item⟩],by simp,by simp,fun a ha=>?_,?_⟩
   .simp only[List.mem_cons,List.not_mem_nil,or_false] at ha;rcases ha with rfl|rfl
    .exact⟨rfl,fC.2 (by simp only;omega),fun h=>by simp only at h;omega,fun _=>he⟩
    .exact⟨rfl,fC.2 (by simp only;omega),fun h=>by simp only at h;omega,fun _=>he⟩
   .simp only[List.pairwise_cons,List.mem_singleton,List.not_mem_nil,false_imp_iff,implies_true,List.Pairwise.nil,and_true,forall_eq];intro hR;have:=hR.2.1;simp only at this;omega
  .refine⟨[⟨o.tx,3+o.kind,o.item⟩],by simp,by simp,fun a ha=>?_,by simp⟩
   rw[List.mem_singleton] at ha;subst ha;exact⟨rfl,fC.2 (by simp only;omega),fun h=>by simp only at h;omega,fun _=>he⟩
theorem Qt {L:List ay}{o:ay}(hv:aJ o=true)(he:aK o=false):o.kind<=aL (dM L o) o.tx o.item:=by
 have hk:=oM hv he;rw[Ec he ⟨hk.2,hk.1⟩,if_pos ⟨rfl,rfl⟩];split<;>omega
theorem T9 {k:Nat}{q:ay}{L:List ay}(h:lZ (s.take k) L)(hq:s[k]? =some q)(hv:aJ q=true)(hok: ∀a∈L,fB a=true)(hl:Legal L):Legal (Eb L q)↔lN bU s k=false:=by
 by_cases he:aK q=true
 .rw[qH,if_pos he];unfold dM;rw[if_pos he];have h1:lN bU s k=false:=by
   unfold lN;rw[hq];simp only;rw[List.any_eq_false];intro o _ hh;simp only[Bool.and_eq_true,fH] at hh;have:=hh.1.2.1.1.2;rw[vO he] at this;cases this
  rw[h1];exact⟨fun _=>rfl,fun _=>IU hl _ _⟩
 .have he:aK q=false:=by simpa using he
  have hk:=oM hv he;have hw:=OP h hq hv he;have hhit:=Qt (L:=L) hv he;rw[qH,if_neg (by rw[he];simp),xP,WE ⟨hk.2,hk.1⟩ hhit]
  have hgo:Legal (dM L q)↔lN bU s k=false:=by
   unfold dM;rw[if_neg (by rw[he];simp)]
   split
   .rename_i hlt
    rw[xP];have hil:=TY (L:=L) ⟨hk.2,hk.1⟩ hlt;rw[<-hw] at hil;cases h1:lN bU s k
    .refine⟨fun _=>rfl,fun _=>⟨hl,?_⟩⟩
     cases h2:yD L ⟨q.tx,q.kind,q.item⟩
     .rfl
     .rw[hil.1 h2] at h1;cases h1
    .refine⟨fun hh=>?_,fun hh=>by cases hh⟩
     rw[hil.2 h1] at hh;cases hh.2
   .rename_i hge
    refine⟨fun _=>?_,fun _=>hl⟩
    have hal:=Qq hok hl L.length aj;rw[List.take_length] at hal;cases h1:lN bU s k
    .rfl
    .exfalso
     obtain⟨u,_,hne,hh⟩:=hw.1 h1;rcases hh with⟨e,hh⟩|⟨e,hh⟩
     .have:=hal u q.tx q.item hne hh;omega
     .have hq1:aL L q.tx q.item=1:=by have:=vN L q.tx q.item;omega
      have:=hal q.tx u q.item (Ne.symm hne) hq1;omega
  rw[hgo];exact⟨fun hh=>hh.1,fun hh=>⟨hh,rfl⟩⟩
theorem Kz {L fs:List ay}(h:Legal (L++fs)):Legal L:=fun j hj=>by
 have:=h j (by rw[List.length_append];omega)
 unfold oG at this ⊢;rw[List.getElem?_append_left hj,List.take_append_of_le_length (by omega)] at this
 exact this
end
end Go.Proofs.YtddkjbibjjehjaaGreatDoor
