/-
  Texts that the proof rests on, joined: part 30.
-/
import Derived.Test.YtddkjbibjjehjaaGreatDoorSXr23
import Derived.Test.YtddkjbibjjehjaaGreatDoorSXr29
set_option maxHeartbeats 16000000
set_option maxRecDepth 100000
namespace Go.Proofs.YtddkjbibjjehjaaGreatDoor
open Go.RowKit Go.BigFrame
set_option linter.unusedVariables false
theorem Compat.cut {L:List ay}(h:Compat L)(t:Int):Compat (iT L t):=fun a b x hab h1 h2=>by
 have key: ∀u:Int,0<=aL (iT L t) u x->aL (iT L t) u x=aL L u x:=fun u hu=>by
  obtain⟨k1,k2⟩:=gL L t u x;by_cases e:u≠t\/x<0\/3<=x
  .exact k1 e
  .have:=k2 (by omega) (by omega) (by omega)
   omega
 have e1:=key a h1;have e2:=key b (by rw[h2];omega)
 exact h a b x hab (by rw[<-e1];exact h1) (by rw[<-e2];exact h2)
theorem nT {L:List ay}{o:ay}(hok: ∀s∈L,fB s=true)(hc:Compat L)(hv:aJ o=true)(hw:aW L o= []):Compat (dM L o):=by
 obtain⟨htx,hk,hi⟩:=dW hv;unfold dM;cases he:aK o
 .have hk1:0<=o.kind/\o.kind<=1:=by
   unfold aK at he;simp only[Bool.or_eq_false_iff,beq_eq_false_iff_ne] at he;omega
  have hno: ∀u,u≠o.tx->0<=aL L u o.item->(aL L u o.item=1\/o.kind=1)->False:=fun u h1 h2 h3=>by
   have hr:0<=u/\u<=3:=by
    rcases Decidable.em ((0<=u/\u<=3)/\0<=o.item/\o.item<=2) with h|h
    .exact h.1
    .have:=Gb hok h;omega
   have:u∈aW L o:=jK.2 ⟨he,hr,h1,h2,h3⟩;rw[hw] at this;cases this
  simp only[Bool.false_eq_true,if_false];split
  .intro a b x hab h1 h2;rw[jr] at h1 h2;unfold gB at h1 h2;simp only at h1 h2;by_cases ea:o.tx=a/\o.item=x
   .have eb: ¬(o.tx=b/\o.item=x):=fun e=>hab (ea.1.symm.trans e.1)
    rw[if_neg eb] at h2;rw[<-ea.2] at h2;exact hno b (fun e=>hab (ea.1.symm.trans e.symm)) (by rw[h2];omega) (.inl h2)
   .rw[if_neg ea] at h1;by_cases eb:o.tx=b/\o.item=x
    .rw[if_pos eb,if_neg (by omega),if_pos hk1.2] at h2
     rw[<-eb.2] at h1;exact hno a (fun e=>hab (e.trans eb.1)) h1 (.inr h2)
    .rw[if_neg eb] at h2;exact hc a b x hab h1 h2
  .exact hc
 .simp only[if_true];exact hc.cut _
theorem kQ {W:List ay}(h: ∀o∈W,aJ o=true):bZ W:=fun o ho=>by
 obtain⟨_,hk,hi⟩:=dW (h o ho);cases he:aK o
 .unfold aK at he;simp only[Bool.or_eq_false_iff,beq_eq_false_iff_ne] at he;exact .inr (hi (by omega))
 .exact .inl rfl
structure Fair (N:Nat)(D:bY):Prop where
 val: ∀o∈D.wait,aJ o=true
 comp:Compat D.av
 bnd:nN D N
theorem Fair.next {r:dQ}{N:Nat}{D E:bY}(h:Fair N D)(hok: ∀s∈D.av,fB s=true)(hn:bB r D=some E):Fair N E:=by
 have hb:=nN.next (fun _=>kQ h.val) h.bnd hn
 rcases mW hn with⟨i,o,hi,hf,_,rfl⟩|⟨_,t,rfl,_⟩
 .refine⟨fun p hp=>?_,?_,hb⟩
  .rcases List.mem_append.1 hp with hp|hp
   .exact h.val p (List.mem_of_mem_take hp)
   .exact h.val p (List.mem_of_mem_drop hp)
  .have hw:aW D.av o= [] :=by
    rw[free_eq hi,Bool.and_eq_true] at hf;exact List.isEmpty_iff.1 hf.2
   exact nT hok h.comp (h.val o (List.mem_of_getElem? hi)) hw
 .exact⟨fun p hp=>h.val p (List.mem_filter.1 hp).1,h.comp.cut t,hb⟩
theorem Fair.less {r:dQ}{N:Nat}{D E:bY}(h:Fair N D)(hn:bB r D=some E):qW E<qW D:=dS (fun _=>kQ h.val) hn
theorem Fair.settle {r:dQ}{N:Nat}{D E:bY}(h:Fair N D)(hn:bB r D=some E):b_ r D=b_ r E:=fu (fun _=>kQ h.val) hn
theorem Fair.lens {N:Nat}{D:bY}(h:Fair N D)(hN:N<=1000):D.done.length<=1000/\D.wait.length<=1000/\D.av.length<=3000/\D.dead.length<=1000:=by
 have h1:=h.bnd.done;have h2:=h.bnd.av;have h3:=h.bnd.dead;have h4:=h.bnd.wait;omega
def KP (w:World)(g:Nat)(t x:Int):Int:=match w.cell? ⟨g,t.toNat*3+x.toNat,none⟩ with|some (.int _ z)=>z|_=> -1
def Zh (w:World)(g:Nat):Nat:=match w.cell? ⟨g,1,none⟩ with|some (.slice _ n _)=>n|_=>0
def Zi (R tg:Nat)(w:World):Nat:=2*Zh w R+([0,1,2,3].filter fun t=> [0,1,2].any fun x=>decide (0<=KP w tg t x)).length
theorem bO.mu {w:World}{B R tg:Nat}{m:Value}{V:DV}{D:bY}(h:bO w B R tg m V D):Zi R tg w=qW D:=by
 obtain⟨Ad,Aw,Al,Ak,nd,n,nl,nk,cd,cw,cl,ck,rfl,hcs,f1,f2,f3,f4⟩:=h.forms;have h1:Zh w R=D.wait.length:=by unfold Zh;rw[h.cells.2.1];exact f2.symm
 have key: ∀t x:Nat,t<=3->x<=2->KP w tg t x=aL D.av t x:=fun t x ht hx=>by
  unfold KP;rw[Int.toNat_natCast,Int.toNat_natCast,h.lock ht hx]
 have hh:([0,1,2,3].filter fun t=> [0,1,2].any fun x=>decide (0<=KP w tg t x))=hold D.av:=by
  unfold hold;refine List.filter_congr fun t ht=>?_
  unfold holdB;have k: ∀t x:Int,0<=t/\t<=3->0<=x/\x<=2->KP w tg t x=aL D.av t x:=fun t x ht hx=>by
   obtain⟨T,rfl⟩:=Int.eq_ofNat_of_zero_le ht.1;obtain⟨X,rfl⟩:=Int.eq_ofNat_of_zero_le hx.1;exact key T X (by omega) (by omega)
  simp only[List.mem_cons,List.not_mem_nil,or_false] at ht;simp only[List.any_cons,List.any_nil];rw[k t 0 (by omega) (by omega),k t 1 (by omega) (by omega),k t 2 (by omega) (by omega)]
 unfold Zi qW;rw[h1,hh]
theorem vR {r:dQ}{d:bY}(h:bB r d=none): ∀j,j<d.wait.length->dN d j=false:=fun j hj=>by
 cases hf:(List.range d.wait.length).find? (dN d) with
 |none=>have:=List.find?_eq_none.1 hf j (List.mem_range.2 hj);simpa using this
 |some i=>unfold bB at h;rw[hf] at h;cases h
theorem Ur {d:bY}(h:bB .die d=none): ∀j,j<d.wait.length->o9 d j=false:=fun j hj=>by
 have hn:=lC (vR h);cases hf:(List.range d.wait.length).find? (o9 d) with
 |none=>have:=List.find?_eq_none.1 hf j (List.mem_range.2 hj);simpa using this
 |some i=>unfold bB at h;rw[hn] at h;simp only[hf] at h;cases h
theorem M9 {d:bY}(h:bB .bA d=none): ∀j,j<d.wait.length->gK d j=false:=fun j hj=>by
 have hn:=lC (vR h);cases hf:(List.range d.wait.length).find? (gK d) with
 |none=>have:=List.find?_eq_none.1 hf j (List.mem_range.2 hj);simpa using this
 |some i=>unfold bB at h;rw[hn] at h;simp only[hf] at h;cases h
theorem QK {d:bY}(h:bB .wait d=none):fI (bW d)= [] :=by
 have hn:=lC (vR h);unfold bB at h;rw[hn] at h;simp only at h;split at h
 .rename_i he;exact List.isEmpty_iff.1 he
 .cases h
theorem CF {d:bY}{o:ay}{j:Nat}(hj:j<d.wait.length):(fQ d o).wait[j]? =d.wait[j]? :=by
 show(d.wait++ [o])[j]? =_
 rw[List.getElem?_append_left hj]
theorem Ag {d:bY}{o:ay}{j:Nat}(hj:j<d.wait.length):dV (fQ d o).wait j=dV d.wait j:=by
 unfold dV;rw[CF hj];cases d.wait[j]? with
 |none=>rfl
 |some p=>
  simp only;show((d.wait++ [o]).take j).all _=_
  rw[List.take_append_of_le_length (by omega)]
theorem Ah {d:bY}{o:ay}(h:(d.wait.any fun p=>p.tx==o.tx)=true):dV (fQ d o).wait d.wait.length=false:=by
 unfold dV;show(match(d.wait++ [o])[d.wait.length]? with|some q=>((d.wait++ [o]).take d.wait.length).all fun p=>p.tx !=q.tx|none=>false)=false
 rw[List.getElem?_append_right aj,Nat.sub_self];simp only[List.getElem?_cons_zero,List.take_left'];rw[List.all_eq_false];obtain⟨p,hp,he⟩:=List.any_eq_true.1 h;exact⟨p,hp,by simpa using he⟩
theorem I4 {d:bY}{o:ay}(h:(d.wait.any fun p=>p.tx==o.tx)=true)(t:Int):mD (fQ d o) t=mD d t:=by
 have e:(opsOf (fQ d o).wait t).head? =(opsOf d.wait t).head?:=by
  unfold opsOf;show((d.wait++ [o]).filter fun p=>p.tx==t).head? =_
  rw[List.filter_append,List.head?_append];by_cases ht:o.tx=t
  .subst ht;cases hf:d.wait.filter fun p=>p.tx==o.tx with
   |nil=>
    obtain⟨p,hp,he⟩:=List.any_eq_true.1 h;have:p∈d.wait.filter fun p=>p.tx==o.tx:=List.mem_filter.2 ⟨hp,he⟩
    rw[hf] at this;cases this
   |cons a r=>rfl
  .have:([o].filter fun p=>p.tx==t)= [] :=by simp[ht]
   rw[this];cases(d.wait.filter fun p=>p.tx==t).head?<;>rfl
 unfold mD;rw[e];rfl
theorem M_ {r:dQ}{d:bY}{o:ay}(h:bB r d=none)(hw:(d.wait.any fun p=>p.tx==o.tx)=true):bB r (fQ d o)=none:=by
 have hl:(fQ d o).wait.length=d.wait.length+1:=by simp[fQ]
 have hfree: ∀j,j< (fQ d o).wait.length->dN (fQ d o) j=false:=fun j hj=>by
  by_cases e:j=d.wait.length
  .subst e;have:=Ah hw;unfold dN;cases(fQ d o).wait[d.wait.length]? with
   |none=>rfl
   |some p=>simp only;rw[this];rfl
  .have hj':j<d.wait.length:=by omega
   have:=vR h j hj';unfold dN at this ⊢;rw[CF hj',Ag hj'];exact this
 cases r
 .refine nP hfree ?_;have:bW (fQ d o)=bW d:=by unfold bW;exact List.map_congr_left fun t _=>I4 hw t
  rw[this];exact QK h
 .refine pR hfree fun j hj=>?_
  by_cases e:j=d.wait.length
  .subst e;have:=Ah hw;unfold o9;cases(fQ d o).wait[d.wait.length]? with
   |none=>rfl
   |some p=>simp only;rw[this];rfl
  .have hj':j<d.wait.length:=by omega
   have:=Ur h j hj';unfold o9 at this ⊢;rw[CF hj',Ag hj'];exact this
 .refine mG hfree fun j hj=>?_
  by_cases e:j=d.wait.length
  .subst e;have:=Ah hw;unfold gK;cases(fQ d o).wait[d.wait.length]? with
   |none=>rfl
   |some p=>simp only;rw[this];rfl
  .have hj':j<d.wait.length:=by omega
   have:=M9 h j hj';unfold gK at this ⊢;rw[CF hj',Ag hj'];exact this
theorem Na (W:List ay)(t:Int):(opsOf W t).isEmpty= !(W.any fun p=>p.tx==t):=by
 unfold opsOf;rw[Bool.eq_iff_iff,List.isEmpty_iff,List.filter_eq_nil_iff,Bool.not_eq_true',List.any_eq_false]
theorem KQ {r:dQ}{d:bY}{o:ay}(h:bB r d=none):jL r d o=b_ r (qO r d o):=by
 unfold jL qO;split
 .exact(iI h).symm
 .rw[Na];cases hw:(d.wait.any fun p=>p.tx==o.tx)
  .rfl
  .exact(iI (M_ h hw)).symm
theorem Us {d:bY}(ts:List Int)(ht: ∀t∈ts,0<=t/\t<=3)(hok: ∀s∈d.av,fB s=true): ∀s∈(bS d ts).av,fB s=true:=by
 induction ts generalizing d with
 |nil=>exact hok
 |cons t r ih=>exact ih (d:=bP d t) (fun u hu=>ht u (List.mem_cons_of_mem _ hu)) (Ef hok (ht t List.mem_cons_self) 3 (by omega))
theorem GQ {d:bY}(ts:List Int)(h: ∀o∈d.wait,aJ o=true): ∀o∈(bS d ts).wait,aJ o=true:=by
 induction ts generalizing d with
 |nil=>exact h
 |cons t r ih=>exact ih (d:=bP d t) fun p hp=>h p (List.mem_filter.1 hp).1
theorem Fair.ask {r:dQ}{N:Nat}{d:bY}{o:ay}(h:Fair N d)(hok: ∀s∈d.av,fB s=true)(hv:aJ o=true):Fair (N+6) (qO r d o):=by
 have hwt: ∀e:bY,(∀p∈e.wait,aJ p=true)-> ∀p∈(fQ e o).wait,aJ p=true:=fun e he p hp=>by
  rcases List.mem_append.1 hp with hp|hp
  .exact he p hp
  .rw[List.mem_singleton.1 hp];exact hv
 unfold qO;split
 .exact⟨h.val,h.comp,h.bnd.mono (by omega)⟩
 .split
  .exact⟨hwt d h.val,h.comp,(h.bnd.waits o).mono (by omega)⟩
  .refine⟨?_,?_,h.bnd.ask r o⟩
   .unfold gP;cases r
    .simp only;split
     .exact h.val
     .exact hwt d h.val
    .simp only;split
     .exact h.val
     .split
      .exact fun p hp=>h.val p (List.mem_filter.1 hp).1
      .exact hwt d h.val
    .simp only;split
     .exact GQ _ h.val
     .exact hwt _ (GQ _ h.val)
   .unfold gP;cases r
    .simp only;split
     .rename_i he;exact nT hok h.comp hv (List.isEmpty_iff.1 he)
     .exact h.comp
    .simp only;split
     .rename_i he;exact nT hok h.comp hv (List.isEmpty_iff.1 he)
     .split
      .exact h.comp.cut _
      .exact h.comp
    .simp only;split
     .rename_i he
      rw[<-GN h.comp hv] at he;exact nT (Us _ (fun t ht=>(jK.1 (List.mem_filter.1 ht).1).2.1) hok) (sN _ h.comp) hv (List.isEmpty_iff.1 he)
     .exact sN _ h.comp
theorem KR {r:dQ}{N:Nat}{d:bY}(h:Fair N d):bB r (b_ r d)=none:=(uo (r:=r) (qW d) d (fun _=>kQ h.val) aj).2.1
structure Core (d L:List ay):Prop where
 held:lZ d L
 legal:Legal L
 okL: ∀a∈L,fB a=true
 Ut: ∀k,k<d.length->lN bU d k=false
 ends:d.Pairwise (fun a b=>aK a=true->a.tx≠b.tx)
 lk:L.length<=(d.filter bU).length+3*(d.filter aK).length
theorem Core.nil:Core [] [] :=⟨lZ.nil,Qs,fun a h=>(by cases h),fun k h=>(by cases h),List.Pairwise.nil,Nat.le_refl _⟩
theorem QL {d:List ay}{o:ay}{k:Nat}(h:k<d.length):lN bU (d++ [o]) k=lN bU d k:=by
 unfold lN;rw[List.getElem?_append_left h,List.take_append_of_le_length (by omega)]
theorem WM {d:List ay}{t:Int}(h:Act d t){o:ay}(ho:o∈d)(he:aK o=true):o.tx≠t:=fun e=>by
 rw[h o ho e] at he;cases he
theorem Core.push {d L:List ay}(h:Core d L){o:ay}(hv:aJ o=true)(ha:Act d o.tx)(hw:aW L o= []):Core (d++ [o]) (dM L o):=by
 have hat:(d++ [o])[d.length]? =some o:=by rw[List.getElem?_append_right aj,Nat.sub_self];rfl
 have htk:(d++ [o]).take d.length=d:=by rw[List.take_left'];rfl
 have hH:lZ ((d++ [o]).take d.length) L:=by rw[htk];exact h.held
 have aa1:lN bU (d++ [o]) d.length=false:=by
  cases he:aK o
  .cases hb:lN bU (d++ [o]) d.length
   .rfl
   .exfalso
    obtain⟨u,hu,hne,hh⟩:=(OP hH hat hv he).1 hb;have hk:=oM hv he;have hm:u∈aW L o:=by
     rw[r9 he];unfold eP;rw[List.mem_filter];refine⟨by rcases(by omega:u=0\/u=1\/u=2\/u=3) with rfl|rfl|rfl|rfl<;>simp,?_⟩
     simp only[Bool.and_eq_true,bne_iff_ne,decide_eq_true_eq,Bool.or_eq_true,beq_iff_eq];rcases hh with⟨e,hh⟩|⟨e,hh⟩
     .exact⟨hne,by omega,.inl hh⟩
     .exact⟨hne,hh,.inr e⟩
    rw[hw] at hm;cases hm
  .unfold lN;rw[hat];simp only;rw[List.any_eq_false];intro p _ hh;simp only[Bool.and_eq_true,fH] at hh;have:=hh.1.2.1.1.2;rw[vO he] at this;cases this
 have hlk:=(T9 hH hat hv h.okL h.legal).2 aa1;refine⟨h.held.grant hv ha,?_,?_,?_,?_,?_⟩
 .rw[qH] at hlk;split at hlk
  .exact hlk
  .exact Kz hlk
 .obtain⟨fs,g1,_,g3,_⟩:=Y8 (L:=L) hv;intro a ha';have:a∈Eb L o:=by
   rw[qH];split
   .exact ha'
   .exact List.mem_append.2 (.inl ha')
  rw[g1] at this;rcases List.mem_append.1 this with h1|h1
  .exact h.okL a h1
  .exact(g3 a h1).2.1
 .intro k hk;rw[List.length_append,List.length_singleton] at hk;by_cases e:k=d.length
  .subst e;exact aa1
  .rw[QL (by omega)];exact h.Ut k (by omega)
 .rw[List.pairwise_append];refine⟨h.ends,List.pairwise_singleton _ _,fun a ha' b hb he=>?_⟩
  rw[List.mem_singleton] at hb;subst hb;exact WM ha ha' he
 .rw[List.filter_append,List.filter_append,List.length_append,List.length_append];have:=h.lk;unfold dM;cases he:aK o
  .have hia:=qG hv he;simp only[Bool.false_eq_true,if_false,List.filter_cons,List.filter_nil,he,hia,if_true,List.length_singleton,List.length_nil];split
   .rw[List.length_append,List.length_singleton];omega
   .omega
  .have hna:=vO he;have:=lX L o.tx;simp only[if_true,List.filter_cons,List.filter_nil,he,hna,Bool.false_eq_true,if_false,List.length_singleton,List.length_nil];omega
structure RInv (p h:List ay)(D:bY):Prop where
 core:Core D.done D.av
 live: ∀t,t ∉ D.dead->opsOf D.done t++(opsOf h t++opsOf D.wait t)=opsOf p t
 gone: ∀t∈D.dead,opsOf D.wait t= [] /\(⟨t,3,0⟩:ay)∈D.done
 nodup:D.dead.Nodup
 len:D.done.length+(h.length+D.wait.length)<=p.length+D.dead.length
 hand: ∀o∈h,o.tx ∉ D.dead
theorem RInv.zero:RInv [] [] bY.zero:=⟨Core.nil,fun t _=>rfl,fun t h=>(by cases h),List.nodup_nil,Nat.le_refl _,fun o h=>(by cases h)⟩
theorem oV {l:List ay}{t:Int} :opsOf l t= [] ↔ ∀o∈l,o.tx≠t:=by
 unfold opsOf;rw[List.filter_eq_nil_iff];exact⟨fun h o ho e=>h o ho (by simpa using e),fun h o ho e=>h o ho (by simpa using e)⟩
theorem vS {l:List ay}{t:Int}{o:ay} :o∈opsOf l t↔o∈l/\o.tx=t:=by
 unfold opsOf;rw[List.mem_filter];simp
theorem iG (a b:List ay)(t:Int):opsOf (a++b) t=opsOf a t++opsOf b t:=List.filter_append _ _
theorem kg (o:ay)(t:Int):opsOf [o] t=if o.tx=t then [o] else [] :=by
 unfold opsOf;rw[List.filter_cons,List.filter_nil];simp only[beq_iff_eq]
section
variable {p:List ay} {h:List ay} {D:bY} {o:ay}
theorem RInv.act (hI:RInv p h D)(hp:p.Pairwise (fun a b=>aK a=true->a.tx≠b.tx)){t:Int}(ht:t ∉ D.dead)(hne:opsOf h t++opsOf D.wait t≠ []):Act D.done t:=fun a ha hat=>by
 cases he:aK a
 .rfl
 .exfalso
  have hl:=hI.live t ht;have hpw:(opsOf p t).Pairwise (fun a b=>aK a=true->a.tx≠b.tx):=List.Pairwise.filter _ hp
  rw[<-hl,List.pairwise_append] at hpw;obtain⟨b,hb⟩:=List.exists_mem_of_ne_nil _ hne;have h1:=hpw.2.2 a (vS.2 ⟨ha,hat⟩) b hb he;have hbt:b.tx=t:=by
   rcases List.mem_append.1 hb with hb|hb
   .exact(vS.1 hb).2
   .exact(vS.1 hb).2
  exact h1 (hat.trans hbt.symm)
theorem RInv.alive (hI:RInv p h D){t:Int}(ha:Act D.done t):t ∉ D.dead:=fun hd=>by
 have:=ha _ (hI.gone t hd).2 rfl;simp[aK] at this
theorem RInv.grant (hI:RInv p [o] D)(hp:p.Pairwise (fun a b=>aK a=true->a.tx≠b.tx))(hv:aJ o=true)(hw:aW D.av o= []):RInv p [] (bK D o):=by
 have ht:=hI.hand o (List.mem_singleton.2 rfl);have ha:Act D.done o.tx:=hI.act hp ht (by rw[kg,if_pos rfl];simp)
 refine⟨hI.core.push hv ha hw,fun t htd=>?_,fun t htd=>⟨(hI.gone t htd).1,List.mem_append.2 (.inl (hI.gone t htd).2)⟩,hI.nodup,?_,fun q hq=>by cases hq⟩
 .rw[<-hI.live t htd];show opsOf (D.done++ [o]) t++([] ++opsOf D.wait t)=_
  rw[iG,List.nil_append,List.append_assoc]
 .have:=hI.len;show(D.done++ [o]).length+(0+D.wait.length)<=p.length+D.dead.length
  rw[List.length_append];simp only[List.length_singleton] at this ⊢;omega
theorem RInv.waits (hI:RInv p [o] D)(hno:opsOf D.wait o.tx= []):RInv p [] (fQ D o):=by
 refine⟨hI.core,fun t htd=>?_,fun t htd=>?_,hI.nodup,?_,fun q hq=>by cases hq⟩
 .rw[<-hI.live t htd];show opsOf D.done t++([] ++opsOf (D.wait++ [o]) t)=_
  rw[iG,List.nil_append,kg];split
  .rename_i e;rw[<-e,hno];rfl
  .simp
 .have:=hI.gone t htd;refine⟨?_,this.2⟩;show opsOf (D.wait++ [o]) t= []
  rw[iG,this.1,kg,if_neg (fun e:o.tx=t=>hI.hand o (List.mem_singleton.2 rfl) (by rw[e];exact htd))]
  rfl
 .have:=hI.len;show D.done.length+(0+(D.wait++ [o]).length)<=p.length+D.dead.length
  rw[List.length_append];simp only[List.length_singleton] at this ⊢;omega
theorem RInv.kill (hI:RInv p h D){t:Int}(ha:Act D.done t)(hr:0<=t/\t<=3)(hh: ∀q∈h,q.tx≠t):RInv p h (bP D t):=by
 have hal:=hI.alive ha;have hv:aJ (⟨t,3,0⟩:ay)=true:=by
  rcases(by omega:t=0\/t=1\/t=2\/t=3) with rfl|rfl|rfl|rfl<;>rfl
 have hc:Core (bP D t).done (bP D t).av:=by
  have:=hI.core.push (o:=⟨t,3,0⟩) hv ha (vK rfl _);exact this
 refine⟨hc,fun u hu=>?_,fun u hu=>?_,?_,?_,fun q hq hd=>?_⟩
 .have hut:u≠t:=fun e=>hu (by rw[e];exact List.mem_append.2 (.inr (List.mem_singleton.2 rfl)))
  have hud:u ∉ D.dead:=fun e=>hu (List.mem_append.2 (.inl e))
  rw[<-hI.live u hud];show opsOf (D.done++ [⟨t,3,0⟩]) u++(opsOf h u++opsOf (D.wait.filter fun o=>o.tx !=t) u)=_
  rw[iG,kg,if_neg (fun e=>hut e.symm),List.append_nil]
  have:opsOf (D.wait.filter fun o=>o.tx !=t) u=opsOf D.wait u:=by
   unfold opsOf;rw[List.filter_filter];refine List.filter_congr fun q _=>?_
   by_cases e:q.tx=u
   .simp[e,hut]
   .simp[e]
  rw[this]
 .rcases List.mem_append.1 hu with hu|hu
  .obtain⟨g1,g2⟩:=hI.gone u hu;refine⟨?_,List.mem_append.2 (.inl g2)⟩;rw[oV] at g1 ⊢;exact fun q hq=>g1 q (List.mem_filter.1 hq).1
  .rw[List.mem_singleton] at hu;subst hu;refine⟨?_,List.mem_append.2 (.inr (List.mem_singleton.2 rfl))⟩;rw[oV];intro q hq;have:=(List.mem_filter.1 hq).2;simpa using this
 .show(D.dead++ [t]).Nodup
  rw[List.nodup_append];refine⟨hI.nodup,by simp,?_⟩
  intro a ha' b hb e;rw[List.mem_singleton] at hb;subst hb;subst e;exact hal ha'
 .have:=hI.len;show(D.done++ [(⟨t,3,0⟩:ay)]).length+(h.length+(D.wait.filter fun o=>o.tx !=t).length)<=p.length+(D.dead++ [t]).length
  have h2:=List.length_filter_le (fun o:ay=>o.tx !=t) D.wait
  rw[List.length_append,List.length_append];simp only[List.length_singleton];omega
 .rcases List.mem_append.1 hd with hd|hd
  .exact hI.hand q hq hd
  .rw[List.mem_singleton] at hd;exact hh q hq hd
theorem RInv.WO (hI:RInv p [o] D)(hp:p.Pairwise (fun a b=>aK a=true->a.tx≠b.tx))(hr:0<=o.tx/\o.tx<=3):RInv p [] (bP D o.tx):=by
 have ht:=hI.hand o (List.mem_singleton.2 rfl);have ha:Act D.done o.tx:=hI.act hp ht (by rw[kg,if_pos rfl];simp)
 have hI2:RInv p [] (bP ⟨D.done,D.wait,D.av,D.dead⟩ o.tx):=by
  have hv:aJ (⟨o.tx,3,0⟩:ay)=true:=by
   generalize o.tx=t at hr;rcases(by omega:t=0\/t=1\/t=2\/t=3) with rfl|rfl|rfl|rfl<;>rfl
  have hc:Core (bP D o.tx).done (bP D o.tx).av:=hI.core.push (o:=⟨o.tx,3,0⟩) hv ha (vK rfl _);refine⟨hc,fun u hu=>?_,fun u hu=>?_,?_,?_,fun q hq=>by cases hq⟩
  .have hut:u≠o.tx:=fun e=>hu (by rw[e];exact List.mem_append.2 (.inr (List.mem_singleton.2 rfl)))
   have hud:u ∉ D.dead:=fun e=>hu (List.mem_append.2 (.inl e))
   rw[<-hI.live u hud];show opsOf (D.done++ [⟨o.tx,3,0⟩]) u++([] ++opsOf (D.wait.filter fun q=>q.tx !=o.tx) u)=_
   rw[iG,kg,if_neg (fun e=>hut e.symm),List.append_nil,kg,if_neg (fun e=>hut e.symm)]
   have:opsOf (D.wait.filter fun q=>q.tx !=o.tx) u=opsOf D.wait u:=by
    unfold opsOf;rw[List.filter_filter];refine List.filter_congr fun q _=>?_
    by_cases e:q.tx=u
    .simp[e,hut]
    .simp[e]
   rw[this]
  .rcases List.mem_append.1 hu with hu|hu
   .obtain⟨g1,g2⟩:=hI.gone u hu;refine⟨?_,List.mem_append.2 (.inl g2)⟩;rw[oV] at g1 ⊢;exact fun q hq=>g1 q (List.mem_filter.1 hq).1
   .rw[List.mem_singleton] at hu;subst hu;refine⟨?_,List.mem_append.2 (.inr (List.mem_singleton.2 rfl))⟩;rw[oV];intro q hq;have:=(List.mem_filter.1 hq).2;simpa using this
  .show(D.dead++ [o.tx]).Nodup
   rw[List.nodup_append];refine⟨hI.nodup,by simp,?_⟩
   intro a ha' b hb e;rw[List.mem_singleton] at hb;subst hb;subst e;exact ht ha'
  .have:=hI.len;show(D.done++ [(⟨o.tx,3,0⟩:ay)]).length+(0+(D.wait.filter fun q=>q.tx !=o.tx).length)<=p.length+(D.dead++ [o.tx]).length
   have h2:=List.length_filter_le (fun q:ay=>q.tx !=o.tx) D.wait
   rw[List.length_append,List.length_append];simp only[List.length_singleton] at this ⊢;omega
 exact hI2
theorem KS (hI:RInv p h D){t x:Int}(hh:0<=aL D.av t x):Act D.done t:=((hI.core.held.pos t x).1 hh).1
theorem RInv.kills (hI:RInv p [o] D)(ts:List Int)(hnd:ts.Nodup)(hts: ∀t∈ts,(0<=t/\t<=3)/\t≠o.tx/\Act D.done t):RInv p [o] (bS D ts)/\opsOf (bS D ts).wait o.tx=opsOf D.wait o.tx/\ ∀u x:Int,(u ∉ ts->aL (bS D ts).av u x=aL D.av u x)/\(u∈ts->0<=x->x<3->aL (bS D ts).av u x<0):=by
 induction ts generalizing D with
 |nil=>exact⟨hI,rfl,fun u x=>⟨fun _=>rfl,fun hu=>by cases hu⟩⟩
 |cons t r ih=>
  obtain⟨g1,g2,g3⟩:=hts t List.mem_cons_self;have hk:=hI.kill g3 g1 (fun q hq e=>by rw[List.mem_singleton] at hq;subst hq;exact g2 e.symm)
  rw[List.nodup_cons] at hnd;obtain⟨q1,q2,q3⟩:=ih (D:=bP D t) hk hnd.2 (fun u hu=>by
   obtain⟨k1,k2,k3⟩:=hts u (List.mem_cons_of_mem _ hu);refine⟨k1,k2,?_⟩;show Act (D.done++ [⟨t,3,0⟩]) u
   rw[Act.snoc];exact⟨k3,fun e=>absurd (show t=u from e) (fun e:t=u=>hnd.1 (by rw[e];exact hu))⟩)
  refine⟨q1,?_,fun u x=>?_⟩
  .rw[show bS D (t::r)=bS (bP D t) r from rfl,q2]
   show opsOf (D.wait.filter fun q=>q.tx !=t) o.tx=_
   unfold opsOf;rw[List.filter_filter];refine List.filter_congr fun q _=>?_
   by_cases e:q.tx=o.tx
   .simp[e,Ne.symm g2]
   .simp[e]
  .rw[show bS D (t::r)=bS (bP D t) r from rfl]
   obtain⟨d1,d2⟩:=gL D.av t u x;constructor
   .intro hu;rw[(q3 u x).1 (fun e=>hu (List.mem_cons_of_mem _ e))]
    exact d1 (.inl (fun e=>hu (e▸List.mem_cons_self)))
   .intro hu h0 h3;by_cases hur:u∈r
    .exact(q3 u x).2 hur h0 h3
    .rw[(q3 u x).1 hur];rcases List.mem_cons.1 hu with e|e
     .exact d2 e h0 h3
     .exact absurd e hur
end
section
variable {p:List ay} {D:bY} {o:ay} {r:dQ}
theorem RInv.CG (hI:RInv p [] D){q:ay}(hq:q∈D.wait):q.tx ∉ D.dead/\q∈p:=by
 have hnd:q.tx ∉ D.dead:=fun hd=>(oV.1 (hI.gone q.tx hd).1) q hq rfl
 refine⟨hnd,?_⟩;have:=hI.live q.tx hnd;have hm:q∈opsOf p q.tx:=by
  rw[<-this];exact List.mem_append.2 (.inr (List.mem_append.2 (.inr (vS.2 ⟨hq,rfl⟩))))
 exact(vS.1 hm).1
theorem RInv.OU (hI:RInv p [] D)(hp:p.Pairwise (fun a b=>aK a=true->a.tx≠b.tx)){q:ay}(hq:q∈D.wait):Act D.done q.tx:=
 hI.act hp (hI.CG hq).1 (by
  intro e;have:q∈opsOf [] q.tx++opsOf D.wait q.tx:=List.mem_append.2 (.inr (vS.2 ⟨hq,rfl⟩));rw[e] at this;cases this)
theorem Uu {W:List ay}{i:Nat}{o:ay}(h:W[i]? =some o):W=W.take i++(o::W.drop (i+1)):=by
 obtain⟨hi,e⟩:=List.getElem?_eq_some_iff.1 h;conv=>lhs;rw[<-List.take_append_drop i W]
 rw[List.drop_eq_getElem_cons hi,e]
theorem RInv.next (hI:RInv p [] D)(hp:p.Pairwise (fun a b=>aK a=true->a.tx≠b.tx))(hpv: ∀q∈p,aJ q=true){E:bY}(hn:bB r D=some E):RInv p [] E:=by
 have hwv: ∀q∈D.wait,aJ q=true:=fun q hq=>hpv q (hI.CG hq).2
 rcases mW hn with⟨i,o,hi,hf,_,rfl⟩|⟨hno,t,rfl,hh⟩
 .have hm:=List.mem_of_getElem? hi;rw[free_eq hi] at hf;simp only[Bool.and_eq_true] at hf;obtain⟨hfr,hw⟩:=hf;have hs:=Uu hi;have hpre:opsOf (D.wait.take i) o.tx= [] :=by
   rw[oV];unfold dV at hfr;rw[hi] at hfr;simp only[List.all_eq_true] at hfr;exact fun q hq=>by simpa using hfr q hq
  refine RInv.grant (D:=⟨D.done,D.wait.take i++D.wait.drop (i+1),D.av,D.dead⟩) ⟨hI.core,fun t ht=>?_,fun t ht=>⟨?_,(hI.gone t ht).2⟩,hI.nodup,?_,fun q hq=>?_⟩ hp (hwv o hm) (List.isEmpty_iff.1 hw)
  .rw[<-hI.live t ht];show opsOf D.done t++(opsOf [o] t++opsOf (D.wait.take i++D.wait.drop (i+1)) t)=opsOf D.done t++([] ++opsOf D.wait t)
   rw[iG,kg];conv=>rhs;rw[hs]
   rw[iG,List.nil_append,show o::D.wait.drop (i+1)= [o] ++D.wait.drop (i+1) from rfl,iG,kg]
   by_cases e:o.tx=t
   .rw[if_pos e];rw[e] at hpre;rw[hpre];rfl
   .rw[if_neg e];rfl
  .have:=(hI.gone t ht).1;rw[oV] at this ⊢;intro q hq;rcases List.mem_append.1 hq with hq|hq
   .exact this q (List.mem_of_mem_take hq)
   .exact this q (List.mem_of_mem_drop hq)
  .have h1:=hI.len;have h2:=Ov (List.getElem?_eq_some_iff.1 hi).1;show D.done.length+([o].length+(D.wait.take i++D.wait.drop (i+1)).length)<=p.length+D.dead.length
   simp only[List.length_nil,List.length_singleton] at h1 ⊢;omega
  .rw[List.mem_singleton] at hq;subst hq;exact(hI.CG hm).1
 .rcases hh with⟨rfl,i,o,hi,h1,h2,rfl⟩|⟨rfl,i,o,hi,h1,h2,rfl⟩|⟨rfl,hc,rfl⟩
  .have hm:=List.mem_of_getElem? hi;exact hI.kill (hI.OU hp hm) (ng (hwv o hm)) (fun q hq=>by cases hq)
  .have hil:=(List.getElem?_eq_some_iff.1 hi).1;rw[uE hi] at h1;simp only[Bool.and_eq_true,decide_eq_true_eq] at h1;have hw:=Mk hi h1.1 (hno i hil);have hm:=jK.1 (J3 hw);exact hI.kill (KS hI hm.2.2.2.1) hm.2.1 (fun q hq=>by cases hq)
  .obtain⟨hr,q,hq,Z7⟩:=zN hc (DT hc);refine hI.kill ?_ hr (fun q hq=>by cases hq)
   rw[<-Z7];exact hI.OU hp hq
theorem RInv.settle (hI:RInv p [] D)(hp:p.Pairwise (fun a b=>aK a=true->a.tx≠b.tx))(hpv: ∀q∈p,aJ q=true):RInv p [] (b_ r D):=by
 generalize hm:qW D=m;induction m using Nat.strongRecOn generalizing D with
 |_ m ih=>
  have hx:r=.bA->bZ D.wait:=fun _=>kQ fun q hq=>hpv q (hI.CG hq).2
  cases hn:bB r D with
  |none=>rw[iI hn];exact hI
  |some E=>
   rw[fu hx hn];have:=dS hx hn;exact ih (qW E) (by omega) (hI.next hp hpv hn) rfl
theorem yX {l:List Int}(q:Int->Bool)(h:l.Nodup):(l.filter q).Nodup:=List.Pairwise.filter q h
theorem QM (L:List ay)(o:ay):(aW L o).Nodup:=by
 unfold aW eP;split
 .exact List.nodup_nil
 .exact yX _ (by decide)
theorem RInv.ask (hI:RInv p [o] D)(hp:p.Pairwise (fun a b=>aK a=true->a.tx≠b.tx))(hv:aJ o=true)(hno:opsOf D.wait o.tx= []):RInv p [] (gP r D o):=by
 unfold gP;cases r
 .simp only;split
  .rename_i h;exact hI.grant hp hv (List.isEmpty_iff.1 h)
  .exact hI.waits hno
 .simp only;split
  .rename_i h;exact hI.grant hp hv (List.isEmpty_iff.1 h)
  .split
   .exact hI.WO hp (ng hv)
   .exact hI.waits hno
 .simp only;obtain⟨k1,k2,k3⟩:=hI.kills ((aW D.av o).filter fun u=>decide (o.tx<u)) (yX _ (QM _ _)) (fun t ht=>by
   have hm:=jK.1 (List.mem_filter.1 ht).1;exact⟨hm.2.1,hm.2.2.1,KS hI hm.2.2.2.1⟩)
  split
  .rename_i h
   refine k1.grant hp hv ?_;cases hw:aW (bS D ((aW D.av o).filter fun u=>decide (o.tx<u))).av o with
   |nil=>rfl
   |cons u us=>
    exfalso
    have hu:u∈aW (bS D ((aW D.av o).filter fun u=>decide (o.tx<u))).av o:=by rw[hw];exact List.mem_cons_self
    have hm:=jK.1 hu;have hit:=sI hv (qG hv hm.1);obtain⟨q1,q2⟩:=k3 u o.item;by_cases hk:u∈(aW D.av o).filter fun u=>decide (o.tx<u)
    .have:=q2 hk hit.1 (by omega)
     omega
    .have e:=q1 hk;have hu2:u∈aW D.av o:=jK.2 ⟨hm.1,hm.2.1,hm.2.2.1,by rw[<-e];exact hm.2.2.2.1,by rw[<-e];exact hm.2.2.2.2⟩
     have h3:u∈(aW D.av o).filter fun u=> !decide (o.tx<u):=by
      rw[List.mem_filter];refine⟨hu2,?_⟩;cases hd:decide (o.tx<u)
      .rfl
      .exact absurd (List.mem_filter.2 ⟨hu2,hd⟩) hk
     rw[List.isEmpty_iff.1 h] at h3;cases h3
  .exact k1.waits (by rw[k2];exact hno)
theorem RInv.step (hI:RInv p [] D)(hp:(p++ [o]).Pairwise (fun a b=>aK a=true->a.tx≠b.tx))(hpv: ∀q∈p++ [o],aJ q=true):RInv (p++ [o]) [] (jL r D o):=by
 have hv:aJ o=true:=hpv o (by simp)
 unfold jL;split
 .rename_i hd
  have hdm:o.tx∈D.dead:=by
   obtain⟨y,hy,e⟩:=List.any_eq_true.1 hd;rw[<-(show y=o.tx by simpa using e)]
   exact hy
  refine⟨hI.core,fun t ht=>?_,hI.gone,hI.nodup,?_,fun q hq=>by cases hq⟩
  .rw[hI.live t ht,iG,kg,if_neg (fun e:o.tx=t=>ht (by rw[<-e];exact hdm)),List.append_nil]
  .have:=hI.len;rw[List.length_append];omega
 .rename_i hd
  have hnd:o.tx ∉ D.dead:=fun hm=>hd (List.any_eq_true.2 ⟨o.tx,hm,by simp⟩)
  split
  .rename_i he
   have hno:=List.isEmpty_iff.1 he;have h1:RInv (p++ [o]) [o] D:=by
    refine⟨hI.core,fun t ht=>?_,hI.gone,hI.nodup,?_,fun q hq=>?_⟩
    .rw[iG,<-hI.live t ht];by_cases e:o.tx=t
     .rw[<-e,hno];simp[opsOf]
     .rw[kg,if_neg e];simp[opsOf]
    .have:=hI.len;rw[List.length_append];simp only[List.length_nil,List.length_singleton] at this ⊢;omega
    .rw[List.mem_singleton] at hq;subst hq;exact hnd
   exact(h1.ask hp hv hno).settle hp hpv
  .refine⟨hI.core,fun t ht=>?_,fun t ht=>?_,hI.nodup,?_,fun q hq=>by cases hq⟩
   .rw[iG,<-hI.live t ht];show opsOf D.done t++([] ++opsOf (D.wait++ [o]) t)=_
    rw[iG];simp[opsOf]
   .obtain⟨g1,g2⟩:=hI.gone t ht;refine⟨?_,g2⟩;show opsOf (D.wait++ [o]) t= []
    rw[iG,g1,kg,if_neg (fun e:o.tx=t=>hnd (by rw[e];exact ht))]
    rfl
   .have:=hI.len;show D.done.length+(0+(D.wait++ [o]).length)<=(p++ [o]).length+D.dead.length
    rw[List.length_append,List.length_append];simp only[List.length_nil,List.length_singleton] at this ⊢;omega
end
section
variable {s:List ay} {r:dQ}
theorem WQ (hv:aF s=true)(k:Nat)(hk:k<=s.length):RInv (s.take k) [] (dO r (s.take k)):=by
 obtain⟨_,h2,h3⟩:=(bn s).1 hv;induction k with
 |zero=>exact RInv.zero
 |succ k ih=>
  have e:s[k]? =some (s[k]'(by omega)):=List.getElem?_eq_getElem (by omega)
  generalize s[k]'(by omega)=o at e
  have hpre:(s.take (k+1)).Pairwise (fun a b=>aK a=true->a.tx≠b.tx):=List.Pairwise.sublist (List.take_sublist _ _) h3
  have hmem: ∀q∈s.take (k+1),aJ q=true:=fun q hq=>h2 q (List.mem_of_mem_take hq)
  rw[aR e] at hpre hmem;rw[vG e,aR e];exact(ih (by omega)).step hpre hmem
theorem I5 (hv:aF s=true):RInv s [] (dO r s):=by
 have:=WQ (r:=r) hv s.length aj
 rwa [List.take_length] at this
theorem Uv (hv:aF s=true): ∀t∈(dO r s).dead,0<=t/\t<=3:=fun t ht=>by
 have hI:=I5 (r:=r) hv;have:=ng (hI.core.held.ok _ (hI.gone t ht).2);exact this
theorem Uw (hv:aF s=true):(dO r s).dead.length<=4:=xK.len ⟨(I5 (r:=r) hv).nodup,Uv hv⟩
theorem yY (hv:aF s=true)(hl:s.length<=12):aF (dO r s).done=true:=by
 have hI:=I5 (r:=r) hv;have h1:=hI.len;have h2:=Uw (r:=r) hv;exact(bn _).2 ⟨by omega,hI.core.held.ok,hI.core.ends⟩
end
end Go.Proofs.YtddkjbibjjehjaaGreatDoor
