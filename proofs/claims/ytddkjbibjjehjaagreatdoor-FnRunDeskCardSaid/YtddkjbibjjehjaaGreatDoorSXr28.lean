/-
  Texts that the proof rests on, joined: part 28.
-/
import Derived.Lib.Walk
import Derived.Test.YtddkjbibjjehjaaGreatDoorSXr27
set_option maxHeartbeats 16000000
set_option maxRecDepth 100000
namespace Go.Proofs.YtddkjbibjjehjaaGreatDoor
open Go.RowKit Go.BigFrame
set_option linter.unusedVariables false
theorem uM {g:Nat}{T:TypeId} : ∀ (vs:List Value) (o:Nat) (w:World) (cs:List Value),au w g T cs->o+vs.length<=cs.length->au (w.setCells g o vs) g T (cs.take o++vs++cs.drop (o+vs.length))
 | [],o,w,cs,h,hl=>by simpa[World.setCells] using h
 |v::r,o,w,cs,h,hl=>by
  simp only[List.length_cons] at hl;have ih:=uM r (o+1) (w.setCell ⟨g,o,none⟩ v) (cs.set o v) (au.set h o v) (by simp;omega)
  have e:(cs.set o v).take (o+1)++r++(cs.set o v).drop (o+1+r.length)=cs.take o++(v::r)++cs.drop (o+(v::r).length):=by
   have h1:(cs.set o v).take (o+1)=cs.take o++ [v] :=by
    rw[List.take_succ_eq_append_getElem (by simp;omega),List.getElem_set_self,List.take_set_of_le aj]
   have h2:(cs.set o v).drop (o+1+r.length)=cs.drop (o+(v::r).length):=by
    rw[List.drop_set_of_lt (by omega),List.length_cons]
    congr 1
    omega
   rw[h1,h2];simp
  rw[<-e];exact ih
theorem uN {g:Nat} : ∀ (vs:List Value) (o:Nat) (w:World),w.grownBy (w.setCells g o vs) (some g)
 | [],o,w=>fq aG
 |v::r,o,w=>World.grownBy.trans fA (uN r (o+1) (w.setCell ⟨g,o,none⟩ v))
theorem Ui (n:Nat):(Builtin.zeroCells #[.int .i64 0,.int .i64 0,.int .i64 0] n).toList=List.replicate (n*3) (.int .i64 0):=by
 unfold Builtin.zeroCells;apply List.ext_getElem
 .simp
 .intro i h1 h2;simp only[Array.getElem_toList,Array.getElem_map,Array.getElem_range,List.getElem_replicate];show(#[Value.int .i64 0,.int .i64 0,.int .i64 0] :Array Value)[i % 3]! =_
  rcases(by omega:i % 3=0\/i % 3=1\/i % 3=2) with e|e|e<;>rw[e] <;>rfl
theorem wS (w:World)(ty:TypeId){g o n c:Nat}{T:TypeId}{cs:List Value}(hr:au w g T cs)(hn:0<n)(hl:o+n*3<=cs.length):
 (Builtin.clear_ #[47] ty #[.slice (some ⟨g,o,none⟩) n c]).run Tryz.prog w=.ok (.tuple #[]) (w.setCells g o (List.replicate (n*3) (.int .i64 0))):=by
 have hst:=run_storeCells_cells (P:=Tryz.prog) g o (List.replicate (n*3) (.int .i64 0)) 0 w (fun j hj=>by
  have hj:j<n*3:=by simpa using hj
  rw[hr.cell (List.getElem?_eq_getElem (show o+0+j<cs.length by omega))];rfl) (fun j hj=>hr.frozen _) (by intro v hv';rw[List.eq_of_mem_replicate hv'];rfl)
 simp only[Nat.add_zero] at hst;obtain⟨m,rfl⟩: ∃m,n=m+1:=⟨n-1,by omega⟩
 have hz: ∀w:World,(zeroValue 89).run Tryz.prog w=.ok (.agg #[.int .i64 0,.int .i64 0,.int .i64 0]) w:=fun w=>by kernel_rfl
 have hc:(Value.agg #[.int .i64 0,.int .i64 0,.int .i64 0]).cells= #[.int .i64 0,.int .i64 0,.int .i64 0] :=by kernel_rfl
 simp[Builtin.clear_,run_underlying Tryz.underlying47,hz,hc,Ui,hst]
theorem GK {w:World}{B n c:Nat}{A:Option Addr}{xs:List ay}(h:w.ownsRow B 89 3 (.slice A n c) n (aB xs))(hn:0<n): ∃g rest,A=some ⟨g,0,none⟩/\B<=g/\au w g 89 (aB xs++rest)/\n<=c/\c<=maxLen/\(aB xs++rest).length=c*3:=by
 rcases h.2 with⟨h1,h2⟩|⟨g,cap,cur,h1,h2,h3,h4,h5,h6,h7⟩
 .omega
 .injection h1 with ha _ hc;subst hc;refine⟨g,cur.toList.drop (n*3),ha,h2,?_,h4,h5,?_⟩
  .unfold au;rw[h3,<-h7,List.take_append_drop]
  .rw[<-h7,List.take_append_drop,Array.length_toList,h6]
theorem QB {w:World}{B g n c:Nat}{xs:List ay}{rest:List Value}(h:au w g 89 (aB xs++rest))(hB:B<=g)(hx:xs.length=n)(hnc:n<=c)(hc:c<=maxLen)(hl:(aB xs++rest).length=c*3):w.ownsRow B 89 3 (.slice (some ⟨g,0,none⟩) n c) n (aB xs):=by
 have hlen:=bQ xs;refine⟨by omega,.inr ⟨g,c,(aB xs++rest).toArray,rfl,hB,h,hnc,hc,by simpa using hl,?_⟩⟩
 rw[List.toList_toArray,List.take_left' (by omega)]
theorem filter_all {α:Type}{l:List α}{p:α->Bool}(h: ∀x∈l,p x=true):l.filter p=l:=List.filter_eq_self.2 h
theorem yU (xs:List ay): ∀k,(aB xs).take (k*3)=aB (xs.take k):=by
 induction xs with
 |nil=>intro k;simp[aB]
 |cons x r ih=>
  intro k;cases k with
  |zero=>simp[aB]
  |succ k=>
   have e:(k+1)*3=k*3+1+1+1:=by omega
   rw[e];simp only[List.take_succ_cons,aB,ih]
theorem yV (xs:List ay): ∀k,(aB xs).drop (k*3)=aB (xs.drop k):=by
 induction xs with
 |nil=>intro k;simp[aB]
 |cons x r ih=>
  intro k;cases k with
  |zero=>simp[aB]
  |succ k=>
   have e:(k+1)*3=k*3+1+1+1:=by omega
   rw[e];simp only[List.drop_succ_cons,aB,ih]
def sM (B:Nat)(A:Option Addr)(n c:Nat)(ys:List ay)(w:World)(e:Ending)(w':World):Prop:=
 e=.returned (.slice A ys.length c)/\w'.ownsRow B 89 3 (.slice A ys.length c) ys.length (aB ys)/\w.grownBy w' (Value.slice A n c).ownBlock
theorem OQ {w wr:World}{B g n c i:Nat}{xs ys:List ay}{rest:List Value}(hr:au wr g 89 (aB xs++rest))(hB:B<=g)(hx:xs.length=n)(hc:c<=maxLen)(hl:(aB xs++rest).length=c*3)(hi:i<n)(hnc:n<=c)(hy:xs.take i=ys)(hg:w.grownBy wr (some g)):
 sM B (some ⟨g,0,none⟩) n c ys w (.returned (.slice (some ⟨g,0,none⟩) i c)) (wr.setCells g (i*3) (List.replicate ((n-i)*3) (.int .i64 0))):=by
 have hlen:=bQ xs;have hyl:ys.length=i:=by rw[<-hy,List.length_take];omega
 have h1:=uM (List.replicate ((n-i)*3) (.int .i64 0)) (i*3) wr _ hr (by simp only[List.length_replicate,List.length_append];omega)
 have h2:(aB xs++rest).take (i*3)=aB ys:=by
  rw[List.take_append_of_le_length (by omega),yU,hy]
 rw[h2,List.append_assoc] at h1;have hg2:=uN (g:=g) (List.replicate ((n-i)*3) (Value.int .i64 0)) (i*3) wr;refine⟨by rw[hyl],?_,World.grownBy.trans hg hg2⟩
 refine QB h1 hB rfl (by omega) hc ?_
 simp only[List.length_append,List.length_replicate,List.length_drop,bQ] at hl hlen ⊢;omega
theorem Ei (o:ay)(t:Int)(b:Nat)(w:World)(hc:w.cell? ⟨b,0,none⟩=some (.int .i64 t)):
 Calls Tryz.prog 201 #[o.val,.pointer (some ⟨b,0,none⟩)] w fun e w'=>e=.returned (.bool (o.tx==t))/\Below w.heap.size w w':=by
 obtain⟨x,k,i⟩:=o;unfold ay.val;have hbl:b<w.heap.size:=block_lt_of_cell hc;go_enter Tryz.func201,Tryz.ntmps201;go_wp2_with fail
 go_ret;exact⟨rfl,aG.alloc aj _⟩
theorem uO:Runs 201:=dG Tryz.func201 (by kernel_rfl) rfl
structure IX (w:World)(g c k:Nat)(xs:List ay)(t:Int)(i j:Nat)(ys:List ay)(rest:List Value)(wr:World):Prop where
 row:au wr g 89 (aB ys++rest)
 len:ys.length=xs.length
 full:(aB ys++rest).length=c*3
 front:ys.take i=(xs.take j).filter fun o=>o.tx !=t
 back: ∀q,j<=q->ys[q]? =xs[q]?
 lt:i<j
 le:j<=xs.length
 grown:w.grownBy wr (some g)
theorem IX.skip {w wr w':World}{g c k i j:Nat}{xs ys:List ay}{t:Int}{rest:List Value}{o:ay}(h:IX w g c k xs t i j ys rest wr)(ho:xs[j]? =some o)(ht:o.tx=t)(hb:Below wr.heap.size wr w'):IX w g c k xs t i (j+1) ys rest w':=by
 have hj:=(List.getElem?_eq_some_iff.1 ho).1;refine⟨au.below h.row hb aj,h.len,h.full,?_,fun q hq=>h.back q (by omega),by have:=h.lt;omega,by omega,World.grownBy.trans h.grown (fq hb)⟩
 rw[aR ho,List.filter_append,h.front];simp[ht]
theorem IX.keep {w wr w1 w':World}{g c k i j:Nat}{xs ys:List ay}{t:Int}{rest:List Value}{o:ay}(h:IX w g c k xs t i j ys rest wr)(ho:xs[j]? =some o)(ht:o.tx≠t)(hb:Below wr.heap.size wr w1)(hr:au w' g 89 (aB (ys.set i o)++rest))(hg:w1.grownBy w' (some g)):IX w g c k xs t (i+1) (j+1) (ys.set i o) rest w':=by
 have hj:=(List.getElem?_eq_some_iff.1 ho).1;have hi:=h.lt;have hl:=h.len;have hf:=h.full;simp only[List.length_append,bQ] at hf;refine⟨hr,by simp[hl],by simp only[List.length_append,bQ,List.length_set];omega,?_,fun q hq=>?_,by omega,by omega,World.grownBy.trans h.grown (World.grownBy.trans (fq hb) hg)⟩
 .rw[aR ho,List.filter_append,<-h.front];have e:(ys.set i o)[i]? =some o:=by rw[List.getElem?_set_self (by omega)]
  rw[aR e,List.take_set_of_le aj];simp[ht]
 .rw[List.getElem?_set_ne (by omega)]
  exact h.back q (by omega)
theorem Ej (B:Nat)(A:Option Addr)(n c b:Nat)(xs:List ay)(t:Int)(w:World)(hown:w.ownsRow B 89 3 (.slice A n c) n (aB xs))(hn:n<=30000)(hc:au w b 3 [.int .i64 t]):
 Calls Tryz.prog 200 #[.slice A n c,.func (.func 201) #[] #[.pointer (some ⟨b,0,none⟩)]] w (sM B A n c (xs.filter fun o=>o.tx !=t) w):=by
 have hl:=g_ hown;have hro:aC w A n xs:=aC.aH hown (by omega)
 have KM:rC w 201 #[.pointer (some ⟨b,0,none⟩)] xs (fun o=>o.tx==t):=⟨uO,fun W o hW _=>Ei o t b W (au.cell (au.below hc hW aj) rfl)⟩
 have HI:=ah (sZ A n c xs _ _ _ w hro KM);have hnc:n<=c:=by
  obtain⟨A',c',hv,h⟩:=aD hown;injection hv with _ _ hv;omega
 have hrun:=uO;unfold Runs at hrun;have HO:=ah hown;have HC:=ah hc;clear hown hro KM hc;go_enter Tryz.func200,Tryz.ntmps200;go_wp2_with fail
 refine HI.out.mono ?_;rintro e w1 ⟨hb1,⟨ha,rfl⟩|⟨ha,k,hk,⟨o,hok,hot⟩,hno,rfl⟩⟩
 .have hfl:(xs.filter fun o=>o.tx !=t)=xs:=filter_all fun o ho=>by
   have:=List.any_eq_false.1 ha o ho;simpa using this
  have HF:Hid (sM B A n c (xs.filter fun o=>o.tx !=t) w (.returned (.slice A n c)) w1):=by
   show sM _ _ _ _ _ _ _ _
   rw[hfl];exact⟨by rw[hl],by rw[hl];exact own_below HO.out hb1,fq hb1⟩
  clear ha hfl;go_wp2_with fail
  go_ret;exact HF.out
 .obtain⟨g,rest,rfl,hBg,hrow,_,hcm,hfull⟩:=GK HO.out (by omega)
  have aaW:o.tx=t:=by simpa using hot
  have hft:xs.take k=(xs.take k).filter fun o=>o.tx !=t:=by
   symm
   refine filter_all fun q hq=>?_
   obtain⟨j,hj⟩:=List.mem_iff_getElem?.1 hq;rw[List.getElem?_take] at hj;split at hj
   .rename_i hjk
    simpa using hno j hjk q hj
   .cases hj
  have hd:IX w g c k xs t k (k+1) xs rest w1:=⟨au.below hrow hb1 aj,rfl,hfull,by rw[aR hok,List.filter_append,<-hft];simp[aaW],fun _ _=>rfl,by omega,by omega,fq hb1⟩
  have hgb:g≠b:=fun e=>by
   subst e;exact own_ne HO.out HC.out (by decide) rfl
  have hgw:=au.lt hrow;have HST:Hid (IX w g c k xs t k (k+1) xs rest w1/\au w1 b 3 [.int .i64 t]):=⟨hd,au.below HC.out hb1 aj⟩;have hkn:k<n:=by omega
  have hkb:((k:Int)== -1)=false:=by simp
  clear hd hft hno ha hrow hok hot aaW HI hfull;go_wp2_with fail
  go_loopw [5,6] (fun i j wr=> ∃ (a q:Nat) (ys:List ay),i=.int .i64 a/\j=.int .i64 q/\IX w g c k xs t a q ys rest wr/\au wr b 3 [.int .i64 t]) (fun _ j _=>n- (intOf j).toNat)
  case atStart=>exact⟨k,k+1,xs,rfl,by go_num,HST.out.1,HST.out.2⟩
  case round=>
   clear HST;obtain⟨wo,rfl⟩: ∃z:World,z=wr:=⟨_,rfl⟩;obtain⟨a,q,ys,rfl,rfl,hD,hcb⟩:=hrel;have hqn:=hD.le;have haq:=hD.lt;have hyl:=hD.len;by_cases hlt:q<n
   .have ho:xs[q]? =some (xs[q]'(by omega)):=List.getElem?_eq_getElem (by omega)
    have hyo:ys[q]? =some (xs[q]'(by omega)):=(hD.back q aj).trans ho
    generalize xs[q]'(by omega)=o at ho hyo
    obtain⟨_,_,o',hA',_,ho',c0,c1,c2⟩:=(au.ops hD.row (n:=n) (by omega) (by omega)).at_ hlt
    injection hA' with hA';injection hA' with e1 e2 _;subst e1;subst e2;rw[hyo] at ho';injection ho' with ho';subst ho';simp only[Nat.zero_add] at c0 c1 c2;obtain⟨W,hW⟩: ∃W:World,W=wo.alloc (.cells #[.int .i64 o.tx,.int .i64 o.kind,.int .i64 o.item] 89):=⟨_,rfl⟩;have hbW:Below wo.heap.size wo W:=by rw[hW];exact aG.alloc aj _
    have hbx:au W wo.heap.size 89 [.int .i64 o.tx,.int .i64 o.kind,.int .i64 o.item] :=by rw[hW];exact heap_alloc_new wo _
    have hcW:=au.below hcb hbW aj;have hcl:=Ei o t b W (au.cell hcW rfl);have hgo:=au.lt hD.row;have HW:=ah hW;have iD:=ah hbx;have Z4:=ah hcW;have HD:=ah hD;have HON:=ah ho;have nD:=ah hbW;obtain⟨tx,kd,it⟩:=o;unfold ay.val at hcl;simp only at hcl c0 c1 c2 HW iD;have hqi:(q:Int)< (n:Int):=by omega
    have hq0:(0:Int)<=(q:Int):=by omega
    have hai:(a:Int)< (n:Int):=by omega
    have ha0:(0:Int)<=(a:Int):=by omega
    by_cases ht:tx=t
    .have htb:(tx==t)=true:=by simpa using ht
     rw[htb] at hcl;have JF:=ah hcl;have HT:=ah ht;clear ht hcl hbx hcW hD ho hyo hbW hW;go_wp2_with fail
     rw[<-HW.out];refine JF.out.mono ?_;rintro e w5 ⟨rfl,hb5⟩;have hb:=nD.out.trans (hb5.mono nD.out.size);go_wp2_with fail
     go_roundw
     case rel=>exact⟨a,q+1,ys,rfl,by go_num,HD.out.skip HON.out HT.out hb,au.below Z4.out hb5 aj⟩
     case measure=>simp[intOf];omega
    .have htb:(tx==t)=false:=by simpa using ht
     rw[htb] at hcl;have JF:=ah hcl;have HT:=ah ht;clear ht hcl hbx hcW hD ho hyo hbW hW;go_wp2_with fail
     rw[<-HW.out];refine JF.out.mono ?_;rintro e w5 ⟨rfl,hb5⟩;have hb:=nD.out.trans (hb5.mono nD.out.size);have tL:=au.below iD.out hb5 aj;have d0:w5.cell? ⟨wo.heap.size,0,none⟩=some (.int .i64 tx):=au.cell tL rfl;have d1:w5.cell? ⟨wo.heap.size,1,none⟩=some (.int .i64 kd):=au.cell tL rfl;have d2:w5.cell? ⟨wo.heap.size,2,none⟩=some (.int .i64 it):=au.cell tL rfl;have HR5:=ah (au.below HD.out.row hb aj);have hay:a<ys.length:=by omega
     clear c0 c1 c2 tL;go_wp2_with (refine R6 (.tmp 33) (.tmp 32) ⟨tx,kd,it⟩ HR5.out hay rfl rfl rfl rfl ?_;intro w6 XV vv;have HF:=ah (And.intro (HD.out.keep HON.out HT.out hb XV vv) (au.grown (au.below Z4.out hb5 aj) vv (fun e=>hgb (by injection e))));clear XV vv)
     go_roundw
     case rel=>exact⟨a+1,q+1,_,by go_num,by go_num,HF.out.1,HF.out.2⟩
     case measure=>simp[intOf];omega
   .obtain rfl:q=n:=by omega
    have hfr:=hD.front;rw[show xs.take q=xs from List.take_of_length_le (by omega)] at hfr
    have hfull:=hD.full;have hrow:=hD.row;have hg:=hD.grown;have hac: ¬ c=a:=by omega
    have hlen:a*3+(q-a)*3<=(aB ys++rest).length:=by rw[hfull];omega
    have hcl: ∀ty,(Builtin.clear_ #[47] ty #[.slice (some ⟨g,a*3,none⟩) (q-a) (c-a)]).run Tryz.prog wo=.ok (.tuple #[]) (wo.setCells g (a*3) (List.replicate ((q-a)*3) (.int .i64 0))):=fun ty=>wS wo ty hrow (by omega) hlen
    have HF:Hid (sM B (some ⟨g,0,none⟩) q c (xs.filter fun o=>o.tx !=t) w (.returned (.slice (some ⟨g,0,none⟩) a c)) (wo.setCells g (a*3) (List.replicate ((q-a)*3) (.int .i64 0)))):=
     OQ hrow hBg (by omega) hcm hfull haq hnc hfr hg
    have hai:(a:Int)<=(q:Int):=by omega
    have acF:(a:Int)<=(c:Int):=by omega
    have ha0:(0:Int)<=(a:Int):=by omega
    clear hD hcb hfr hfull hrow hg hlen;go_wp2_with fail
    go_ret;exact HF.out
theorem vQ (B R tg:Nat)(m:Value)(V:DV)(D:bY)(T:Nat)(w:World)(h:bO w B R tg m V D)(hT:T<=3)(hL:D.av.length<=8000)(hN:D.done.length<=9000/\D.wait.length<=9000/\D.dead.length<=9000):
 Calls Tryz.prog 184 #[.pointer (some ⟨R,0,none⟩),.int .i64 (T:Int)] w (GJ B R tg m V w (bP D T)):=by
 have Wm:(T:Int)<4:=by omega
 obtain⟨W,hW⟩: ∃W:World,W=w.alloc (.cells #[.int .i64 (T:Int)] 3):=⟨_,rfl⟩;have hbW:Below w.heap.size w W:=by rw[hW];exact aG.alloc aj _
 have hbx:au W w.heap.size 3 [.int .i64 (T:Int)] :=by rw[hW];exact heap_alloc_new w _
 have bF:=h.far aj;have hdl:=lX D.av (T:Int);have HW:=ah hW;have iD:=ah hbx;have zy:=ah (KL B R tg m V D T W (h.eZ hbW) hT hL);have Bh:Hid (lK R tg w V W V):=lK.of_below R tg V hbW;clear hW hbx h;go_enter Tryz.func184,Tryz.ntmps184;go_wp2_with fail
 rw[<-HW.out];refine zy.out.mono ?_;rintro e w1 ⟨rfl,V1,hA,hS⟩;clear zy hbW
 go_upto_region 2 with fail
 go_cut [] from 7 to 19 (fun wx=> ∃ (V2:DV) (w6:World),w6=wx/\bO w6 B R tg m V2 ⟨D.done++ [⟨(T:Int),3,0⟩],D.wait,iT D.av (T:Int),D.dead⟩/\lK R tg W V w6 V2)
 case rest=>
  obtain⟨V2,w6,rfl,hA,hS⟩:=hcut;try clear hcut
  go_upto_region 3 with fail
  go_cut [] from 20 to 31 (fun wx=> ∃ (V2:DV) (w7:World),w7=wx/\bO w7 B R tg m V2 ⟨D.done++ [⟨(T:Int),3,0⟩],D.wait,iT D.av (T:Int),D.dead++ [(T:Int)]⟩/\lK R tg W V w7 V2)
  case rest=>
   obtain⟨V3,w7,rfl,hA,hS⟩:=hcut;try clear hcut
   obtain⟨mO,l7,qB,pW,kX,lG,qC,pz,mP,mQ,qD,pX,rfl,_,f1,f2,f3,f4⟩:=hA.forms;have r0:w7.cell? ⟨R,1,none⟩=some (.slice l7 lG mQ):=hA.cells.2.1;have hdf:=Ej B l7 lG mQ w.heap.size D.wait (T:Int) w7 (hA.aO.dh f2) (by simp only at f2;omega) (hS.row iD.out bF.1 bF.2.1 bF.2.2)
   have HDF:=ah hdf;have HA:=ah hA;have HS:=ah hS;have hrun:=uO;unfold Runs at hrun;clear hdf hA hS f1 f2 f3 f4;go_wp2_with fail
   refine HDF.out.mono ?_;rintro e w8 ⟨rfl,ho8,DW⟩;obtain⟨⟨e0,e1⟩,OT,nZ⟩:=HA.out.jC DW ho8 (.inl (by cases l7<;>rfl))
   have HF:=ah (And.intro OT (Bh.out.trans (HS.out.trans nZ)));clear OT nZ ho8 DW;go_wp2_with fail
   go_end0
   exact⟨rfl,_,HF.out.1,HF.out.2⟩
  obtain⟨mO,l7,qB,pW,kX,lG,qC,pz,mP,mQ,qD,pX,rfl,_,f1,f2,f3,f4⟩:=hA.forms;obtain⟨wd,hwd⟩: ∃wd:World,wd=w6.drew:=⟨_,rfl⟩;have hbd:Below w6.heap.size w6 wd:=by rw[hwd];exact aG.drew
  have hbl:Below w6.heap.size w6 (wd.alloc (.cells #[.int .i64 (T:Int)] 3)):=hbd.alloc hbd.size _;have r0:wd.cell? ⟨R,3,none⟩=some (.slice pW pz pX):=au.cell (au.below hA.box hbd aj) rfl;have r1:(wd.alloc (.cells #[.int .i64 (T:Int)] 3)).cell? ⟨R,3,none⟩=some (.slice pW pz pX):=au.cell (au.below hA.box hbl aj) rfl;have b0:wd.cell? ⟨w.heap.size,0,none⟩=some (.int .i64 (T:Int)):=au.cell ((hS.eZ hbd).row iD.out bF.1 bF.2.1 bF.2.2) rfl;have HOL:=ah ((hA.aO.below hbl).Ow f4);have hsl:B<=(wd.alloc (.cells #[.int .i64 (T:Int)] 3)).heap.size:=(hA.aO.below hbl).base;have oU:=ah (hA.eZ hbl);have HSL:=ah (hS.eZ hbl);have lY:=ah hwd;have hnn:pz<=30000:=by first|omega|(simp only at f1 f2 f3 f4;omega)
  clear hA hS hwd hbd hbl f1 f2 f3 f4;go_wp2_with fail
  refine wp_region_any (by kernel_rfl) ?_
  change wpAny _ _ _ _ _ _ _ (World.drew _);rw[<-lY.out];refine bH 0 ?_;refine bH 1 ?_;refine bH 2 ?_;refine bH 3 ?_;refine bH 4 ?_;refine uW 5 6 (fun K hK=>?_) fun K hK=>?_
  .skip;go_simp;try(refine hK _ _ ?_;clear hK K)
   refine cK 6 fun K hK=>?_
   go_simp;try(refine hK _ _ ?_;clear hK K)
   refine cK 7 fun K hK=>?_
   go_simp;try(refine hK _ _ ?_;clear hK K)
   refine cK 8 fun K hK=>?_
   refine kL (.tmp 25) (.tmp 27) (c:=1) HOL.out (by omega) (dB rfl (T:Int)) ?_ ?_ ?_ ?_ ?_ ?_
   .omega
   .rfl
   .rfl
   .rfl
   .rfl
   intro v3 w3 hown3 hg3 aU;obtain⟨⟨e0,e1⟩,hA3,eu⟩:=oU.out.Ba hg3 hown3 aU;obtain⟨A3,c3,rfl,_⟩:=aD hown3;have HF:=ah (And.intro hA3 (HSL.out.trans eu));clear hA3 eu hg3 hown3 aU;try(refine hK _ _ ?_;clear hK K)
   refine bH 9 ?_;refine bH 10 ?_;refine bH 11 ?_;refine cK 12 fun K hK=>?_
   go_simp;try(refine hK _ _ ?_;clear hK K)
   refine bM ?_;try go_simp
   go_wp2_with fail
   go_meet
   exact⟨_,_,rfl,HF.out.1,HF.out.2⟩
  .skip;go_simp;try(refine hK _ _ ?_;clear hK K)
   refine uW 5 7 (fun K hK=>?_) fun K hK=>?_
   .skip;go_simp;try(refine hK _ _ ?_;clear hK K)
    refine cK 7 fun K hK=>?_
    go_simp;try(refine hK _ _ ?_;clear hK K)
    refine cK 8 fun K hK=>?_
    refine kL (.tmp 25) (.tmp 27) (c:=1) HOL.out (by omega) (dB rfl (T:Int)) ?_ ?_ ?_ ?_ ?_ ?_
    .omega
    .rfl
    .rfl
    .rfl
    .rfl
    intro v3 w3 hown3 hg3 aU;obtain⟨⟨e0,e1⟩,hA3,eu⟩:=oU.out.Ba hg3 hown3 aU;obtain⟨A3,c3,rfl,_⟩:=aD hown3;have HF:=ah (And.intro hA3 (HSL.out.trans eu));clear hA3 eu hg3 hown3 aU;try(refine hK _ _ ?_;clear hK K)
    refine bH 9 ?_;refine bH 10 ?_;refine bH 11 ?_;refine cK 12 fun K hK=>?_
    go_simp;try(refine hK _ _ ?_;clear hK K)
    refine bM ?_;try go_simp
    go_wp2_with fail
    go_meet
    exact⟨_,_,rfl,HF.out.1,HF.out.2⟩
   .skip;go_simp;try(refine hK _ _ ?_;clear hK K)
    refine cK 5 fun K hK=>?_
    go_simp;try(refine hK _ _ ?_;clear hK K)
    refine cK 8 fun K hK=>?_
    refine kL (.tmp 25) (.tmp 27) (c:=1) HOL.out (by omega) (dB rfl (T:Int)) ?_ ?_ ?_ ?_ ?_ ?_
    .omega
    .rfl
    .rfl
    .rfl
    .rfl
    intro v3 w3 hown3 hg3 aU;obtain⟨⟨e0,e1⟩,hA3,eu⟩:=oU.out.Ba hg3 hown3 aU;obtain⟨A3,c3,rfl,_⟩:=aD hown3;have HF:=ah (And.intro hA3 (HSL.out.trans eu));clear hA3 eu hg3 hown3 aU;try(refine hK _ _ ?_;clear hK K)
    refine bH 9 ?_;refine bH 10 ?_;refine bH 11 ?_;refine cK 12 fun K hK=>?_
    go_simp;try(refine hK _ _ ?_;clear hK K)
    refine bM ?_;try go_simp
    go_wp2_with fail
    go_meet
    exact⟨_,_,rfl,HF.out.1,HF.out.2⟩
 obtain⟨mO,l7,qB,pW,kX,lG,qC,pz,mP,mQ,qD,pX,rfl,_,f1,f2,f3,f4⟩:=hA.forms;obtain⟨wd,hwd⟩: ∃wd:World,wd=w1.drew:=⟨_,rfl⟩;have hbd:Below w1.heap.size w1 wd:=by rw[hwd];exact aG.drew
 have hbl:Below w1.heap.size w1 (wd.alloc (.cells #[.int .i64 (T:Int),.int .i64 3,.int .i64 0] 89)):=hbd.alloc hbd.size _;have r0:wd.cell? ⟨R,0,none⟩=some (.slice mO kX mP):=au.cell (au.below hA.box hbd aj) rfl;have r1:(wd.alloc (.cells #[.int .i64 (T:Int),.int .i64 3,.int .i64 0] 89)).cell? ⟨R,0,none⟩=some (.slice mO kX mP):=au.cell (au.below hA.box hbl aj) rfl;have b0:wd.cell? ⟨w.heap.size,0,none⟩=some (.int .i64 (T:Int)):=au.cell ((hS.eZ hbd).row iD.out bF.1 bF.2.1 bF.2.2) rfl;have HOL:=ah ((hA.aO.below hbl).doneN f1);have hsl:B<=(wd.alloc (.cells #[.int .i64 (T:Int),.int .i64 3,.int .i64 0] 89)).heap.size:=(hA.aO.below hbl).base;have oU:=ah (hA.eZ hbl);have HSL:=ah (hS.eZ hbl);have lY:=ah hwd;have hnn:kX<=30000:=by first|omega|(simp only at f1 f2 f3 f4;omega)
 clear hA hS hwd hbd hbl f1 f2 f3 f4;go_wp2_with fail
 refine wp_region_any (by kernel_rfl) ?_
 change wpAny _ _ _ _ _ _ _ (World.drew _);rw[<-lY.out];refine bH 0 ?_;refine bH 1 ?_;refine bH 2 ?_;refine bH 3 ?_;refine bH 4 ?_;refine uW 5 6 (fun K hK=>?_) fun K hK=>?_
 .skip;go_simp;try(refine hK _ _ ?_;clear hK K)
  refine cK 6 fun K hK=>?_
  go_simp;try(refine hK _ _ ?_;clear hK K)
  refine bH 7 ?_;refine cK 8 fun K hK=>?_
  go_simp;try(refine hK _ _ ?_;clear hK K)
  refine cK 9 fun K hK=>?_
  refine aS (.tmp 12) (.tmp 15) (c:=1) HOL.out (by omega) (aC.dB _ ⟨(T:Int),3,0⟩ _) ?_ ?_ ?_ ?_ ?_ ?_
  .omega
  .rfl
  .rfl
  .rfl
  .rfl
  intro v3 w3 hown3 hg3 aU;obtain⟨⟨e0,e1⟩,hA3,eu⟩:=oU.out.iF hg3 hown3 aU;obtain⟨A3,c3,rfl,_⟩:=aD hown3;have HF:=ah (And.intro hA3 (HSL.out.trans eu));clear hA3 eu hg3 hown3 aU;try(refine hK _ _ ?_;clear hK K)
  refine bH 10 ?_;refine bH 11 ?_;refine bH 12 ?_;refine cK 13 fun K hK=>?_
  go_simp;try(refine hK _ _ ?_;clear hK K)
  refine bM ?_;try go_simp
  go_wp2_with fail
  go_meet
  exact⟨_,_,rfl,HF.out.1,HF.out.2⟩
 .skip;go_simp;try(refine hK _ _ ?_;clear hK K)
  refine bH 7 ?_;refine uW 5 8 (fun K hK=>?_) fun K hK=>?_
  .skip;go_simp;try(refine hK _ _ ?_;clear hK K)
   refine cK 8 fun K hK=>?_
   go_simp;try(refine hK _ _ ?_;clear hK K)
   refine cK 9 fun K hK=>?_
   refine aS (.tmp 12) (.tmp 15) (c:=1) HOL.out (by omega) (aC.dB _ ⟨(T:Int),3,0⟩ _) ?_ ?_ ?_ ?_ ?_ ?_
   .omega
   .rfl
   .rfl
   .rfl
   .rfl
   intro v3 w3 hown3 hg3 aU;obtain⟨⟨e0,e1⟩,hA3,eu⟩:=oU.out.iF hg3 hown3 aU;obtain⟨A3,c3,rfl,_⟩:=aD hown3;have HF:=ah (And.intro hA3 (HSL.out.trans eu));clear hA3 eu hg3 hown3 aU;try(refine hK _ _ ?_;clear hK K)
   refine bH 10 ?_;refine bH 11 ?_;refine bH 12 ?_;refine cK 13 fun K hK=>?_
   go_simp;try(refine hK _ _ ?_;clear hK K)
   refine bM ?_;try go_simp
   go_wp2_with fail
   go_meet
   exact⟨_,_,rfl,HF.out.1,HF.out.2⟩
  .skip;go_simp;try(refine hK _ _ ?_;clear hK K)
   refine cK 5 fun K hK=>?_
   go_simp;try(refine hK _ _ ?_;clear hK K)
   refine cK 9 fun K hK=>?_
   refine aS (.tmp 12) (.tmp 15) (c:=1) HOL.out (by omega) (aC.dB _ ⟨(T:Int),3,0⟩ _) ?_ ?_ ?_ ?_ ?_ ?_
   .omega
   .rfl
   .rfl
   .rfl
   .rfl
   intro v3 w3 hown3 hg3 aU;obtain⟨⟨e0,e1⟩,hA3,eu⟩:=oU.out.iF hg3 hown3 aU;obtain⟨A3,c3,rfl,_⟩:=aD hown3;have HF:=ah (And.intro hA3 (HSL.out.trans eu));clear hA3 eu hg3 hown3 aU;try(refine hK _ _ ?_;clear hK K)
   refine bH 10 ?_;refine bH 11 ?_;refine bH 12 ?_;refine cK 13 fun K hK=>?_
   go_simp;try(refine hK _ _ ?_;clear hK K)
   refine bM ?_;try go_simp
   go_wp2_with fail
   go_meet
   exact⟨_,_,rfl,HF.out.1,HF.out.2⟩
def p8 (W:List ay)(k:Nat):List Int:=((List.range k).filter (dV W)).map fun i:Nat=>(i:Int)
def cZ (W:List ay):List Int:=p8 W W.length
theorem IY (W:List ay)(k:Nat):p8 W (k+1)=p8 W k++if dV W k then [(k:Int)] else [] :=by
 unfold p8;rw[List.range_succ,List.filter_append,List.map_append];congr 1
 cases h:dV W k<;>simp[h]
def uP (W:List ay)(k:Nat)(x:Int):Bool:=(W.take k).any fun p=>p.tx==x
theorem QC {W:List ay}{k:Nat}{o:ay}(h:W[k]? =some o):dV W k= !uP W k o.tx:=by
 unfold dV uP;rw[h];simp only;rw[Bool.eq_iff_iff,List.all_eq_true,Bool.not_eq_true',List.any_eq_false];simp
theorem MU {W:List ay}{k:Nat}{o:ay}(h:W[k]? =some o)(x:Int):uP W (k+1) x=(uP W k x||o.tx==x):=by
 unfold uP;rw[aR h,List.any_append];simp
theorem El:Maps.Keyed Tryz.prog 3:=Maps.int_keyed Tryz.underlying3
structure xQ (D:DataW Unit)(S:Int->Bool):Prop where
 map:Maps.IsMap D
 at_: ∀x:Int,D.atKey (.int .i64 x) (.lit (.bool false))=.lit (.bool (S x))
theorem QD (t:Int):WideAt.IsKeyLit (.int .i64 t):=by first|trivial|simp[WideAt.IsKeyLit] |exact⟨_,_,rfl⟩
theorem xQ.start:xQ (.map []) (fun _=>false):=⟨by first|trivial|exact⟨_,rfl⟩|simp[Maps.IsMap],fun x=>rfl⟩
theorem xQ.put {D:DataW Unit}{S:Int->Bool}(h:xQ D S)(t:Int):xQ (D.put (.int .i64 t) (.lit (.bool true))) (fun x=>S x||t==x):=by
 refine⟨by first|exact Maps.Z6 h.map _ _|exact h.map.put _ _,fun x=>?_⟩
 by_cases e:t=x
 .subst e;rw[Maps.atKey_put_same h.map (QD t)];simp
 .rw[Maps.atKey_put_other (by intro e';injection e' with _ e';exact e e'.symm),h.at_]
  simp[e]
theorem QE {v:Value}{b:Bool}{ps:List MemPlace}(h:(plainElem (H:=Unit) Tryz.prog 4) v=some (.lit (.bool b),ps)):v=.bool b:=by
 unfold plainElem at h;rw[Tryz.underlying4] at h;cases v<;>simp at h
 rw[h.1]
theorem Em {w:World}{B e size n:Nat}{v:Value}{xs:List Value}{k:TypeId}{R:Value->Option (DataW Unit×List MemPlace)}{bm N:Nat}{D:DataW Unit}(h1:w.ownsRow B e size v n xs)(h2:w.ownsMap Tryz.prog k R bm N D):v.ownBlock≠some bm:=by
 obtain⟨es,clock,hb,_⟩:=h2;rcases h1.2 with⟨rfl,_⟩|⟨g,cap,cur,rfl,_,hh,_⟩
 .simp[Value.ownBlock]
 .intro e';injection e' with e';have e':g=bm:=e';rw[e',hb] at hh;injection hh with hh;cases hh
structure HdI (w:World)(bm:Nat)(W:List ay)(k m:Nat)(ov:Value)(wr:World):Prop where
 below:Below w.heap.size w wr
 map: ∃D,wr.ownsMap Tryz.prog 3 (plainElem (H:=Unit) Tryz.prog 4) bm k D/\xQ D (uP W k)
 row:wr.ownsRow w.heap.size 3 1 ov m (intCells (p8 W k))
 low:w.heap.size<=bm
 le:m<=k
theorem MV {w w':World}{k:TypeId}{R:Value->Option (DataW Unit×List MemPlace)}{bm N:Nat}{D:DataW Unit}(h:w.ownsMap Tryz.prog k R bm N D)(hb:Below w.heap.size w w'):w'.ownsMap Tryz.prog k R bm N D:=by
 have hl:=h.lt;obtain⟨es,clock,h1,h2⟩:=h;exact⟨es,clock,(hb.block bm hl).trans h1,h2⟩
theorem qN (B R tg:Nat)(m:Value)(V:DV)(D:bY)(w:World)(h:bO w B R tg m V D)(hv: ∀o∈D.wait,aJ o=true)(hN:D.wait.length<=9000):
 Calls Tryz.prog 186 #[.pointer (some ⟨R,0,none⟩)] w (aT w (cZ D.wait)):=by
 obtain⟨Ad,Aw,Al,Ak,nd,n,nl,nk,cd,cw,cl,ck,rfl,hcs,f1,f2,f3,f4⟩:=h.forms;have hmm:= @run_makeMap Tryz.prog;have hcw:=hcs.2.1;have HX:Hid (∀W,Below w.heap.size w W->aC W Aw n D.wait):=fun W hW=>aC.aH ((h.eZ hW).aO.dh f2) (by omega)
 have c1:w.cell? ⟨R,1,none⟩=some (.slice Aw n cw):=h.cells.2.1;have c1':(w.alloc (.map #[] 0)).cell? ⟨R,1,none⟩=some (.slice Aw n cw):=(h.eZ (aG.alloc aj _)).cells.2.1;have ab0:((w.alloc (.map #[] 0)).alloc (.cells #[] 3)).cell? ⟨R,1,none⟩=some (.slice Aw n cw):=(h.eZ ((aG.alloc aj _).alloc (by simp) _)).cells.2.1
 have HL:Hid (D.wait.length=n):=f2;have hn9:n<=9000:=by omega
 have HV:=ah hv;have HST:Hid (HdI w w.heap.size D.wait 0 0 (.slice (some ⟨w.heap.size+1,0,none⟩) 0 0) ((w.alloc (.map #[] 0)).alloc (.cells #[] 3))):=by
  have hb0:Below w.heap.size w (w.alloc (.map #[] 0)):=(Below.refl _ w).alloc aj _;have hs0:(w.alloc (.map #[] 0)).heap.size=w.heap.size+1:=by simp
  refine⟨hb0.alloc (by omega) _,⟨_,(World.ownsMap_made w _ _ _).alloc _,?_⟩,?_,Nat.le_refl _,Nat.le_refl _⟩
  .have:=xQ.start;have e:(uP D.wait 0)=fun _=>false:=by funext x;simp[uP]
   rw[e];exact this
  .have:=World.ownsRow_made (base:=w.heap.size) (e:=3) (size:=1) (w.alloc (.map #[] 0)) #[] 0 (by omega) (by decide) rfl
   rw[hs0] at this;exact this
 clear h hv hcs f1 f2 f3 f4;go_enter Tryz.func186,Tryz.ntmps186;go_wp2_with fail
 clear c1 c1' ab0 hmm;go_loopw [4,15] (fun ov i wr=> ∃k m:Nat,k<=n/\i=.int .i64 k/\HdI w w.heap.size D.wait k m ov wr) (fun _ i _=>n- (intOf i).toNat)
 case atStart=>exact⟨0,0,Nat.zero_le _,rfl,HST.out⟩
 case round=>
  clear HST;obtain⟨wo,rfl⟩: ∃z:World,z=wr:=⟨_,rfl⟩;obtain⟨k,mm,hk,rfl,hI⟩:=hrel;obtain⟨Ao,co,rfl,hmc⟩:=aD hI.row;by_cases hlt:k<n
  .obtain⟨b,off,o,rfl,hbl,ho,c0,c1,c2⟩:=(HX.out wo hI.below).at_ hlt;have Bj:=HV.out o (List.mem_of_getElem? ho);obtain⟨htx,_,_⟩:=dW Bj;have hfs:=QC ho;have hsc:=IY D.wait k;have hse:=fun x=>MU ho x
   obtain⟨sb,hsb⟩: ∃sb,uP D.wait k o.tx=sb:=⟨_,rfl⟩;rw[hsb] at hfs;rw[hfs] at hsc;obtain⟨W,hW⟩: ∃W:World,W=wo.alloc (.cells #[.int .i64 o.tx,.int .i64 o.kind,.int .i64 o.item] 89):=⟨_,rfl⟩;have hbW:Below wo.heap.size wo W:=by rw[hW];exact aG.alloc aj _
   have hbx:au W wo.heap.size 89 [.int .i64 o.tx,.int .i64 o.kind,.int .i64 o.item] :=by rw[hW];exact heap_alloc_new wo _
   obtain⟨Dm,hown,hsn⟩:=hI.map;have yj:=MV hown hbW;have Uj:=own_below hI.row hbW;have hne:=Em Uj yj;have hwf:(Lit.int .i64 o.tx).wf=true:=jw htx;have hkey:keyOf Tryz.prog 3 (.int .i64 o.tx)=some (.int .i64 o.tx):=Maps.keyOf_int_mk Tryz.underlying3 hwf;obtain⟨lv,lps,Uk,hlr⟩:=yj.lookup El (t:=229) Tryz.underlying229 (z:=.bool false) (by kernel_rfl) (zd:=.lit (.bool false)) (zp:= []) (by kernel_rfl) hkey
   rw[hsn.at_,hsb] at hlr;obtain rfl:=QE hlr;have hval:(plainElem (H:=Unit) Tryz.prog 4) (.bool true)=some (.lit (.bool true),[]):=by kernel_rfl
   have HI:=ah hI;have HW:=ah hW;have iD:=ah hbx;have HOM:=ah yj;have HRW:=ah Uj;have XF:=ah hsn;have RV:=ah hsc;have RY:=ah hse;have nD:=ah (hI.below.trans (hbW.mono hI.below.size));have hsz:=hI.below.size;have hszW:W.heap.size=wo.heap.size+1:=by rw[hW];simp
   have hle:=hI.le;have hki:(k:Int)< (n:Int):=by omega
   have hk0:(0:Int)<=(k:Int):=by omega
   obtain⟨tx,kd,it⟩:=o;simp only at c0 c1 c2 HW iD hkey Uk RY htx;have acG:w.heap.size<=W.heap.size:=by omega
   have Oy:=ah hszW;have p0:W.cell? ⟨wo.heap.size,0,none⟩=some (.int .i64 tx):=au.cell iD.out rfl;have gZ:Hid (∀ (mm':Nat) (v':Value) (w3 w4:World),Below w.heap.size w w3->w3.ownsMap Tryz.prog 3 (plainElem (H:=Unit) Tryz.prog 4) w.heap.size k Dm->w3.ownsRow w.heap.size 3 1 v' mm' (intCells (p8 D.wait (k+1)))->mm'<=k+1->w4.ownsMap Tryz.prog 3 (plainElem (H:=Unit) Tryz.prog 4) w.heap.size (k+1) (Dm.put (.int .i64 tx) (.lit (.bool true)))->w3.grownBy w4 (some w.heap.size)->HdI w w.heap.size D.wait (k+1) mm' v' w4):=by
    intro mm' v' w3 w4 hb3 hm3 hr3 hle3 hm4 hg4;have ab1:=Em hr3 hm3;refine⟨hb3.grown hg4 hb3.size (fun j e=>by injection e with e;omega),⟨_,hm4,?_⟩,iE hr3 hg4 (fun b e=>by injection e with e;subst e;exact ab1),Nat.le_refl _,hle3⟩
    have:=XF.out.put tx;have e:(fun x=>uP D.wait k x||tx==x)=uP D.wait (k+1):=by funext x;rw[RY.out]
    rw[e] at this;exact this
   clear hI hW hbx hown yj hsn hlr hfs hsc hse hbW ho Bj Uj hsb hszW;cases sb
   .go_wp2_with fail
    rw[<-HW.out];rw[Uk];go_wp2_with (first
     |(at_builtin;go_loud (refine gI (.tmp 25) (.tmp 27) (HRW.out.alloc _) (by simp;omega) (dB rfl (k:Int)) (by omega) rfl rfl rfl rfl ?_;intro v6 w6 hown6 vv EZ;obtain⟨A6,c6,rfl,_⟩:=aD hown6;have vW:=World.grownBy.trans (World.grownBy_alloc W _ _) vv;have hm6:=HOM.out.kept vW (Ne.symm hne);have pE:=au.grown iD.out vW (own_ne HRW.out iD.out (by decide));have q0:w6.cell? ⟨wo.heap.size,0,none⟩=some (.int .i64 tx):=au.cell pE rfl;have Fp:Hid (Below w.heap.size w w6):=nD.out.grown vW nD.out.size (fun j e=>(World.ownsRow.lt HRW.out j e).1);have HM6:=ah hm6;have Zc:=ah hown6;clear hm6 pE hown6 vv vW EZ))
     |(at_mapUpdate;go_loud (refine wpList_mapUpdate_own _ rfl _ _ _ 229 rfl 3 4 El Tryz.underlying229 _ w.heap.size k Dm rfl HM6.out (by unfold maxLen;omega) _ _ (.int .i64 tx) rfl rfl hkey (.lit (.bool true)) [] hval ?_;intro w4 iy hg4;have HF:=ah (gZ.out (mm+1) _ w6 w4 Fp.out HM6.out (by rw[RV.out];exact Zc.out) (by omega) iy hg4);clear iy hg4)))
    go_roundw
    case rel=>exact⟨k+1,mm+1,by omega,by go_num,HF.out⟩
    case measure=>simp[intOf];omega
   .go_wp2_with fail
    rw[<-HW.out];rw[Uk];go_wp2_with (at_mapUpdate;go_loud (refine wpList_mapUpdate_own _ rfl _ _ _ 229 rfl 3 4 El Tryz.underlying229 _ w.heap.size k Dm rfl HOM.out (by unfold maxLen;omega) _ _ (.int .i64 tx) rfl rfl hkey (.lit (.bool true)) [] hval ?_;intro w4 iy hg4;have HF:=ah (gZ.out mm _ W w4 nD.out HOM.out (by rw[RV.out];simpa using HRW.out) (by omega) iy hg4);clear iy hg4))
    go_roundw
    case rel=>exact⟨k+1,mm,by omega,by go_num,HF.out⟩
    case measure=>simp[intOf];omega
  .obtain rfl:k=n:=by omega
   have hrow:=hI.row;have hlm:=gY hrow;have hle:=hI.le;have HF:Hid (aT w (cZ D.wait) (.returned (.slice Ao mm co)) wo):=by
    show aT _ _ _ _
    unfold cZ;rw[HL.out];exact aT.mk hlm hmc (aN.aH hrow aj (by omega)) hI.below
   clear hI hrow hlm;go_wp2_with fail
   go_ret;exact HF.out
end Go.Proofs.YtddkjbibjjehjaaGreatDoor
