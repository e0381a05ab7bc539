/-
  Texts that the proof rests on, joined: part 9.
-/
import Derived.Lib.SliceRun
import Derived.LoopIn
import Derived.LoopNIn
import Derived.OwnWalkIn
import Derived.RangeFuncBound
import Derived.RangeFuncBox
import Derived.RangeFuncCalls
import Derived.RangeFuncLeaves
import Derived.RangeFuncNested
import Derived.RangeFuncWrites
import Derived.Shelf.Abstract
import Derived.Shelf.RegionOpen
import Derived.Shelf.SortM.Plain
import Derived.Shelf.SortM.SortNone
import Derived.Sort.OwnSortedInts
import Derived.TacticsInMore
import Derived.Test.YtddkjbibjjehjaaGreatDoorSXr8
set_option maxHeartbeats 16000000
set_option maxRecDepth 100000
namespace Go.Proofs.YtddkjbibjjehjaaGreatDoor
open Go.RowKit Go.BigFrame
set_option linter.unusedVariables false
def fH (a b:ay):Bool:=a.tx !=b.tx&&bU a&&bU b&&a.item==b.item&& (a.kind==1||b.kind==1)
theorem mq (a b:ay)(w:World):
 Calls Tryz.prog 123 #[a.val,b.val] w fun e w'=>e=.returned (.bool (fH a b))/\Below w.heap.size w w':=by
 obtain⟨at_,ak,ai⟩:=a;obtain⟨bt,bk,bi⟩:=b;obtain⟨r1,h1⟩: ∃z,(at_ !=bt)=z:=⟨_,rfl⟩;obtain⟨r2,h2⟩: ∃z,bU ⟨at_,ak,ai⟩=z:=⟨_,rfl⟩;obtain⟨r3,h3⟩: ∃z,bU ⟨bt,bk,bi⟩=z:=⟨_,rfl⟩;obtain⟨r4,h4⟩: ∃z,(ai==bi)=z:=⟨_,rfl⟩;obtain⟨r5,h5⟩: ∃z,(ak==1)=z:=⟨_,rfl⟩;obtain⟨r6,h6⟩: ∃z,(bk==1)=z:=⟨_,rfl⟩;have HR:Hid (fH ⟨at_,ak,ai⟩ ⟨bt,bk,bi⟩=(r1&&r2&&r3&&r4&& (r5||r6))):=by
  show _=_
  unfold fH;simp only;rw[h1,h2,h3,h4,h5,h6]
 have hA: ∀W:World,Calls Tryz.prog 121 #[.agg #[.int .i64 at_,.int .i64 ak,.int .i64 ai]] W fun e w'=>e=.returned (.bool r2)/\Below W.heap.size W w':=fun W=>by
  have:=oh ⟨at_,ak,ai⟩ W;rw[h2] at this;exact this
 have hB: ∀W:World,Calls Tryz.prog 121 #[.agg #[.int .i64 bt,.int .i64 bk,.int .i64 bi]] W fun e w'=>e=.returned (.bool r3)/\Below W.heap.size W w':=fun W=>by
  have:=oh ⟨bt,bk,bi⟩ W;rw[h3] at this;exact this
 have HA:=ah hA;have HB:=ah hB;obtain⟨W,hW⟩: ∃W:World,W=(w.alloc (.cells #[.int .i64 at_,.int .i64 ak,.int .i64 ai] 89)).alloc (.cells #[.int .i64 bt,.int .i64 bk,.int .i64 bi] 89):=⟨_,rfl⟩;obtain⟨W1,hW1⟩: ∃W:World,W=w.alloc (.cells #[.int .i64 at_,.int .i64 ak,.int .i64 ai] 89):=⟨_,rfl⟩;obtain⟨L0,L1,L2,hbW1,hs1⟩:=kC hW1;rw[<-hW1] at hW;obtain⟨M0,M1,M2,hbW,hs2⟩:=kC hW;have hsz:W1.heap.size=w.heap.size+1:=by rw[hW1];simp
 rw[hsz] at M0 M1 M2;have hbb:=hbW1.trans (hbW.mono hbW1.size);have l0: ∀u:Later W,u.1.cell? ⟨w.heap.size,0,none⟩=some (.int .i64 at_):=fun u=>L0 ⟨u.1,hbW.trans (u.2.mono hbW.size)⟩
 have l1: ∀u:Later W,u.1.cell? ⟨w.heap.size,1,none⟩=some (.int .i64 ak):=fun u=>L1 ⟨u.1,hbW.trans (u.2.mono hbW.size)⟩
 have l2: ∀u:Later W,u.1.cell? ⟨w.heap.size,2,none⟩=some (.int .i64 ai):=fun u=>L2 ⟨u.1,hbW.trans (u.2.mono hbW.size)⟩
 have HW:Hid ((w.alloc (.cells #[.int .i64 at_,.int .i64 ak,.int .i64 ai] 89)).alloc (.cells #[.int .i64 bt,.int .i64 bk,.int .i64 bi] 89)=W):=by show _=_;rw[hW,hW1]
 unfold ay.val;clear hA hB hW hW1 L0 L1 L2 h2 h3;cases r1
 .go_enter Tryz.func123,Tryz.ntmps123;go_wp2_with fail
  go_ret;rw[HW.out];exact⟨aI (by rw[HR.out];rfl),hbb⟩
 .go_enter Tryz.func123,Tryz.ntmps123;go_wp2_with fail
  rw[HW.out];refine(HA.out W).mono ?_;rintro e w1 ⟨rfl,hb1⟩;have x0:=l0 ⟨w1,hb1⟩;have x2:=l2 ⟨w1,hb1⟩;have x1:=l1 ⟨w1,hb1⟩;have y0:=M0 ⟨w1,hb1⟩;have y1:=M1 ⟨w1,hb1⟩;have y2:=M2 ⟨w1,hb1⟩;simp only at x0 x1 x2 y0 y1 y2;have uf:=hbb.trans (hb1.mono hbb.size);cases r2
  .go_wp2_with fail
   go_ret;exact⟨aI (by rw[HR.out];rfl),uf⟩
  .go_wp2_with fail
   refine(HB.out w1).mono ?_;rintro e w2 ⟨rfl,hb2⟩;have hbW2:=hb1.trans (hb2.mono hb1.size);have z1:=l1 ⟨w2,hbW2⟩;have z2:=l2 ⟨w2,hbW2⟩;have v1:=M1 ⟨w2,hbW2⟩;have v2:=M2 ⟨w2,hbW2⟩;simp only at z1 z2 v1 v2;have hbw2:=hbb.trans (hbW2.mono hbb.size);clear x0 x1 x2 y0 y1 y2 HA HB;cases r3
   .go_wp2_with fail
    go_ret;exact⟨aI (by rw[HR.out];rfl),hbw2⟩
   .cases r4
    .go_wp2_with fail
     go_ret;exact⟨aI (by rw[HR.out];rfl),hbw2⟩
    .cases r5
     .cases r6
      .go_wp2_with fail
       go_ret;exact⟨aI (by rw[HR.out];rfl),hbw2⟩
      .go_wp2_with fail
       go_ret;exact⟨aI (by rw[HR.out];rfl),hbw2⟩
     .go_wp2_with fail
      go_ret;exact⟨aI (by rw[HR.out];rfl),hbw2⟩
open Go.RowKit
def ug (a:ay)(rows:List Nat)(b:ay):List Nat:=if fH a b then jT rows a.tx b.tx else rows
def kI (L:List ay)(i:Nat)(a:ay)(rows:List Nat)(k:Nat):List Nat:=((L.drop (i+1)).take k).foldl (ug a) rows
def jv (L:List ay):Nat->List Nat
 |0=> [0,0,0,0]
 |i+1=>match L[i]? with
  |some a=>kI L i a (jv L i) (L.length- (i+1))
  |none=>jv L i
def qA (L:List ay):List Nat:=jv L L.length
theorem DI {L:List ay}{i:Nat}{a:ay}{rows:List Nat} :kI L i a rows 0=rows:=rfl
theorem xB {L:List ay}{i k:Nat}{a b:ay}{rows:List Nat}(h:L[i+1+k]? =some b):kI L i a rows (k+1)=ug a (kI L i a rows k) b:=by
 unfold kI;have h':(L.drop (i+1))[k]? =some b:=by rw[List.getElem?_drop];exact h
 rw[aR h',List.foldl_append];rfl
theorem zI {L:List ay}{i:Nat}{a:ay}(h:L[i]? =some a):jv L (i+1)=kI L i a (jv L i) (L.length- (i+1)):=by
 simp only[jv,h]
theorem Ot:dA [0,0,0,0] :=⟨rfl,by decide⟩
theorem Px {a b:ay}{rows:List Nat}(h:dA rows)(hb:0<=b.tx/\b.tx<=3):dA (ug a rows b):=by
 unfold ug;split
 .exact u_ h hb
 .exact h
theorem yF {L:List ay}(hr: ∀o∈L,0<=o.tx/\o.tx<=3){i:Nat}{a:ay}{rows:List Nat}(h:dA rows)(k:Nat):dA (kI L i a rows k):=by
 unfold kI;have: ∀ (l:List ay) (rows:List Nat),dA rows->(∀o∈l,0<=o.tx/\o.tx<=3)->dA (l.foldl (ug a) rows):=by
  intro l;induction l with
  |nil=>intro rows h _;exact h
  |cons x r ih=>intro rows h hl;exact ih _ (Px h (hl x (by simp))) (fun o ho=>hl o (by simp[ho]))
 exact this _ _ h (fun o ho=>hr o (List.mem_of_mem_drop (List.mem_of_mem_take ho)))
theorem vB {L:List ay}(hr: ∀o∈L,0<=o.tx/\o.tx<=3)(i:Nat):dA (jv L i):=by
 induction i with
 |zero=>exact Ot
 |succ i ih=>
  simp only[jv];split
  .exact yF hr ih _
  .exact ih
theorem Ig {L:List ay}(hr: ∀o∈L,0<=o.tx/\o.tx<=3):dA (qA L):=vB hr _
theorem DJ {R S:List Nat}(hR:dA R)(hS:dA S)(h: ∀t u,t<4->u<4->(R.getD t 0).testBit u=(S.getD t 0).testBit u):R=S:=by
 refine List.ext_getElem (by rw[hR.1,hS.1]) fun i h1 h2=>?_
 have hi:i<4:=by rw[<-hR.1];exact h1
 have e1:R.getD i 0=R[i] :=by rw[List.getD_eq_getElem?_getD,List.getElem?_eq_getElem h1];rfl
 have e2:S.getD i 0=S[i] :=by rw[List.getD_eq_getElem?_getD,List.getElem?_eq_getElem h2];rfl
 refine Nat.eq_of_testBit_eq fun u=>?_
 rw[<-e1,<-e2];by_cases hu:u<4
 .exact h i u hi hu
 .have b: ∀x:Nat,x<16->x.testBit u=false:=fun x hx=>by
   refine Nat.testBit_lt_two_pow (Nat.lt_of_lt_of_le hx ?_);have:(2:Nat)^4<=2^u:=Nat.pow_le_pow_right (by omega) (by omega)
   omega
  rw[b _ (by rw[e1];exact hR.2 _ (List.getElem_mem _)),b _ (by rw[e2];exact hS.2 _ (List.getElem_mem _))]
structure yG (D:DataW Unit)(R:List Nat):Prop where
 isMap:Maps.IsMap D
 has: ∀t u:Int,(Lit.int .i64 t).wf=true->(Lit.int .i64 u).wf=true->(Maps.has D (jR t u)=true↔(0<=t/\t<=3/\0<=u/\u<=3/\(R.getD t.toNat 0).testBit u.toNat=true))
theorem jw {t:Int}(h:0<=t/\t<=3):(Lit.int .i64 t).wf=true:=by
 simp[Lit.wf,IntKind.min,IntKind.max,IntKind.signed,IntKind.bits];omega
theorem yG.empty:yG (.map []) [0,0,0,0] :=by
 refine⟨Maps.isMap_empty,fun t u _ _=>⟨fun h=>by simp[Maps.has] at h,fun h=>?_⟩⟩
 exfalso
 obtain⟨h1,h2,h3,h4,h5⟩:=h;have:t=0\/t=1\/t=2\/t=3:=by omega
 rcases this with rfl|rfl|rfl|rfl<;>simp at h5
theorem Gc {t u t' u':Int}(h1:(Lit.int .i64 t).wf=true)(h2:(Lit.int .i64 u).wf=true)(h3:(Lit.int .i64 t').wf=true)(h4:(Lit.int .i64 u').wf=true)(h:jR t u=jR t' u'):t=t'/\u=u':=by
 have e1:=Oq h1 h2;have e2:=Oq h3 h4;rw[<-h] at e2;have:=Cg.inj e1 e2;unfold DC at this;injection this with this;simp at this;exact this
theorem Gd (t u:Int):WideAt.IsKeyLit (jR t u):=by unfold jR;simp[WideAt.IsKeyLit]
theorem yG.put {D:DataW Unit}{R:List Nat}(h:yG D R)(hR:dA R){t u:Int}(ht:0<=t/\t<=3)(hu:0<=u/\u<=3)(d:DataW Unit):yG (D.put (jR t u) d) (jT R t u):=by
 refine⟨h.isMap.put _ _,fun t' u' ht' hu'=>?_⟩
 obtain⟨T,rfl⟩:=Int.eq_ofNat_of_zero_le ht.1;obtain⟨U,rfl⟩:=Int.eq_ofNat_of_zero_le hu.1;by_cases he:jR t' u'=jR (T:Int) (U:Int)
 .obtain⟨e1,e2⟩:=Gc ht' hu' (jw ht) (jw hu) he;subst e1;subst e2;rw[Maps.has_put_same h.isMap (Gd _ _)];simp only[true_iff];refine⟨by omega,by omega,by omega,by omega,?_⟩
  rw[Int.toNat_natCast,Int.toNat_natCast,kE hR (by omega)]
  simp
 .rw[Maps.has_put_other he,h.has t' u' ht' hu'];constructor
  .rintro⟨h1,h2,h3,h4,h5⟩;exact⟨h1,h2,h3,h4,by rw[kE hR (by omega),h5];rfl⟩
  .rintro⟨h1,h2,h3,h4,h5⟩;rw[kE hR (by omega),Bool.or_eq_true] at h5
   refine⟨h1,h2,h3,h4,h5.elim id fun hh=>?_⟩
   exfalso
   simp only[Bool.and_eq_true,decide_eq_true_eq] at hh;apply he
   have e1:t'=(T:Int):=by omega
   have e2:u'=(U:Int):=by omega
   rw[e1,e2]
def cB (rows:List Nat)(t u:Int):Bool:=(rows.getD t.toNat 0).testBit u.toNat
def fP (list:List Int):Nat->List Int->List (List Int)
 |0,pre=> [pre]
 |n+1,pre=>list.flatMap fun t=>if pre.any (fun y=>y==t) then [] else fP list n (pre++ [t])
def fM (rows:List Nat):List Int->List Int->Bool
 |_,[] =>true
 |pre,t::r=> !(pre.any fun u=>cB rows t u) &&fM rows (pre++ [t]) r
def Ih (list:List Int)(rows:List Nat):List (List Int):=(fP list list.length []).filter (fM rows [])
def ql (list:List Int)(rows:List Nat):Nat->List Int->List (List Int)
 |0,pre=> [pre]
 |n+1,pre=>list.flatMap fun t=>if !(pre.any fun y=>y==t) &&list.all (fun v=> !cB rows v t||pre.any fun y=>y==v) then ql list rows n (pre++ [t]) else []
theorem iH {L:List Int}{x:Int} :(L.any fun y=>y==x)=true↔x∈L:=by
 rw[List.any_eq_true];constructor
 .rintro⟨y,hy,e⟩;have:y=x:=by simpa using e
  subst this;exact hy
 .intro h;exact⟨x,h,by simp⟩
theorem mV (rows:List Nat)(q:List Int): ∀ (p pre:List Int),fM rows pre (p++q)=(fM rows pre p&&fM rows (pre++p) q):=by
 intro p;induction p with
 |nil=>intro pre;simp[fM]
 |cons t r ih=>
  intro pre;simp only[List.cons_append,fM,ih];rw[Bool.and_assoc,List.append_assoc];rfl
theorem Gf {l1:List Int} : ∀ {l2:List Int},l1.Nodup->(∀x∈l1,x∈l2)->l1.length<=l2.length:=by
 induction l1 with
 |nil=>intro l2 _ _;exact Nat.zero_le _
 |cons x r ih=>
  intro l2 hd hs;rw[List.nodup_cons] at hd;have hx:=hs x (by simp)
  have h1:=ih (l2:=l2.erase x) hd.2 (fun y hy=>by
   have hne:y≠x:=fun e=>hd.1 (by rw[<-e];exact hy)
   exact(List.mem_erase_of_ne hne).2 (hs y (by simp[hy])))
  rw[List.length_erase_of_mem hx] at h1;have:0<l2.length:=List.length_pos_of_mem hx;simp only[List.length_cons];omega
theorem Py {list:List Int}(hd:list.Nodup)(n:Nat): ∀ {pre:List Int},pre.Nodup->(∀x∈pre,x∈list)->pre.length+n=list.length-> ∀p∈fP list n pre,(∃q,p=pre++q)/\(∀v∈list,v∈p):=by
 induction n with
 |zero=>
  intro pre hpd hsub hl p hp;simp only[fP,List.mem_singleton] at hp;subst hp;refine⟨⟨[],by simp⟩,fun v hv=>?_⟩
  by_cases hm:v∈p
  .exact hm
  .exfalso
   have:=Gf (l1:=v::p) (l2:=list) (List.nodup_cons.2 ⟨hm,hpd⟩) (fun x hx=>by
    rcases List.mem_cons.1 hx with h|h
    .rw[h];exact hv
    .exact hsub x h)
   simp only[List.length_cons] at this;omega
 |succ n ih=>
  intro pre hpd hsub hl p hp;simp only[fP,List.mem_flatMap] at hp;obtain⟨t,ht,hp⟩:=hp;split at hp
  .cases hp
  .rename_i hm
   have hnm:t ∉ pre:=fun h=>hm (iH.2 h)
   have VW:(pre++ [t]).Nodup:=by
    rw[List.nodup_append];refine⟨hpd,by simp,?_⟩
    intro a ha b hb;rw[List.mem_singleton] at hb;subst hb;exact fun e=>hnm (e▸ha)
   obtain⟨⟨q,hq⟩,hall⟩:=ih VW (fun x hx=>by
    rcases List.mem_append.1 hx with hx|hx
    .exact hsub x hx
    .rw[List.mem_singleton] at hx;subst hx;exact ht) (by simp;omega) p hp
   exact⟨⟨t::q,by rw[hq,List.append_assoc];rfl⟩,hall⟩
theorem JX {α β:Type}(p:β->Bool)(f:α->List β): ∀l:List α,(l.flatMap f).filter p=l.flatMap fun x=>(f x).filter p:=by
 intro l;induction l with
 |nil=>rfl
 |cons x r ih=>rw[List.flatMap_cons,List.flatMap_cons,List.filter_append,ih]
theorem DK {α β:Type}{f g:α->List β} : ∀ {l:List α},(∀x∈l,f x=g x)->l.flatMap f=l.flatMap g:=by
 intro l;induction l with
 |nil=>intro _;rfl
 |cons x r ih=>
  intro h;rw[List.flatMap_cons,List.flatMap_cons,h x (by simp),ih (fun y hy=>h y (by simp[hy]))]
theorem Yq {list:List Int}{rows:List Nat}(hd:list.Nodup)(hs: ∀t∈list,cB rows t t=false)(n:Nat):
 ∀ {pre:List Int},pre.Nodup->(∀x∈pre,x∈list)->pre.length+n=list.length->fM rows [] pre=true->(∀u∈pre,∀v∈list,cB rows v u=true->v∈pre)->
  (fP list n pre).filter (fM rows [])=ql list rows n pre:=by
 induction n with
 |zero=>
  intro pre _ _ _ hacc _;simp only[fP,ql];rw[List.filter_cons,if_pos hacc,List.filter_nil]
 |succ n ih=>
  intro pre hpd hsub hl hacc hcl;simp only[fP,ql];rw[JX];refine DK fun t ht=>?_
  cases hm:(pre.any fun y=>y==t)
  .have hnm:t ∉ pre:=fun h=>by rw[iH.2 h] at hm;cases hm
   have VW:(pre++ [t]).Nodup:=by
    rw[List.nodup_append];refine⟨hpd,by simp,?_⟩
    intro a ha b hb;rw[List.mem_singleton] at hb;subst hb;exact fun e=>hnm (e▸ha)
   have Xx: ∀x∈pre++ [t],x∈list:=fun x hx=>by
    rcases List.mem_append.1 hx with hx|hx
    .exact hsub x hx
    .rw[List.mem_singleton] at hx;subst hx;exact ht
   have hl':(pre++ [t]).length+n=list.length:=by simp;omega
   simp only[Bool.false_eq_true,if_false,Bool.not_false,Bool.true_and];cases hc:(list.all fun v=> !cB rows v t||pre.any fun y=>y==v)
   .
    simp only[Bool.false_eq_true,if_false];rw[List.filter_eq_nil_iff];intro p hp ha;obtain⟨⟨q,hq⟩,hall⟩:=Py hd n VW Xx hl' p hp;rw[List.all_eq_false] at hc;obtain⟨v,hv,Xy⟩:=hc;simp only[Bool.or_eq_true,Bool.not_eq_true',not_or,Bool.not_eq_true] at Xy;obtain⟨hve,hvp⟩:=Xy;have Yr:cB rows v t=true:=by
     cases h:cB rows v t
     .exact absurd h (by simpa using hve)
     .rfl
    have hvn:v ∉ pre:=fun h=>by rw[iH.2 h] at hvp;cases hvp
    have hvt:v≠t:=fun e=>by rw[e,hs t ht] at Yr;cases Yr
    have hvm:v∈q:=by
     have:=hall v hv;rw[hq] at this;rcases List.mem_append.1 this with h|h
     .rcases List.mem_append.1 h with h|h
      .exact absurd h hvn
      .rw[List.mem_singleton] at h;exact absurd h hvt
     .exact h
    obtain⟨q1,q2,hq12⟩:=List.append_of_mem hvm;rw[hq,hq12,mV rows (q1++v::q2) (pre++ [t]),mV rows (v::q2) q1] at ha;simp only[Bool.and_eq_true,fM] at ha;have h3:=ha.2.2.1;simp only[Bool.not_eq_true'] at h3;rw[List.any_eq_false] at h3;exact h3 t (by simp) Yr
   .simp only[if_true];rw[List.all_eq_true] at hc;have hcond: ∀v∈list,cB rows v t=true->v∈pre:=fun v hv he=>by
     have:=hc v hv;rw[he] at this;simp only[Bool.not_true,Bool.false_or] at this;exact iH.1 this
    refine ih VW Xx hl' ?_ ?_
    .rw[mV,hacc];simp only[fM,Bool.true_and,Bool.and_true,List.nil_append,Bool.not_eq_true'];rw[List.any_eq_false];intro u hu he;exact hnm (hcl u hu t ht he)
    .intro u hu v hv he;rcases List.mem_append.1 hu with hu|hu
     .exact List.mem_append_left _ (hcl u hu v hv he)
     .rw[List.mem_singleton] at hu;subst hu;exact List.mem_append_left _ (hcond v hv he)
  .simp
theorem Yt {list:List Int}{rows:List Nat}(hd:list.Nodup)(hs: ∀t∈list,cB rows t t=false):Ih list rows=ql list rows list.length [] :=
 Yq hd hs list.length (by simp) (by simp) (by simp) rfl (by simp)
theorem uh (A:Option Addr)(n c:Nat)(w:World)(hn:n<=1099511627776)(hnc:n<=c):
 Calls Tryz.prog 127 #[.slice A n c] w fun e w'=>e=.returned (.slice A n n)/\w=w':=by
 go_enter Tryz.func127,Tryz.ntmps127;go_wp2_with fail
 go_ret;exact⟨rfl,rfl⟩
theorem rU (A:Option Addr)(n c:Nat)(w:World)(hn:n<=1099511627776)(hnc:n<=c):
 Calls Tryz.prog 129 #[.slice A n c] w fun e w'=>e=.returned (.slice A n n)/\w=w':=by
 go_enter Tryz.func129,Tryz.ntmps129;go_wp2_with fail
 go_ret;exact⟨rfl,rfl⟩
theorem aN.blk {w0 w:World}{A:Option Addr}{n:Nat}{xs:List Int}(h:aN w0 w A n xs): ∀ad,A=some ad->ad.block<w.heap.size:=fun ad had=>by
 obtain⟨b,cur,e,_,h2,_⟩:=h.2 ad had;rw[e];exact lt_of_block h2
theorem Gg (s:List ay):(ji s).length<=4:=Nat.le_trans (List.length_filter_le _ _) (by simp)
def iO (s:List ay)(i k:Nat):Bool:=match s[i]?,s[k]?,s[i+1]? with|some a,some b,some c=>(a.tx==b.tx) && (a.tx !=c.tx)|_,_,_=>false
def rV (s:List ay):Bool:=(List.range s.length).all fun i=>(List.range s.length).all fun k=> !(decide (i+2<=k))|| !iO s i k
theorem yH {s:List ay}{i k:Nat}(hk:k<s.length)(hik:i+2<=k)(h:iO s i k=true):rV s=false:=by
 unfold rV;rw[List.all_eq_false];refine⟨i,List.mem_range.2 (by omega),?_⟩
 have:((List.range s.length).all fun k=> !(decide (i+2<=k))|| !iO s i k)=false:=by
  rw[List.all_eq_false];exact⟨k,List.mem_range.2 hk,by rw[h];simp;omega⟩
 rw[this];simp
theorem A9 {s:List ay}(h: ∀i k,k<s.length->i+2<=k->iO s i k=false):rV s=true:=by
 unfold rV;rw[List.all_eq_true];intro i hi;rw[List.all_eq_true];intro k hk;by_cases hik:i+2<=k
 .rw[h i k (List.mem_range.1 hk) hik];simp
 .simp[hik]
theorem Pz {s:List ay}(h:rV s=true){i k:Nat}(hk:k<s.length)(hik:i+2<=k):iO s i k=false:=by
 cases hb:iO s i k
 .rfl
 .rw[yH hk hik hb] at h;cases h
theorem PD (s:List ay):rV s=jk s:=by
 cases h:jk s
 .unfold jk at h;rw[List.all_eq_false] at h;obtain⟨i,hi,hb⟩:=h;have hi:=List.mem_range.1 hi;simp only[Bool.or_eq_true,beq_iff_eq,Bool.not_eq_true',not_or,Bool.not_eq_false] at hb;obtain⟨h0,hb⟩:=hb;have e:s[i]? =some s[i] :=List.getElem?_eq_getElem hi;have e1:s[i-1]? =some (s[i-1]'(by omega)):=List.getElem?_eq_getElem (by omega)
  unfold oq at hb;rw[e,e1] at hb;simp only[Bool.and_eq_true,bne_iff_ne] at hb;obtain⟨hne,hh⟩:=hb;unfold lQ at hh;rw[List.any_eq_true] at hh;obtain⟨p,hp,hpt⟩:=hh;obtain⟨j,hj⟩:=List.mem_iff_getElem?.1 hp;rw[List.getElem?_take] at hj;split at hj
  .rename_i hji
   have hpt:p.tx=s[i].tx:=by simpa using hpt
   cases hS:rV s
   .rfl
   .exfalso
    have key: ∀d j q,j+1+d=i->s[j]? =some q->q.tx≠s[i].tx:=by
     intro d;induction d with
     |zero=>
      intro j q hjd hq;obtain rfl:j=i-1:=by omega
      rw[e1] at hq;injection hq with hq;rw[<-hq];exact fun e=>hne e.symm
     |succ d ih=>
      intro j q hjd hq ht;have e2:s[j+1]? =some (s[j+1]'(by omega)):=List.getElem?_eq_getElem (by omega)
      have h2:=ih (j+1) _ (by omega) e2
      have h3:=Pz hS (i:=j) (k:=i) hi (by omega)
      unfold iO at h3;rw[hq,e,e2] at h3;simp only[Bool.and_eq_false_iff,beq_eq_false_iff_ne,bne_eq_false_iff_eq] at h3;rcases h3 with h3|h3
      .exact h3 ht
      .exact h2 (by rw[<-h3,ht])
    exact key (i-1-j) j p (by omega) hj hpt
  .cases hj
 .refine A9 fun i k hk hik=>?_
  cases hb:iO s i k
  .rfl
  .exfalso
   have e:s[i]? =some (s[i]'(by omega)):=List.getElem?_eq_getElem (by omega)
   have e1:s[k]? =some s[k] :=List.getElem?_eq_getElem hk;have e2:s[i+1]? =some (s[i+1]'(by omega)):=List.getElem?_eq_getElem (by omega)
   unfold iO at hb;rw[e,e1,e2] at hb;simp only[Bool.and_eq_true,beq_iff_eq,bne_iff_ne] at hb;exact hb.2 (AX h e e1 hb.1 (i+1) _ (by omega) (by omega) e2).symm
theorem E5 (A:Option Addr)(n c:Nat)(s:List ay)(w:World)(hx:aC w A n s):
 Calls Tryz.prog 29 #[.slice A n c] w fun e w'=>e=.returned (.bool (jk s))/\Below w.heap.size w w':=by
 have hn:=hx.2.1;have hl:=hx.1;have HX:=ah hx;clear hx;rw[<-PD];go_enter Tryz.func29,Tryz.ntmps29;go_wp2_with fail
 go_loopw [3] (fun i wr=> ∃k:Nat,k<=n/\i=.int .i64 k/\Below w.heap.size w wr/\(∀a b,a<k->a+2<=b->b<n->iO s a b=false)) (fun i _=>n- (intOf i).toNat)
 case atStart=>exact⟨0,Nat.zero_le _,rfl,Below.refl _ _,by omega⟩
 case round=>
  obtain⟨wo,rfl⟩: ∃wo:World,wo=wr:=⟨_,rfl⟩;obtain⟨i,hi,rfl,hb,hno⟩:=hrel;by_cases hlt:i+1<n
  .have iM:=HX.out.below hb aj;obtain⟨b,off,o,rfl,hbl,ho,c0,_,_⟩:=iM.at_ (k:=i) (by omega)
   obtain⟨b',off',o2,hA,_,ho2,d0,_,_⟩:=iM.at_ (k:=i+1) (by omega)
   injection hA with hA;injection hA with e1 e2;subst e1;subst e2;have LD:=ah iM;have kJ:=ah hno;have hi1:(i:Int)+1< (n:Int):=by omega
   obtain⟨t1,k1,x1⟩:=o;obtain⟨t2,k2,x2⟩:=o2;simp only at c0 d0;have HO:=ah (And.intro ho ho2);clear iM hno ho ho2;go_wp2_with fail
   go_loopw [4] (fun i' wr=> ∃k:Nat,i+2<=k/\k<=n+1/\i'=.int .i64 k/\Below wo.heap.size wo wr/\(∀b,i+2<=b->b<k->b<n->iO s i b=false)) (fun i' _=>n+1- (intOf i').toNat)
   case atStart=>exact⟨i+2,Nat.le_refl _,by omega,by go_num,Below.refl _ _,by omega⟩
   case round=>
    obtain⟨k,hik,hk,rfl,hb1,hrow⟩:=hrel;by_cases hlt2:k<n
    .have iM:=LD.out.below hb1 aj;obtain⟨b',off',q,hA,_,hq,q0,_,_⟩:=iM.at_ (k:=k) hlt2;injection hA with hA;injection hA with e1 e2;subst e1;subst e2;obtain⟨t3,k3,x3⟩:=q;simp only at q0;have hbad:iO s i k=((t1==t3) && (t1 !=t2)):=by
      unfold iO;rw[HO.out.1,HO.out.2,hq]
     have L0:=Later.cell ((hb1.cell (p:=⟨b,off+i*3,none⟩) (by simpa using hbl)).trans c0)
     have L1:=Later.cell ((hb1.cell (p:=⟨b,off+(i+1)*3,none⟩) (by simpa using hbl)).trans d0)
     have L2:=Later.cell q0;have HBAD:=ah hbad;have jX:=ah hrow;clear hbad hrow iM hq q0;have hkn:(k:Int)< (n:Int):=by omega
     have hin:(i:Int)< (n:Int):=by omega
     have hrow':Hid (((t1==t3) && (t1 !=t2))=false-> ∀b,i+2<=b->b<k+1->b<n->iO s i b=false):=fun h b h1 h2 h3=>by
      by_cases hbk:b=k
      .subst hbk;rw[HBAD.out];exact h
      .exact jX.out b h1 (by omega) h3
     by_cases g1:t1=t3
     .by_cases g2:t1=t2
      .have hr:=ah (hrow'.out (by simp[g2]))
       clear jX hrow';go_wp2_with fail
       refine aQ ?_;repeat(go_big_quiet_step (fail))
       refine wpQuiet_nil ?_;rintro _ ⟨u,rfl⟩;have hbu:=hb1.trans (u.2.mono hb1.size);go_wp2_with fail
       go_roundw
       case rel=>exact⟨k+1,by omega,by omega,by go_num,hbu,hr.out⟩
       case measure=>simp[intOf];omega
      .have hz:Hid (rV s=false):=yH (i:=i) (k:=k) (by omega) hik (by rw[HBAD.out];simp[g1];simpa[g1] using g2)
       clear jX hrow';go_wp2_with fail
       refine aQ ?_;repeat(go_big_quiet_step (fail))
       refine wpQuiet_nil ?_;rintro _ ⟨u,rfl⟩;have hbu:=hb.trans ((hb1.trans (u.2.mono hb1.size)).mono hb.size);go_wp2_with fail
       go_ret;exact⟨aI hz.out.symm,hbu⟩
     .have hr:=ah (hrow'.out (by simp[g1]))
      have g1':(t1==t3)=false:=by simpa using g1
      clear jX hrow';go_wp2_with fail
      refine aQ ?_;repeat(go_big_quiet_step (fail))
      refine wpQuiet_nil ?_;rintro _ ⟨u,rfl⟩;have hbu:=hb1.trans (u.2.mono hb1.size);go_wp2_with fail
      go_roundw
      case rel=>exact⟨k+1,by omega,by omega,by go_num,hbu,hr.out⟩
      case measure=>simp[intOf];omega
    .have hs:Hid (∀a b,a<i+1->a+2<=b->b<n->iO s a b=false):=fun a b h1 h2 h3=>by
      by_cases ha:a=i
      .subst ha;exact hrow b h2 (by omega) h3
      .exact kJ.out a b (by omega) h2 h3
     clear hrow;go_wp2_with fail
     go_roundw
     case rel=>exact⟨i+1,by omega,by go_num,hb.trans (hb1.mono hb.size),hs.out⟩
     case measure=>simp[intOf];omega
  .have hz:Hid (rV s=true):=A9 fun a b h1 h2=>hno a b (by omega) h2 (by omega)
   clear hno;go_wp2_with fail
   go_ret;exact⟨aI hz.out.symm,hb⟩
theorem Mf {s:List ay}(h:jk s=true):s.Pairwise (fun a b=>fG s a.tx<=fG s b.tx):=by
 rw[List.pairwise_iff_getElem];intro i j hi hj hij;have ei:s[i]? =some s[i] :=List.getElem?_eq_getElem hi;have ej:s[j]? =some s[j] :=List.getElem?_eq_getElem hj;rcases Nat.lt_or_ge (fG s s[j].tx) (fG s s[i].tx) with hlt|hge
 .exfalso
  obtain⟨q,hq,e⟩:=vg (List.mem_of_getElem? ej);have hle:=Pf ei;have:=AX h hq ej e i s[i] (by omega) (by omega) ei
  rw[this,e] at hlt;omega
 .exact hge
def Cf (L:List ay)(t u:Int):Prop:= ∃ (i k:Nat) (a b:ay),i<k/\L[i]? =some a/\L[k]? =some b/\fH a b=true/\a.tx=t/\b.tx=u
def ZR (L:List ay):Prop:= ∀o∈L,0<=o.tx/\o.tx<=3
theorem PE {L:List ay}(hr:ZR L){i:Nat}{a:ay}(ha:0<=a.tx/\a.tx<=3){rows:List Nat}(h4:dA rows)(q:Nat){t u:Nat}(hq:i+1+q<=L.length):
 ((kI L i a rows q).getD t 0).testBit u=true↔(rows.getD t 0).testBit u=true\/ ∃ (d:Nat) (b:ay),d<q/\L[i+1+d]? =some b/\fH a b=true/\a.tx=t/\b.tx=u:=by
 induction q with
 |zero=>
  rw[DI];constructor
  .exact .inl
  .rintro(h|⟨d,b,hd,_⟩)
   .exact h
   .omega
 |succ q ih=>
  have ih:=ih (by omega)
  have e:L[i+1+q]? =some (L[i+1+q]'(by omega)):=List.getElem?_eq_getElem (by omega)
  generalize L[i+1+q]'(by omega)=b at e
  have hb:=hr b (List.mem_of_getElem? e);rw[xB e];unfold ug;have h4':=yF hr (i:=i) (a:=a) h4 q;obtain⟨T,hT⟩:=Int.eq_ofNat_of_zero_le ha.1;obtain⟨U,hU⟩:=Int.eq_ofNat_of_zero_le hb.1;constructor
  .intro h;split at h
   .rename_i hc
    rw[hT,hU,kE h4' (by omega),Bool.or_eq_true,ih] at h
    rcases h with(h|⟨d,b',hd,r⟩)|h
    .exact .inl h
    .exact .inr ⟨d,b',by omega,r⟩
    .simp only[Bool.and_eq_true,decide_eq_true_eq] at h;exact .inr ⟨q,b,by omega,e,hc,by omega,by omega⟩
   .rcases ih.1 h with h|⟨d,b',hd,r⟩
    .exact .inl h
    .exact .inr ⟨d,b',by omega,r⟩
  .intro h;have old:(rows.getD t 0).testBit u=true\/(∃ (d:Nat) (b:ay),d<q/\L[i+1+d]? =some b/\fH a b=true/\a.tx=t/\b.tx=u)\/(fH a b=true/\a.tx=t/\b.tx=u):=by
    rcases h with h|⟨d,b',hd,h1,r⟩
    .exact .inl h
    .by_cases hdq:d=q
     .subst hdq;rw[e] at h1;injection h1 with h1;subst h1;exact .inr (.inr r)
     .exact .inr (.inl ⟨d,b',by omega,h1,r⟩)
   split
   .rw[hT,hU,kE h4' (by omega),Bool.or_eq_true,ih]
    rcases old with h|h|⟨_,h1,h2⟩
    .exact .inl (.inl h)
    .exact .inl (.inr h)
    .right
     simp only[Bool.and_eq_true,decide_eq_true_eq];omega
   .rename_i hc
    rw[ih];rcases old with h|h|⟨h1,_⟩
    .exact .inl h
    .exact .inr h
    .exact absurd h1 hc
theorem SI {L:List ay}(hr:ZR L)(m:Nat)(hm:m<=L.length){t u:Nat} :
 ((jv L m).getD t 0).testBit u=true↔ ∃ (i k:Nat) (a b:ay),i<m/\i<k/\L[i]? =some a/\L[k]? =some b/\fH a b=true/\a.tx=t/\b.tx=u:=by
 induction m with
 |zero=>
  constructor
  .intro h;exfalso
   have: ∀t:Nat,([0,0,0,0] :List Nat).getD t 0=0:=by
    intro t;rcases(by omega:t=0\/t=1\/t=2\/t=3\/4<=t) with rfl|rfl|rfl|rfl|h
    .rfl
    .rfl
    .rfl
    .rfl
    .rw[List.getD_eq_getElem?_getD,List.getElem?_eq_none (by simpa using h)];rfl
   simp only[jv] at h;rw[this] at h;simp at h
  .rintro⟨i,k,a,b,h,_⟩;omega
 |succ m ih=>
  have ih:=ih (by omega)
  have e:L[m]? =some (L[m]'(by omega)):=List.getElem?_eq_getElem (by omega)
  generalize L[m]'(by omega)=a at e
  rw[zI e,PE hr (hr a (List.mem_of_getElem? e)) (vB hr m) _ (by omega),ih]
  constructor
  .rintro(⟨i,k,a',b,h1,r⟩|⟨d,b,hd,hb,r⟩)
   .exact⟨i,k,a',b,by omega,r⟩
   .exact⟨m,m+1+d,a,b,by omega,by omega,e,hb,r⟩
  .rintro⟨i,k,a',b,h1,h2,h3,h4,r⟩;by_cases hi:i=m
   .subst hi;rw[e] at h3;injection h3 with h3;subst h3;have hk:=(List.getElem?_eq_some_iff.1 h4).1;exact .inr ⟨k- (i+1),b,by omega,by rw[show i+1+(k- (i+1))=k by omega];exact h4,r⟩
   .exact .inl ⟨i,k,a',b,by omega,h2,h3,h4,r⟩
theorem VX {L:List ay}(hr:ZR L){t u:Nat} :((qA L).getD t 0).testBit u=true↔Cf L t u:=by
 unfold qA;rw[SI hr _ aj];constructor
 .rintro⟨i,k,a,b,_,r⟩;exact⟨i,k,a,b,r⟩
 .rintro⟨i,k,a,b,h,h2,r⟩;exact⟨i,k,a,b,(List.getElem?_eq_some_iff.1 h2).1,h,h2,r⟩
theorem Cf.ne {L:List ay}{t u:Int}(h:Cf L t u):t≠u:=by
 obtain⟨i,k,a,b,_,_,_,hc,rfl,rfl⟩:=h;unfold fH at hc;simp only[Bool.and_eq_true,bne_iff_ne] at hc;exact hc.1.1.1.1
theorem VY {L:List ay}(hr:ZR L){t u:Int}(ht:0<=t)(hu:0<=u):cB (qA L) t u=true↔Cf L t u:=by
 obtain⟨T,rfl⟩:=Int.eq_ofNat_of_zero_le ht;obtain⟨U,rfl⟩:=Int.eq_ofNat_of_zero_le hu;unfold cB;rw[Int.toNat_natCast,Int.toNat_natCast];exact VX hr
theorem Ou {L:List ay}(hr:ZR L){t:Int}(ht:0<=t):cB (qA L) t t=false:=by
 cases h:cB (qA L) t t
 .rfl
 .exact absurd rfl ((VY hr ht ht).1 h).ne
def JY (s:List ay):List (List Int):=Ih (ji (committed s)) (qA (committed s))
def jY (s:List ay):List (List Int):=ql (ji (committed s)) (qA (committed s)) (ji (committed s)).length []
theorem yI {s:List ay}{o:ay}(h:o∈committed s):o∈s:=(List.mem_filter.1 h).1
theorem um {s:List ay}(h:aF s=true):ZR (committed s):=fun o ho=>rD h (yI ho)
theorem rW (s:List ay): ∀t∈ji s,0<=t/\t<=3:=fun t ht=>by
 unfold ji at ht;have:=(List.mem_filter.1 ht).1;simp at this;omega
theorem PG {s:List ay}(h:aF s=true): ∀t∈ji (committed s),cB (qA (committed s)) t t=false:=fun t ht=>Ou (um h) (rW _ t ht).1
theorem Ch {s:List ay}(h:aF s=true):JY s=jY s:=Yt (JG _) (PG h)
def zJ (R:List Nat):Nat->List Int->List Int->Int->List Int
 |0,_,best,_=>best
 |m+1,path,best,t=>
  [0,1,2,3].foldl (fun b u=>if cB R t u&&decide ((path++ [t]).headD 0<u) && !((path++ [t]).any fun y=>y==u) then zJ R m (path++ [t]) b u else b)
   (if cB R t ((path++ [t]).headD 0) && (best.isEmpty||decide ((path++ [t]).length<best.length)) then path++ [t] else best)
def xC (R:List Nat):List Int:= [0,1,2,3].foldl (fun b t=>zJ R 4 [] b t) []
def gq:List (List Int)->List Int
 | [] => []
 |x::r=>if x.isEmpty then gq r else x
def zK (R:List Nat):Nat->List Int->List Int
 |0,head=>if cB R (head.getLastD 0) (head.headD 0) then head else []
 |m+1,head=>gq ([0,1,2,3].map fun t=>if decide (head.headD 0<t) && !(head.any fun y=>y==t) &&cB R (head.getLastD 0) t then zK R m (head++ [t]) else [])
def fI (R:List Nat):List Int:=gq ([1,2,3].flatMap fun m=> [0,1,2,3].map fun t=>zK R m [t])
def Ii (R:List Nat)(c:List Int):Bool:=decide (2<=c.length) && (List.range c.length).all fun i=>
 cB R (c.getD i 0) (c.getD ((i+1) % c.length) 0) &&decide (c.headD 0<=c.getD i 0) && !((c.take i).any fun y=>y==c.getD i 0) &&decide (0<=c.getD i 0) &&decide (c.getD i 0<=3)
def abA (R:List Nat):Bool:=(List.range 15).all fun m=>(List.range 4).any fun t=>(m+1).testBit t&& (List.range 4).all fun v=> !((m+1).testBit v)|| !cB R (v:Int) (t:Int)
def JZ (R:List Nat):Bool:=(xC R==fI R) && (if(fI R).isEmpty then abA R else Ii R (fI R)) &&decide ((fI R).length<=4)
def E8 (a:Nat):Bool:=(List.range 16).all fun b=>b.testBit 1||(List.range 16).all fun c=>c.testBit 2||(List.range 16).all fun d=>d.testBit 3||JZ [a,b,c,d]
theorem abC:E8 0=true:=by decide+kernel
theorem abD:E8 2=true:=by decide+kernel
theorem abE:E8 4=true:=by decide+kernel
theorem abF:E8 6=true:=by decide+kernel
theorem abG:E8 8=true:=by decide+kernel
theorem aaj:E8 10=true:=by decide+kernel
theorem aak:E8 12=true:=by decide+kernel
theorem aal:E8 14=true:=by decide+kernel
theorem SK {f:Nat->Bool}(h:(List.range 16).all f=true){a:Nat}(ha:a<16):f a=true:=List.all_eq_true.1 h a (List.mem_range.2 ha)
theorem Mg {R:List Nat}(h4:dA R)(hd: ∀t:Nat,t<4->(R.getD t 0).testBit t=false):JZ R=true:=by
 obtain⟨hl,hr⟩:=h4
 match R,hl with
 | [a,b,c,d],_=>
  have ha:=hr a (by simp)
  have hb:=hr b (by simp)
  have hc:=hr c (by simp)
  have hdd:=hr d (by simp)
  have da:=hd 0 (by omega)
  have db:=hd 1 (by omega)
  have dc:=hd 2 (by omega)
  have de:=hd 3 (by omega)
  simp only[List.getD_cons_zero,List.getD_cons_succ] at da db dc de;have hA:E8 a=true:=by
   have ha2:a % 2=0:=by
    rw[Nat.testBit_zero] at da;simp at da;omega
   rcases(by omega:a=0\/a=2\/a=4\/a=6\/a=8\/a=10\/a=12\/a=14) with rfl|rfl|rfl|rfl|rfl|rfl|rfl|rfl
   .exact abC
   .exact abD
   .exact abE
   .exact abF
   .exact abG
   .exact aaj
   .exact aak
   .exact aal
  unfold E8 at hA;have h1:=SK hA hb;rw[db,Bool.false_or] at h1;have h2:=SK h1 hc;rw[dc,Bool.false_or] at h2;have h3:=SK h2 hdd;rw[de,Bool.false_or] at h3;exact h3
theorem DL {R:List Nat}(hd: ∀t:Int,0<=t->cB R t t=false): ∀t:Nat,t<4->(R.getD t 0).testBit t=false:=fun t _=>by
 have:=hd (t:Int) (by omega)
 unfold cB at this;rw[Int.toNat_natCast] at this;exact this
theorem SL {R:List Nat}(h4:dA R)(hd: ∀t:Int,0<=t->cB R t t=false):xC R=fI R:=by
 have:=Mg h4 (DL hd);unfold JZ at this;simp only[Bool.and_eq_true,beq_iff_eq] at this;exact this.1.1
theorem vC {R:List Nat}(h4:dA R)(hd: ∀t:Int,0<=t->cB R t t=false):(fI R).length<=4:=by
 have:=Mg h4 (DL hd);unfold JZ at this;simp only[Bool.and_eq_true,decide_eq_true_eq] at this;exact this.2
theorem Gh {R:List Nat}(h4:dA R)(hd: ∀t:Int,0<=t->cB R t t=false)(h:fI R≠ []):Ii R (fI R)=true:=by
 have:=Mg h4 (DL hd);unfold JZ at this;simp only[Bool.and_eq_true] at this;have:=this.1.2;rw[if_neg (by simpa using h)] at this
 exact this
theorem Yu {R:List Nat}(h4:dA R)(hd: ∀t:Int,0<=t->cB R t t=false)(h:fI R≠ []){i:Nat}(hi:i< (fI R).length):
 2<=(fI R).length/\cB R ((fI R).getD i 0) ((fI R).getD ((i+1) % (fI R).length) 0)=true/\(fI R).headD 0<=(fI R).getD i 0/\(((fI R).take i).any fun y=>y==(fI R).getD i 0)=false/\0<=(fI R).getD i 0/\(fI R).getD i 0<=3:=by
 have hb:=Gh h4 hd h;generalize fI R=c at*;unfold Ii at hb;rw[Bool.and_eq_true,decide_eq_true_eq,List.all_eq_true] at hb;have h3:=hb.2 i (List.mem_range.2 hi);simp only[Bool.and_eq_true,decide_eq_true_eq,Bool.not_eq_true'] at h3;exact⟨hb.1,h3.1.1.1.1,h3.1.1.1.2,h3.1.1.2,h3.1.2,h3.2⟩
end Go.Proofs.YtddkjbibjjehjaaGreatDoor
