/-
  Texts that the proof rests on, joined: part 7.
-/
import Derived.Shelf.Strings.OnBuilder
import Derived.Test.YtddkjbibjjehjaaGreatDoorSXr6
set_option maxHeartbeats 16000000
set_option maxRecDepth 100000
namespace Go.Proofs.YtddkjbibjjehjaaGreatDoor
open Go.RowKit Go.BigFrame
set_option linter.unusedVariables false
def fF (xs:List ay):Prop:= ∀o∈xs,aJ o=true
theorem Oi:fF [] :=fun o h=>by cases h
theorem Du {xs:List ay}{o:ay}(h:fF xs)(ho:aJ o=true):fF (xs++ [o]):=fun q hq=>by
 rcases List.mem_append.1 hq with h1|h1
 .exact h q h1
 .rw[List.mem_singleton.1 h1];exact ho
theorem VO {xs ys:List ay}(h:fF xs)(h':fF ys):fF (xs++ys):=fun q hq=>by
 rcases List.mem_append.1 hq with h1|h1
 .exact h q h1
 .exact h' q h1
theorem Sn {xs:List ay}(h:fF xs)(k:Nat):fF (xs.drop k):=fun q hq=>h q (List.mem_of_mem_drop hq)
theorem JO {xs:List ay}(h:fF xs)(k:Nat):fF (xs.take k):=fun q hq=>h q (List.mem_of_mem_take hq)
theorem Pp {t k x:Int}(ht:0<=t/\t<=3)(hk:k∈([0,1,0,1] :List Int)){m:Int}(hx:0<=x/\x<m)(hm:m<=3):aJ ⟨t,k,x⟩=true:=by
 simp only[List.mem_cons,List.not_mem_nil,or_false] at hk;have hx2:x<=2:=by omega
 rcases hk with rfl|rfl|rfl|rfl<;>simp[aJ,xW,bU,aK,ht.1,ht.2,hx.1,hx2]
theorem F8 {t k:Int}(ht:0<=t/\t<=3)(hk:k∈([2,2,2,2,2,3] :List Int)):aJ ⟨t,k,0⟩=true:=by
 simp only[List.mem_cons,List.not_mem_nil,or_false] at hk;rcases hk with rfl|rfl|rfl|rfl|rfl|rfl<;>simp[aJ,xW,bU,aK,ht.1,ht.2]
def oD (w:World)(lo hi:Nat)(v:Value):Prop:=
 ∃ (A:Option Addr) (n c:Nat) (xs:List ay),v=.slice A n c/\n<=c/\n<=5/\(aC w A n xs/\fF xs)/\
  ∀ad,A=some ad->lo<=ad.block/\ad.block<hi/\ ∃cs fr,w.heap[ad.block]? =some (.cells cs 89 fr)
def jU (w:World)(lo hi:Nat)(vs:List Value):Prop:= ∀v∈vs,oD w lo hi v
theorem oD.keep {w w':World}{lo hi:Nat}{v:Value}(h:oD w lo hi v)(hk: ∀b,lo<=b->b<hi->(∃cs fr,w.heap[b]? =some (.cells cs 89 fr))->w'.heap[b]? =w.heap[b]?)
 (hs:w.heap.size<=w'.heap.size):oD w' lo hi v:=by
 obtain⟨A,n,c,xs,hv,hnc,hn,⟨⟨h1,h2,h3⟩,hit⟩,hA⟩:=h;refine⟨A,n,c,xs,hv,hnc,hn,⟨⟨h1,h2,fun h0=>?_⟩,hit⟩,fun ad had=>?_⟩
 .obtain⟨b,off,rfl,hb,hc⟩:=h3 h0;obtain⟨a1,a2,a3⟩:=hA _ rfl;have hh:=hk b a1 a2 a3;refine⟨b,off,rfl,by omega,fun i o ho=>?_⟩
  obtain⟨c0,c1,c2⟩:=hc i o ho;exact⟨(World.cell?_of_block (w:=w) (a:=⟨b,_,none⟩) hh).trans c0,(World.cell?_of_block (w:=w) (a:=⟨b,_,none⟩) hh).trans c1,(World.cell?_of_block (w:=w) (a:=⟨b,_,none⟩) hh).trans c2⟩
 .obtain⟨a1,a2,cs,fr,a3⟩:=hA _ had;exact⟨a1,a2,cs,fr,(hk _ a1 a2 ⟨cs,fr,a3⟩).trans a3⟩
theorem oD.wider {w:World}{lo hi hi':Nat}{v:Value}(h:oD w lo hi v)(hh:hi<=hi'):oD w lo hi' v:=by
 obtain⟨A,n,c,xs,hv,hnc,hn,hr,hA⟩:=h;exact⟨A,n,c,xs,hv,hnc,hn,hr,fun ad had=>⟨(hA ad had).1,by have:=(hA ad had).2.1;omega,(hA ad had).2.2⟩⟩
theorem jU.keep {w w':World}{lo hi:Nat}{vs:List Value}(h:jU w lo hi vs)(hk: ∀b,lo<=b->b<hi->(∃cs fr,w.heap[b]? =some (.cells cs 89 fr))->w'.heap[b]? =w.heap[b]?)
 (hs:w.heap.size<=w'.heap.size):jU w' lo hi vs:=fun v hv=>(h v hv).keep hk hs
theorem oD.aH {w:World}{lo base c n:Nat}{A:Option Addr}{xs:List ay}(h:w.ownsRow base 89 3 (.slice A n c) n (aB xs))(hlo:lo<=base)(hn:n<=5)(hit:fF xs):oD w lo w.heap.size (.slice A n c):=by
 refine⟨A,n,c,xs,rfl,?_,hn,⟨aC.aH h (by omega),hit⟩,fun ad had=>?_⟩
 .rcases h.2 with⟨h1,h2⟩|⟨g,cap,cur,h1,h2,h3,h4,h5,h6,h7⟩
  .omega
  .injection h1 with _ _ hc;subst hc;exact h4
 .subst had;rcases h.2 with⟨h1,h2⟩|⟨g,cap,cur,h1,h2,h3,h4,h5,h6,h7⟩
  .cases h1
  .injection h1 with ha _ _;injection ha with ha;subst ha;exact⟨by simp;omega,lt_of_block h3,cur,_,h3⟩
theorem jU.only {w w':World}{rb lo hi:Nat}{vs:List Value}(h:jU w lo hi vs)(ho:Only rb w w')(hhi:hi<=w.heap.size)(hrb:rb<lo):jU w' lo hi vs:=
 h.keep (fun b h1 h2 _=>ho.heap (by omega) (by omega)) ho.size
theorem jU.grown {w w':World}{lo hi L:Nat}{vs:List Value}{size n:Nat}{v:Value}{xs:List Value}(h:jU w lo hi vs)(hown:w.ownsRow L 47 size v n xs)(hg:w.grownBy w' v.ownBlock)(hhi:hi<=w.heap.size):jU w' lo hi vs:=by
 refine h.keep (fun b h1 h2 h3=>hg.block b (by omega) (fun e=>?_)) hg.size
 obtain⟨cs,fr,h3⟩:=h3;rcases hown.2 with⟨h4,h5⟩|⟨g,cap,cur,h4,_,h6,_⟩
 .rw[h4] at e;simp[Value.ownBlock] at e
 .rw[h4] at e;simp[Value.ownBlock] at e;subst e;rw[h3] at h6;injection h6 with h6;injection h6 with _ h6 _;exact absurd h6 (by decide)
def Sq (ws:World)(rb p0:Nat)(v:Value)(k left:Int)(w:World):Prop:=
 ∃ (n:Nat) (xs:List ay) (p:Nat),w.ownsRow ws.heap.size 89 3 v n (aB xs)/\0<=k/\n+k.toNat<=4/\0<=left/\left<=16/\Rd w rb p/\p<=p0+2*n/\Only rb ws w/\fF xs
def Ia (w0:World)(rb p0:Nat)(v:Value)(left:Int)(vs:List Value)(w:World):Prop:=
 ∃p:Nat,w.ownsRow w0.heap.size 47 1 v vs.length vs/\vs.length<=4/\jU w w0.heap.size w.heap.size vs/\0<=left/\left<=16/\Rd w rb p/\p<=p0+20*vs.length/\Only rb w0 w
def Pq (w0:World)(rb p0:Nat)(e:Ending)(w:World):Prop:=
 ∃ (v:Value) (vs:List Value) (left:Int),e=.returned v/\Ia w0 rb p0 v left vs w
theorem kG {w0 wr w w1 w':World}{rb p0 p' n:Nat}{v lv v':Value}{vs:List Value}{xs:List ay}{left:Int}(hown:wr.ownsRow w0.heap.size 47 1 v vs.length vs)
 (hrows:jU wr w0.heap.size wr.heap.size vs) (hO:Only rb w0 wr) (hrb:rb<w0.heap.size) (hO3:Only rb wr w) (hl:w.ownsRow wr.heap.size 89 3 lv n (aB xs)) (hn:n<=5) (hit:fF xs)
 (ob:Obj) (hw1:w1=w.alloc ob) (hown':w'.ownsRow w0.heap.size 47 1 v' (vs.length+1) (vs++ [lv])) (hg:w1.grownBy w' v.ownBlock) (hr:Rd w rb p') (hv:vs.length<4)
 (h0:0<=left) (h1:left<=16) (hp:p'<=p0+20*(vs.length+1)):Ia w0 rb p0 v' left (vs++ [lv]) w':=by
 have hsz:=hO.size;have acf:=hO3.size;have Oj:w1.ownsRow w0.heap.size 47 1 v vs.length vs:=by rw[hw1];exact World.ownsRow.alloc (bN hown hO3 hrb) _
 have hsz1:w1.heap.size=w.heap.size+1:=by rw[hw1];simp
 obtain⟨A,c,rfl⟩:=f_ hl;have hlv:oD w w0.heap.size w.heap.size (.slice A n c):=oD.aH hl (by omega) hn hit
 have hlv1:jU w1 w0.heap.size w.heap.size [.slice A n c] :=by
  intro u hu;simp at hu;subst hu;rw[hw1];exact hlv.keep (fun b h1 h2 _=>Below.heap_alloc _ _ _ h2) (by simp)
 have hlv2:=hlv1.grown Oj hg (by omega)
 have abr:jU w1 w0.heap.size wr.heap.size vs:=by
  rw[hw1];exact(hrows.only hO3 aj hrb).keep (fun b h1 h2 _=>Below.heap_alloc _ _ _ (by omega)) (by simp)
 have abt:=abr.grown Oj hg (by omega)
 have hgs:=hg.size;refine⟨p',by simpa using hown',by simp;omega,?_,h0,h1,?_,by simp;omega,?_⟩
 .intro u hu;simp only[List.mem_append,List.mem_singleton] at hu;rcases hu with hu|hu
  .exact(abt u hu).wider (by omega)
  .exact(hlv2 u (by simp[hu])).wider (by omega)
 .exact Rd.grown (w:=w1) (by rw[hw1];exact hr.alloc _) hg fun k hk=>by have:=(World.ownsRow.lt Oj k hk).1;omega
 .have:Only rb w0 w1:=by rw[hw1];exact(hO.trans hO3).alloc _
  exact this.own Oj aj hg
theorem EX (B:Nat)(hB:B<=60000)(rb p most:Nat)(w0:World)(h:Rd w0 rb p)(hp:p<=B)(hm:most<=16):
 Calls Tryz.prog 46 #[.pointer (some ⟨rb,0,none⟩),.int .i64 (most:Int)] w0 (Pq w0 rb (p+2)):=by
 have hlt:=h.lt;go_enter Tryz.func46,Tryz.ntmps46;go_wp2_with fail
 refine(pG rb p _ _ _ _ _ ((h.alloc _).alloc _) (by omega) (aae (by simp) 2 3 1) (by omega) (pI (by omega))).mono ?_
 rintro e w1 ⟨items,rfl,hi,hr1,ho1⟩;go_wp2_with fail
 have hlt1:=hr1.lt;refine(pG rb _ _ _ _ _ _ (hr1.alloc _) (by omega) (abq rfl 3 2 4 3 1) (by omega) (pI hlt1)).mono ?_
 rintro e w2 ⟨n,rfl,hn,hr2,ho2⟩;have hown:w2.ownsRow w0.heap.size 47 1 (.slice (some ⟨w0.heap.size,0,none⟩) 0 0) 0 [] :=
  bN (World.ownsRow.alloc (bN (World.ownsRow.alloc (World.ownsRow_made w0 #[] 0 aj (by decide) rfl) _) ho1 hlt) _) ho2 hlt
 have hO:Only rb w0 w2:=(((Only.refl rb w0).alloc _).alloc _).trans ho1|>.trans (((Only.refl rb w1).alloc _).trans ho2)
 have Pt:1<=n/\n<=4:=by simp at hn;omega
 have hi4:1<=items/\items<=3:=by simp at hi;omega
 have HST:Hid (Ia w0 rb (p+2) (.slice (some ⟨w0.heap.size,0,none⟩) 0 0) (most:Int) [] w2):=
  ⟨p+1+1,hown,by simp,by intro v hv;simp at hv,by omega,by omega,hr2,by simp,hO⟩
 clear hown hO hr2 hr1 ho1 ho2 hn hi;go_wp2_with fail
 go_loopw [5,6] (fun v l w=> ∃ (left:Int) (vs:List Value),l=.int .i64 left/\(vs.length:Int)<=n/\Ia w0 rb (p+2) v left vs w) (fun v _ _=>4-lenOf v)
 case atStart=>exact⟨(most:Int),[],rfl,by simp;try omega,HST.out⟩
 case round=>
  obtain⟨wo,rfl⟩: ∃wo:World,wo=wr:=⟨_,rfl⟩;obtain⟨left,vs,rfl,hvn,q,hown,hv4,hrows,hl0,hl1,hr,hq,hO⟩:=hrel;obtain⟨A,c,rfl⟩:=f_ hown;have hlr:=hr.lt;by_cases hlen:(vs.length:Int)<n
  .go_wp2_with fail
   refine(pG rb q _ _ _ _ _ ((hr.alloc _).alloc _) (by omega) (Yc (by simp) 2 3 1 4) (by omega) (pI (by omega))).mono ?_
   rintro e w3 ⟨k,rfl,hk,hr3,ho3⟩;have hk4:1<=k/\k<=4:=by simp at hk;omega
   have HIN:Hid (Sq wo rb (q+1) (.slice (some ⟨wo.heap.size,0,none⟩) 0 0) k left w3):=
    ⟨0,[],q+1,bN (World.ownsRow.alloc (World.ownsRow_made wo #[] 0 aj (by decide) rfl) _) ho3 hlr,by omega,by omega,hl0,hl1,hr3,by omega,
     (((Only.refl rb wo).alloc _).alloc _).trans ho3,Oi⟩
   have lM:=ah (And.intro hown (And.intro hrows (And.intro hO hr)));clear hown hrows hO hr hr3 ho3 hk;go_wp2_with fail
   go_loopw [6,10,11] (fun l v k w=> ∃ (left k':Int),l=.int .i64 left/\k=.int .i64 k'/\Sq wo rb (q+1) v k' left w) (fun _ _ k _=>(intOf k).toNat)
   case atStart=>exact⟨left,k,rfl,rfl,HIN.out⟩
   case round=>
    clear HIN;obtain⟨left,k,rfl,rfl,nx,xs,q3,hown,hk0,hk1,hl0,hl1,hr,hq3,hO,L6⟩:=hrel;by_cases hkk:0<k
    .by_cases hll:1<left
     .go_wp2_with fail
      have abu:=hr.lt;refine(pG rb _ _ _ _ _ _ (hr.alloc _) (by omega) (Yc rfl 0 1 0 1) (by omega) (pI abu)).mono ?_
      rintro e w4 ⟨kd,rfl,hkd,hr4,Ce⟩;go_wp2_with fail
      refine(jo rb _ items _ hr4 (by omega) (by omega)).mono ?_
      rintro e w5 ⟨it,rfl,F9,_,hit,EY⟩;have Sr:=((hO.alloc _).trans Ce).trans EY;have Dv:=ah (Pp (t:=(vs.length:Int)) (by omega) hkd (hit (by omega)) hi4.2)
      have hown5:=bN (bN (hown.alloc _) Ce hlr) EY hlr;have hs5:=Sr.size;go_wp2_with (at_builtin;refine gX (.tmp 38) (.tmp 47) (hown5.alloc _) (by simp;omega) (aC.dB _ ⟨_,_,_⟩ _) (by omega) rfl rfl rfl rfl ?_;intro v6 w6 hown6 vv EZ)
      have vW:=World.grownBy.trans (World.grownBy_alloc w5 _ _) vv;have LG:=Sr.own hown5 aj vW;have LH:=F9.grown vW fun k hk=>by have:=(World.ownsRow.lt hown5 k hk).1;omega
      go_wp2_with fail
      go_roundw
      case rel=>exact⟨left-1,k-1,rfl,rfl,nx+1,_,_,hown6,by omega,by omega,by omega,by omega,LH,by omega,LG,Du L6 Dv.out⟩
      case measure=>simp[intOf];omega
     .skip;obtain⟨Al,cl,rfl⟩:=f_ hown;by_cases hlp:0<left
      .go_wp2_with fail
       refine(jo rb _ 10 _ hr (by omega) (by omega)).mono ?_
       rintro e w4 ⟨pv,rfl,hr4,_,_,Ce⟩;have iy:=bN hown Ce hlr;have hO4:=hO.trans Ce;have Ye:=hr4.lt;have Ib:w4.ownsRow w0.heap.size 47 1 (.slice A vs.length c) vs.length vs:=bN lM.out.1 hO4 hlt;have hs4:=hO4.size;have hs0:=lM.out.2.2.1.size;by_cases hpv:0<pv
       .go_wp2_with fail
        refine(pG rb _ _ _ _ _ _ (hr4.alloc _) (by omega) (aaf rfl 2 2 2 2 2 3) (by omega) (pI Ye)).mono ?_
        rintro e w5 ⟨kd,rfl,hkd,F9,EY⟩;have hown5:=bN (iy.alloc _) EY hlr;have HVE:=ah (F8 (t:=(vs.length:Int)) (by omega) hkd)
        have Sr:=(hO4.alloc _).trans EY;have abv:=bN (Ib.alloc _) EY hlt;have hs5:=Sr.size;go_wp2_with (first|(at_builtin;refine gX (.tmp 58) (.tmp 64) (hown5.alloc _) (by simp;omega) (aC.dB _ ⟨_,_,_⟩ _) (by omega) rfl rfl rfl rfl ?_;intro v6 w6 hown6 vv EZ;obtain⟨A6,c6,rfl⟩:=f_ hown6;have vW:=World.grownBy.trans (World.grownBy_alloc w5 _ _) vv;have LG:=Sr.own hown5 aj vW;have LH:=F9.grown vW (fun k hk=>by have:=(World.ownsRow.lt hown5 k hk).1;omega);have Yf:=bN lM.out.1 LG hlt;have hs6:=LG.size)|(at_builtin;refine vo (.tmp 68) (.tmp 70) (Yf.alloc _) (by simp;omega) (vk hown6) (heap_alloc_new _ _) (by omega) rfl rfl rfl rfl ?_;intro v7 w7 tY tZ))
        have hout:=kG (left:=left-1) (p0:=p+2) lM.out.1 lM.out.2.1 lM.out.2.2.1 hlt LG hown6 (by omega) (Du L6 HVE.out) _ rfl tY tZ LH (by omega) (by omega) (by omega) (by omega)
        go_wp2_with fail
        go_roundw
        case rel=>exact⟨left-1,vs++ [_],rfl,by simp;omega,hout⟩
        case measure=>obtain⟨q7,h7,_⟩:=hout;obtain⟨A7,c7,rfl⟩:=f_ h7;simp[lenOf];omega
       .go_wp2_with (at_builtin;refine vo (.tmp 68) (.tmp 70) (Ib.alloc _) (by simp;omega) (vk iy) (heap_alloc_new _ _) (by omega) rfl rfl rfl rfl ?_;intro v7 w7 tY tZ)
        have hout:=kG (left:=left) (p0:=p+2) lM.out.1 lM.out.2.1 lM.out.2.2.1 hlt hO4 iy (by omega) L6 _ rfl tY tZ hr4 (by omega) (by omega) (by omega) (by omega)
        go_wp2_with fail
        go_roundw
        case rel=>exact⟨left,vs++ [_],rfl,by simp;omega,hout⟩
        case measure=>obtain⟨q7,h7,_⟩:=hout;obtain⟨A7,c7,rfl⟩:=f_ h7;simp[lenOf];omega
      .have Ib:wr.ownsRow w0.heap.size 47 1 (.slice A vs.length c) vs.length vs:=bN lM.out.1 hO hlt;have hs4:=hO.size;have hs0:=lM.out.2.2.1.size;go_wp2_with (at_builtin;refine vo (.tmp 68) (.tmp 70) (Ib.alloc _) (by simp;omega) (vk hown) (heap_alloc_new _ _) (by omega) rfl rfl rfl rfl ?_;intro v7 w7 tY tZ)
       have hout:=kG (left:=left) (p0:=p+2) lM.out.1 lM.out.2.1 lM.out.2.2.1 hlt hO hown (by omega) L6 _ rfl tY tZ hr (by omega) (by omega) (by omega) (by omega)
       go_wp2_with fail
       go_roundw
       case rel=>exact⟨left,vs++ [_],rfl,by simp;omega,hout⟩
       case measure=>obtain⟨q7,h7,_⟩:=hout;obtain⟨A7,c7,rfl⟩:=f_ h7;simp[lenOf];omega
    .skip;obtain⟨Al,cl,rfl⟩:=f_ hown;by_cases hlp:0<left
     .go_wp2_with fail
      refine(jo rb _ 10 _ hr (by omega) (by omega)).mono ?_
      rintro e w4 ⟨pv,rfl,hr4,_,_,Ce⟩;have iy:=bN hown Ce hlr;have hO4:=hO.trans Ce;have Ye:=hr4.lt;have Ib:w4.ownsRow w0.heap.size 47 1 (.slice A vs.length c) vs.length vs:=bN lM.out.1 hO4 hlt;have hs4:=hO4.size;have hs0:=lM.out.2.2.1.size;by_cases hpv:0<pv
      .go_wp2_with fail
       refine(pG rb _ _ _ _ _ _ (hr4.alloc _) (by omega) (aaf rfl 2 2 2 2 2 3) (by omega) (pI Ye)).mono ?_
       rintro e w5 ⟨kd,rfl,hkd,F9,EY⟩;have hown5:=bN (iy.alloc _) EY hlr;have HVE:=ah (F8 (t:=(vs.length:Int)) (by omega) hkd)
       have Sr:=(hO4.alloc _).trans EY;have abv:=bN (Ib.alloc _) EY hlt;have hs5:=Sr.size;go_wp2_with (first|(at_builtin;refine gX (.tmp 58) (.tmp 64) (hown5.alloc _) (by simp;omega) (aC.dB _ ⟨_,_,_⟩ _) (by omega) rfl rfl rfl rfl ?_;intro v6 w6 hown6 vv EZ;obtain⟨A6,c6,rfl⟩:=f_ hown6;have vW:=World.grownBy.trans (World.grownBy_alloc w5 _ _) vv;have LG:=Sr.own hown5 aj vW;have LH:=F9.grown vW (fun k hk=>by have:=(World.ownsRow.lt hown5 k hk).1;omega);have Yf:=bN lM.out.1 LG hlt;have hs6:=LG.size)|(at_builtin;refine vo (.tmp 68) (.tmp 70) (Yf.alloc _) (by simp;omega) (vk hown6) (heap_alloc_new _ _) (by omega) rfl rfl rfl rfl ?_;intro v7 w7 tY tZ))
       have hout:=kG (left:=left-1) (p0:=p+2) lM.out.1 lM.out.2.1 lM.out.2.2.1 hlt LG hown6 (by omega) (Du L6 HVE.out) _ rfl tY tZ LH (by omega) (by omega) (by omega) (by omega)
       go_wp2_with fail
       go_roundw
       case rel=>exact⟨left-1,vs++ [_],rfl,by simp;omega,hout⟩
       case measure=>obtain⟨q7,h7,_⟩:=hout;obtain⟨A7,c7,rfl⟩:=f_ h7;simp[lenOf];omega
      .go_wp2_with (at_builtin;refine vo (.tmp 68) (.tmp 70) (Ib.alloc _) (by simp;omega) (vk iy) (heap_alloc_new _ _) (by omega) rfl rfl rfl rfl ?_;intro v7 w7 tY tZ)
       have hout:=kG (left:=left) (p0:=p+2) lM.out.1 lM.out.2.1 lM.out.2.2.1 hlt hO4 iy (by omega) L6 _ rfl tY tZ hr4 (by omega) (by omega) (by omega) (by omega)
       go_wp2_with fail
       go_roundw
       case rel=>exact⟨left,vs++ [_],rfl,by simp;omega,hout⟩
       case measure=>obtain⟨q7,h7,_⟩:=hout;obtain⟨A7,c7,rfl⟩:=f_ h7;simp[lenOf];omega
     .have Ib:wr.ownsRow w0.heap.size 47 1 (.slice A vs.length c) vs.length vs:=bN lM.out.1 hO hlt;have hs4:=hO.size;have hs0:=lM.out.2.2.1.size;go_wp2_with (at_builtin;refine vo (.tmp 68) (.tmp 70) (Ib.alloc _) (by simp;omega) (vk hown) (heap_alloc_new _ _) (by omega) rfl rfl rfl rfl ?_;intro v7 w7 tY tZ)
      have hout:=kG (left:=left) (p0:=p+2) lM.out.1 lM.out.2.1 lM.out.2.2.1 hlt hO hown (by omega) L6 _ rfl tY tZ hr (by omega) (by omega) (by omega) (by omega)
      go_wp2_with fail
      go_roundw
      case rel=>exact⟨left,vs++ [_],rfl,by simp;omega,hout⟩
      case measure=>obtain⟨q7,h7,_⟩:=hout;obtain⟨A7,c7,rfl⟩:=f_ h7;simp[lenOf];omega
  .go_wp2_with fail
   go_ret;exact⟨_,vs,left,rfl,q,hown,hv4,hrows,hl0,hl1,hr,hq,hO⟩
theorem oD.cut {w:World}{lo hi n c k:Nat}{A:Option Addr}(h:oD w lo hi (.slice A n c))(hk:k<=n):oD w lo hi (.slice (if c=k then A else A.map (·.add (k*3))) (n-k) (c-k)):=by
 obtain⟨A',n',c',xs,hv,hnc,hn,hr,hA⟩:=h;injection hv with h1 h2 h3;subst h1;subst h2;subst h3;refine⟨_,_,_,_,rfl,by omega,by omega,⟨hr.1.drop hk hnc,Sn hr.2 k⟩,fun ad had=>?_⟩
 split at had
 .exact hA _ had
 .cases A with
  |none=>cases had
  |some a=>
   simp at had;subst had;have:(a.add (k*3)).block=a.block:=by unfold Addr.add;split<;>rfl
   rw[this];exact hA _ rfl
def Sv (w0:World)(rb L P K:Nat)(lv ov:Value)(w:World):Prop:=K<=4/\
 ∃ (n:Nat) (xs:List ay) (vs:List Value) (p:Nat),w.ownsRow w0.heap.size 47 1 lv K vs/\jU w w0.heap.size L vs/\w.ownsRow L 89 3 ov n (aB xs)/\
  n+tot vs<=20/\Rd w rb p/\p<=P+4*n/\Only rb w0 w/\L<=w.heap.size/\fF xs
def Sw (ws:World)(rb p k:Nat)(vs:List Value)(sv:Value)(w:World):Prop:=
 ∃ (ts:List Int),ts.length<=k/\w.ownsRow ws.heap.size 3 1 sv ts.length (intCells ts)/\(∀x∈ts,0<=x/\ ∃A n c,vs[x.toNat]? =some (.slice A n c)/\0<n)/\Rd w rb p/\Only rb ws w
def Pv (B:Nat)(w0:World)(rb:Nat)(e:Ending)(w:World):Prop:=
 ∃ (v:Value) (n:Nat) (xs:List ay) (p:Nat),e=.returned v/\w.ownsRow w0.heap.size 89 3 v n (aB xs)/\n<=20/\Rd w rb p/\p<=(B+10000)/\Only rb w0 w/\fF xs
theorem Sy {w:World}{lo hi n c:Nat}{A:Option Addr}(h:oD w lo hi (.slice A n c)):n<=5:=by
 obtain⟨A',n',c',xs,hv,hnc,hn,_⟩:=h;injection hv with h1 h2 h3;omega
theorem Dw {w0 w w6:World}{rb L P K n nt ct k p t g cl:Nat}{ov v':Value}{vs:List Value}{xs ys:List ay}{A:Option Addr}(hrb:rb<w0.heap.size)(hK:K<=4)
 (hlv:w.ownsRow w0.heap.size 47 1 (.slice (some ⟨g,0,none⟩) K cl) K vs) (hrows:jU w w0.heap.size L vs) (hL:L<=w.heap.size) (hov:w.ownsRow L 89 3 ov n (aB xs)) (hL0:w0.heap.size<=L)
 (hsum:n+tot vs<=20) (hr:Rd w rb p) (hO:Only rb w0 w) (ht:vs[t]? =some (.slice A nt ct)) (hk1:1<=k) (hk2:k<=nt)
 (hown6:w6.ownsRow L 89 3 v' (n+k) (aB (xs++ys))) (vv:w.grownBy w6 ov.ownBlock) (hp:p<=P+4*(n+k)) (hix:fF xs) (hiy:fF ys):
 Sv w0 rb L P K (.slice (some ⟨g,0,none⟩) K cl) v' (w6.setCell ⟨g,t,none⟩ (.slice (if ct=k then A else A.map (·.add (k*3))) (nt-k) (ct-k)))/\w6.cell? ⟨g,t,none⟩=some (.slice A nt ct)/\w6.frozen? ⟨g,t,none⟩=false:=by
 have htl:t<vs.length:=by
  rcases Nat.lt_or_ge t vs.length with h|h
  .exact h
  .rw[List.getElem?_eq_none h] at ht;cases ht
 have hvl:vs.length=K:=by simpa using hlv.1
 have hg0:=World.ownsRow.lt hlv g rfl;have LG:=hO.own hov (by omega) vv
 have LH:=hr.grown vv fun j hj=>by have:=(World.ownsRow.lt hov j hj).1;omega
 have Sz:=gU hlv hov (by decide) vv
 have hs6:=vv.size;have SA:jU w6 w0.heap.size L vs:=by
  refine hrows.keep (fun b h1 h2 _=>vv.block b (by omega) (fun e=>?_)) hs6
  have:=(World.ownsRow.lt hov b e.symm).1;omega
 have hst:=Sz.stored t (.slice (if ct=k then A else A.map (·.add (k*3))) (nt-k) (ct-k))
 refine⟨⟨hK,n+k,xs++ys,vs.set t (.slice (if ct=k then A else A.map (·.add (k*3))) (nt-k) (ct-k)),p,hst.1,?_,?_,?_,?_,hp,?_,by simp[World.setCell];omega,VO hix hiy⟩,?_,Sz.frozenAt t⟩
 .have hkeep: ∀b,w0.heap.size<=b->b<L->(∃cs fr,w6.heap[b]? =some (.cells cs 89 fr))->(w6.setCell ⟨g,t,none⟩ (.slice (if ct=k then A else A.map (·.add (k*3))) (nt-k) (ct-k))).heap[b]? =w6.heap[b]? :=by
   intro b _ _ ⟨cs,fr,hb⟩;refine Below.heap_setCell _ _ _ _ (fun e=>?_)
   simp at e;subst e;rcases Sz.2 with⟨h1,_⟩|⟨g',cap',cur',h1,_,hh',_⟩
   .cases h1
   .injection h1 with h1 _ _;injection h1 with h1;injection h1 with h1;subst h1;rw[hb] at hh';injection hh' with hh';injection hh' with _ hh' _;exact absurd hh' (by decide)
  intro u hu;rcases List.mem_or_eq_of_mem_set hu with hu|rfl
  .exact(SA u hu).keep hkeep (by simp[World.setCell])
  .exact((SA _ (List.mem_of_getElem? ht)).cut (by omega)).keep hkeep (by simp[World.setCell])
 .exact gU (e2:=47) hown6 Sz (by decide) (by simpa[Value.ownBlock] using hst.2)
 .have:=VN vs t (.slice (if ct=k then A else A.map (·.add (k*3))) (nt-k) (ct-k)) _ ht
  simp[lenOf] at this;omega
 .exact LH.grown hst.2 fun j hj=>by injection hj with hj;omega
 .exact LG.grown hst.2 fun j hj=>by injection hj with hj;omega
 .have:=Sz.cellAt t (by omega)
  rw[this];exact ht
theorem yB (B:Nat)(hB:B<=60000)(rb p most:Nat)(w0:World)(h:Rd w0 rb p)(hp:p<=B)(hm:most<=16):
 Calls Tryz.prog 21 #[.pointer (some ⟨rb,0,none⟩),.int .i64 (most:Int)] w0 (Pv B w0 rb):=by
 have hlt:=h.lt;go_enter Tryz.func21,Tryz.ntmps21;go_wp2_with fail
 refine(EX B hB rb p most w0 h (by omega) hm).mono ?_
 rintro e w1 ⟨lv,vs,left,rfl,q,hlv,hv4,hrows,_,_,hr1,hq1,hO1⟩;have hlt1:=hr1.lt;go_wp2_with fail
 refine(jo rb q 4 _ (hr1.alloc _) (by omega) (by omega)).mono ?_
 rintro e w2 ⟨sw,rfl,hr2,_,_,ho2⟩;have hs2:=ho2.size;have hs1:=hO1.size;have ht5: ∀v∈vs,lenOf v<=5:=by
  intro v hv;obtain⟨A,n,c,xs,rfl,_,hn,_⟩:=hrows v hv;exact hn
 have htot:=Yd vs 5 ht5;have HST:Hid (Sv w0 rb w1.heap.size (B+100) vs.length lv (.slice (some ⟨w1.heap.size,0,none⟩) 0 0) w2):=
  ⟨hv4,0,[],vs,q+1,bN (hlv.alloc _) ho2 hlt,(hrows.keep (fun b h1 h2 _=>Below.heap_alloc _ _ _ h2) (by simp)).only ho2 (by simp) hlt,
   bN (World.ownsRow_made w1 #[] 0 aj (by decide) rfl) ho2 hlt1,by omega,hr2,by omega,(hO1.alloc _).trans ho2,by simp at hs2;omega,Oi⟩
 obtain⟨Al,cl,rfl⟩:=f_ hlv;generalize hk:vs.length=K at*;have HK:=ah hk;clear hk hlv hrows hr1 hq1 hO1 hr2 ho2 ht5 htot;go_wp2_with fail
 go_loopw [6] (fun ov w=>Sv w0 rb w1.heap.size (B+100) K (.slice Al K cl) ov w) (fun ov _=>21-lenOf ov)
 case atStart=>exact HST.out
 case round=>
  clear HST HK vs;obtain⟨wo,rfl⟩: ∃wo:World,wo=wr:=⟨_,rfl⟩;obtain⟨hK4,n,xs,vs,p3,hlv,hrows,hov,hsum,hr,hp3,hO,hLw,Yg⟩:=hrel;have hlr:=hr.lt;have hvl:vs.length=K:=by simpa using hlv.1
  have HIN:Hid (Sw wo rb p3 0 vs (.slice (some ⟨wo.heap.size,0,none⟩) 0 0) (wo.alloc (.cells #[] 3))):=
   ⟨[],by simp,World.ownsRow_made wo #[] 0 aj (by decide) rfl,by simp,hr.alloc _,(Only.refl _ _).alloc _⟩
  have HO:=ah (And.intro hlv (And.intro hrows (And.intro hov (And.intro hr (And.intro hO hvl)))));clear hlv hrows hov hr hO hvl;go_wp2_with fail
  go_loopw [8,9] (fun sv t w=> ∃k:Nat,k<=K/\t=.int .i64 k/\Sw wo rb p3 k vs sv w) (fun _ t _=>K- (intOf t).toNat)
  case atStart=>exact⟨0,by omega,rfl,HIN.out⟩
  case round=>
   clear HIN;obtain⟨k,hk,rfl,ts,htk,hts,hin,hr,LJ⟩:=hrel;by_cases hkK:k<K
   .have hlw:=bN HO.out.1 LJ hlt;obtain⟨g,cl',hve,hg1,hg2⟩:=F7 hlw (by omega)
    injection hve with hA _ hc;subst hA;subst hc;have hcell:wr.cell? ⟨g,k,none⟩=vs[k]? :=by simpa using hlw.cellAt k (by omega)
    obtain⟨u,hu⟩: ∃u,vs[k]? =some u:=⟨vs[k]'(by have:=HO.out.2.2.2.2.2;omega),List.getElem?_eq_getElem _⟩
    obtain⟨A,nt,ct,ys,rfl,hnc,ZQ,hro,Xv⟩:=HO.out.2.1 u (List.mem_of_getElem? hu);rw[hu] at hcell;have HU:=ah hu;clear hu hro Xv hlw;have hsz:=LJ.size;by_cases hnt:0<nt
    .go_wp2_with (at_builtin;refine gI (.tmp 32) (.tmp 34) (hts.alloc _) (by simp;omega) (dB rfl (k:Int)) (by omega) rfl rfl rfl rfl ?_;intro v6 w6 hown6 vv EZ)
     have vW:=World.grownBy.trans (World.grownBy_alloc wr _ _) vv;have LG:=LJ.own hts aj vW;have LH:=hr.grown vW fun j hj=>by have:=(World.ownsRow.lt hts j hj).1;omega
     go_wp2_with fail
     go_roundw
     case rel=>exact⟨k+1,by omega,by go_num,ts++ [(k:Int)],by simp;omega,by simpa using hown6,Sm hin ⟨by omega,_,_,_,by simpa using HU.out,hnt⟩,LH,LG⟩
     case measure=>simp[intOf];omega
    .go_wp2_with fail
     go_roundw
     case rel=>exact⟨k+1,by omega,by go_num,ts,by omega,hts,hin,hr,LJ⟩
     case measure=>simp[intOf];omega
   .obtain⟨As,cs,rfl⟩:=f_ hts;have hsz:=LJ.size;by_cases acg:ts.length=0
    .have abw:=bN HO.out.2.2.1 LJ hlt1;have hO':=HO.out.2.2.2.2.1.trans LJ;go_wp2_with fail
     go_ret;exact⟨_,n,xs,p3,rfl,Dt abw (by omega),by omega,hr,by omega,hO',Yg⟩
    .go_wp2_with fail
     refine(jo rb p3 _ _ hr (by omega) (by omega)).mono ?_
     rintro e w4 ⟨pv,rfl,hr4,_,hpv,Ce⟩;obtain⟨ach,hpv1⟩:=hpv (by omega)
     have hso:=HO.out.2.2.2.2.1.size;have hs4:=Ce.size;obtain⟨b,off,x,hAs,_,hx,hc4⟩:=(aM.aH (bN hts Ce (by omega)) (by omega)).at_ (k:=pv.toNat) (by omega)
     subst hAs;obtain⟨hx0,A,nt,ct,Yh,hnt⟩:=hin x (List.mem_of_getElem? hx);obtain⟨X,rfl⟩:=Int.eq_ofNat_of_zero_le hx0;rw[Int.toNat_natCast] at Yh;have hxK:X<K:=by
      have h1:=HO.out.2.2.2.2.2;rcases Nat.lt_or_ge X vs.length with h|h
      .omega
      .rw[List.getElem?_eq_none h] at Yh;cases Yh
     have Yi:=bN (bN HO.out.1 LJ hlt) Ce hlt;obtain⟨g,cl',hve,hg1,hg2⟩:=F7 Yi (by omega)
     injection hve with hA _ hc;subst hA;subst hc;have abx:w4.cell? ⟨g,X,none⟩=some (.slice A nt ct):=by rw[Yi.cellAt X (by omega)];exact Yh
     have HU:=ah Yh;have aci:=Sy (HO.out.2.1 _ (List.mem_of_getElem? Yh));clear Yh hx hin Yi hts;by_cases hsw:sw=0
     .go_wp2_with fail
      refine(jo rb _ _ _ hr4 (by omega) (by omega)).mono ?_
      rintro e w5 ⟨pk,rfl,F9,_,hpk,EY⟩;obtain⟨aby,acj⟩:=hpk (by omega)
      obtain⟨k,rfl⟩:=Int.eq_ofNat_of_zero_le aby;have hs5:=EY.size;have VP:=Ce.trans EY;have L8:=bN (bN HO.out.1 LJ hlt) VP hlt;have L9:w5.cell? ⟨g,X,none⟩=some (.slice A nt ct):=by rw[L8.cellAt X (by omega)];exact HU.out
      have Ic:=bN (bN HO.out.2.2.1 LJ hlt1) VP hlt1;have xu:=(HO.out.2.1.only LJ (by omega) hlt).only VP (by omega) hlt
      obtain⟨A',n',c',ys,hv',hnc,ZQ,hro,_⟩:=xu _ (List.mem_of_getElem? HU.out);injection hv' with e1 e2 e3;subst e1;subst e2;subst e3;have SB:=hro.1.take (k:=1+k) (by omega)
      have Yj:=JO hro.2 (1+k);have HR:=ah (And.intro L8 (And.intro xu (And.intro Ic SB)));clear L8 xu hro SB;go_wp2_with (at_builtin;refine gX (.tmp 56) (.tmp 62) Ic (by omega) HR.out.2.2.2 (by omega) rfl rfl rfl rfl ?_;intro v6 w6 hown6 vv EZ;obtain⟨hgood,Yk,abz⟩:=Dw (k:=1+k) (P:=(B+100)) hlt hK4 HR.out.1 HR.out.2.1 (by omega) Ic (by omega) hsum F9 ((HO.out.2.2.2.2.1.trans LJ).trans VP) HU.out (by omega) (by omega) hown6 vv (by omega) Yg Yj)
      all_goals
       go_roundw
       case rel=>
        first
         |(have e:ct=1+k:=by assumption
           rw[if_pos e,show ct- (1+k)=0 from by omega] at hgood
           exact hgood)
         |(rw[if_neg (by omega)] at hgood
           exact hgood)
       case measure=>
        have e6:=Cc hown6;have e5:=Cc Ic;omega
     .have L8:=bN (bN HO.out.1 LJ hlt) Ce hlt;have L9:w4.cell? ⟨g,X,none⟩=some (.slice A nt ct):=by rw[L8.cellAt X (by omega)];exact HU.out
      have Ic:=bN (bN HO.out.2.2.1 LJ hlt1) Ce hlt1;have xu:=(HO.out.2.1.only LJ (by omega) hlt).only Ce (by omega) hlt
      obtain⟨A',n',c',ys,hv',hnc,ZQ,hro,_⟩:=xu _ (List.mem_of_getElem? HU.out);injection hv' with e1 e2 e3;subst e1;subst e2;subst e3;have SB:=hro.1.take (k:=1) (by omega)
      have Yj:=JO hro.2 1;have HR:=ah (And.intro L8 (And.intro xu (And.intro Ic SB)));clear L8 xu hro SB;go_wp2_with (at_builtin;refine gX (.tmp 56) (.tmp 62) Ic (by omega) HR.out.2.2.2 (by omega) rfl rfl rfl rfl ?_;intro v6 w6 hown6 vv EZ;obtain⟨hgood,Yk,abz⟩:=Dw (k:=1) (P:=(B+100)) hlt hK4 HR.out.1 HR.out.2.1 (by omega) Ic (by omega) hsum hr4 ((HO.out.2.2.2.2.1.trans LJ).trans Ce) HU.out (by omega) (by omega) hown6 vv (by omega) Yg Yj)
      all_goals
       go_roundw
       case rel=>
        first
         |(have e:ct=1:=by assumption
           rw[if_pos e,show ct- (1)=0 from by omega] at hgood
           exact hgood)
         |(rw[if_neg (by omega)] at hgood
           exact hgood)
       case measure=>
        have e6:=Cc hown6;have e5:=Cc Ic;omega
open Go.RowKit
def Ol:Go.Shelf.Ren:=⟨fun|156=>107|165=>151|166=>13|169=>16|240=>39|241=>175|276=>63|277=>191|n=>n,fun|0=>0|3=>3|4=>4|9=>9|20=>20|31=>22|37=>28|5=>5|70=>33|72=>35|75=>37|80=>41|76=>38|127=>84|164=>104|n=>n,fun n=>n⟩
theorem SC:Go.Proofs.Lays.n156 Tryz.prog Ol where
 mixed:=by kernel_rfl
 f156:=Tryz.func107.trans (congrArg some (by kernel_rfl))
 f165:=Tryz.func151.trans (congrArg some (by kernel_rfl))
 f166:=Tryz.func13.trans (congrArg some (by kernel_rfl))
 f169:=Tryz.func16.trans (congrArg some (by kernel_rfl))
 f240:=Tryz.func39.trans (congrArg some (by kernel_rfl))
 f241:=Tryz.func175.trans (congrArg some (by kernel_rfl))
 f276:=Tryz.func63.trans (congrArg some (by kernel_rfl))
 f277:=Tryz.func191.trans (congrArg some (by kernel_rfl))
 t0:=Tryz.underlying0
 a0:=Tryz.isAgg0
 z0:=Tryz.sizeOf0
 v0:=Tryz.zeroValue0
 t3:=Tryz.underlying3
 a3:=Tryz.isAgg3
 z3:=Tryz.sizeOf3
 v3:=Tryz.zeroValue3
 t4:=Tryz.underlying4
 a4:=Tryz.isAgg4
 z4:=Tryz.sizeOf4
 v4:=Tryz.zeroValue4
 t9:=Tryz.underlying9
 a9:=Tryz.isAgg9
 z9:=Tryz.sizeOf9
 v9:=Tryz.zeroValue9
 t20:=Tryz.underlying20
 a20:=Tryz.isAgg20
 z20:=Tryz.sizeOf20
 v20:=Tryz.zeroValue20
 t31:=Tryz.underlying22
 a31:=Tryz.isAgg22
 z31:=Tryz.sizeOf22
 v31:=Tryz.zeroValue22
 t37:=Tryz.underlying28
 a37:=Tryz.isAgg28
 z37:=Tryz.sizeOf28
 v37:=Tryz.zeroValue28
 t70:=Tryz.underlying33
 a70:=Tryz.isAgg33
 z70:=Tryz.sizeOf33
 v70:=Tryz.zeroValue33
 t72:=Tryz.underlying35
 a72:=Tryz.isAgg35
 z72:=Tryz.sizeOf35
 v72:=Tryz.zeroValue35
 t75:=Tryz.underlying37
 a75:=Tryz.isAgg37
 z75:=Tryz.sizeOf37
 v75:=Tryz.zeroValue37
 t76:=Tryz.underlying38
 a76:=Tryz.isAgg38
 z76:=Tryz.sizeOf38
 v76:=Tryz.zeroValue38
 t127:=Tryz.underlying84
 a127:=Tryz.isAgg84
 z127:=Tryz.sizeOf84
 v127:=Tryz.zeroValue84
 t164:=Tryz.underlying104
 a164:=Tryz.isAgg104
 z164:=Tryz.sizeOf104
 v164:=Tryz.zeroValue104
theorem aag:Go.Proofs.Builder.Extra Tryz.prog Ol where
 sizeBuilder:=by kernel_rfl
 liesBuilder:=by kernel_rfl
 t5:=Tryz.underlying5
 a5:=Tryz.isAgg5
 z5:=Tryz.sizeOf5
 v5:=Tryz.zeroValue5
 infoByte:=by kernel_rfl
 cellsByte:=by kernel_rfl
 sizeByte:=by kernel_rfl
 neB5:=by decide
end Go.Proofs.YtddkjbibjjehjaaGreatDoor
