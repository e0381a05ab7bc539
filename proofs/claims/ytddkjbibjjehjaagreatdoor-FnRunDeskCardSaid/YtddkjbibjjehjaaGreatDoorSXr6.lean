/-
  Texts that the proof rests on, joined: part 6.
-/
import Derived.Deep.LoopGhost
import Derived.Test.YtddkjbibjjehjaaGreatDoorSXr1
set_option maxHeartbeats 16000000
set_option maxRecDepth 100000
namespace Go.Proofs.YtddkjbibjjehjaaGreatDoor
open Go.RowKit Go.BigFrame
set_option linter.unusedVariables false
def Rd (w:World)(rb:Nat)(p:Nat):Prop:=
 ∃ (A:Option Addr) (m c:Nat),w.heap[rb]? =some (.cells #[.slice A m c,.int .i64 (p:Int)] 86 (0,0))/\m<=2000/\
  (0<m-> ∃ (b off:Nat) (f:Nat->Int),A=some ⟨b,off,none⟩/\b<rb/\ ∀i,i<m->0<=f i/\f i<=255/\w.cell? ⟨b,off+i,none⟩=some (.int .u8 (f i)))
def Only (rb:Nat)(w w':World):Prop:=w.grownBy w' (some rb)
theorem Only.refl (rb:Nat)(w:World):Only rb w w:=⟨rfl,rfl,rfl,Nat.le_refl _,fun _ _ _=>rfl⟩
theorem Only.trans {rb:Nat}{a b c:World}(h:Only rb a b)(k:Only rb b c):Only rb a c:=World.grownBy.trans h k
theorem Only.size {rb:Nat}{a b:World}(h:Only rb a b):a.heap.size<=b.heap.size:=World.grownBy.size h
theorem Only.of_below {rb:Nat}{a b:World}(h:Below a.heap.size a b):Only rb a b:=⟨h.os,h.tape,h.output,h.size,fun i hi _=>h.block i hi⟩
theorem Only.cell {rb:Nat}{a w:World}(h:Only rb a w){b o:Nat}(hb:b<a.heap.size)(hne:b≠rb):w.cell? ⟨b,o,none⟩=a.cell? ⟨b,o,none⟩:=
 World.cell?_of_block (w:=a) (a:=⟨b,o,none⟩) (h.block b hb (fun e=>hne (by injection e)))
theorem Only.heap {rb:Nat}{a w:World}(h:Only rb a w){b:Nat}(hb:b<a.heap.size)(hne:b≠rb):w.heap[b]? =a.heap[b]? :=
 h.block b hb (fun e=>hne (by injection e))
theorem Only.drewN {rb:Nat}{a w:World}(h:Only rb a w)(n:Nat):Only rb a (w.drewN n):=⟨h.os,h.tape,h.output,h.size,h.block⟩
theorem Only.alloc {rb:Nat}{a w:World}(h:Only rb a w)(o:Obj):Only rb a (w.alloc o):=
 ⟨h.os,h.tape,h.output,Nat.le_trans h.size (by simp),fun i hi hne=>(Below.heap_alloc w o i (Nat.lt_of_lt_of_le hi h.size)).trans (h.block i hi hne)⟩
theorem Only.setCell {a w:World}{g:Nat}(h:Only g a w){p:Addr}(hp:p.block=g\/a.heap.size<=p.block)(u:Value):Only g a (w.setCell p u):=
 ⟨h.os,h.tape,h.output,by simpa[World.setCell] using h.size,fun i hi hne=>(Below.heap_setCell w p u i (by
  rintro rfl;rcases hp with hp|hp
  .exact hne (by rw[hp])
  .omega)).trans (h.block i hi hne)⟩
theorem Rd.lt {w:World}{rb p:Nat}(h:Rd w rb p):rb<w.heap.size:=by
 obtain⟨A,m,c,hh,_⟩:=h;exact lt_of_block hh
theorem Rd.drewN {w:World}{rb p:Nat}(h:Rd w rb p)(n:Nat):Rd (w.drewN n) rb p:=h
theorem Rd.below {w w':World}{rb p:Nat}(h:Rd w rb p)(hb:Below w.heap.size w w'):Rd w' rb p:=by
 have hlt:=h.lt;obtain⟨A,m,c,hh,hm,hc⟩:=h;refine⟨A,m,c,(hb.block rb hlt).trans hh,hm,fun h0=>?_⟩
 obtain⟨b,off,f,hA,hbl,hf⟩:=hc h0;exact⟨b,off,f,hA,hbl,fun i hi=>⟨(hf i hi).1,(hf i hi).2.1,(hb.cell (p:=⟨b,_,none⟩) (by simp;omega)).trans (hf i hi).2.2⟩⟩
theorem F6 (a:Nat)(ha:a<9223372036854775808):(BitVec.ofInt 64 (a:Int)).toNat=a:=by
 rw[BitVec.ofInt_natCast,BitVec.toNat_ofNat];exact Nat.mod_eq_of_lt (by omega)
theorem VJ (a b:Nat)(ha:a<9223372036854775808)(hb:b<9223372036854775808):bits .xor .i64 (a:Int) (b:Int)=((a^^^b:Nat):Int):=by
 have hx:a^^^b<2^63:=Nat.xor_lt_two_pow (by omega) (by omega)
 show IntKind.i64.wrap ((BitVec.ofInt 64 (a:Int)^^^BitVec.ofInt 64 (b:Int)).toNat:Int)=_
 rw[BitVec.toNat_xor,F6 a ha,F6 b hb,IntKind.wrap_i64];omega
theorem VK (x n:Int)(h0:0<=x)(h1:x<9223372036854775808)(hn:1<=n):0<=(bits .xor .i64 x (x/64)).tmod n/\(bits .xor .i64 x (x/64)).tmod n<n:=by
 obtain⟨a,rfl⟩:=Int.eq_ofNat_of_zero_le h0;have e:((a:Int)/64)=((a/64:Nat):Int):=by omega
 rw[e,VJ a (a/64) (by omega) (by omega)]
 exact⟨Int.tmod_nonneg _ (by omega),Int.tmod_lt_of_pos _ (by omega)⟩
def Yb (rb p:Nat)(n:Int)(w:World)(e:Ending)(w':World):Prop:=
 ∃v:Int,e=.returned (.int .i64 v)/\Rd w' rb (p+1)/\(n<1->v=0)/\(1<=n->0<=v/\v<n)/\Only rb w w'
theorem jo (rb p:Nat)(n:Int)(w:World)(h:Rd w rb p)(hp:p<=100000)(hn:n<=1099511627776):
 Calls Tryz.prog 22 #[.pointer (some ⟨rb,0,none⟩),.int .i64 n] w (Yb rb p n w):=by
 have hlt:=h.lt;obtain⟨A,m,c,hh,hm,hc⟩:=h;have c0:w.cell? ⟨rb,0,none⟩=some (.slice A m c):=by simp[World.cell?,hh]
 have c1:w.cell? ⟨rb,1,none⟩=some (.int .i64 (p:Int)):=by simp[World.cell?,hh]
 have f1:w.frozen? ⟨rb,1,none⟩=false:=by simp[World.frozen?,hh]
 have HO:Hid (Only rb w (w.setCell ⟨rb,1,none⟩ (.int .i64 ((p:Int)+1)))):=(Only.refl rb w).setCell (.inl rfl) _;have HR:Hid (Rd (w.setCell ⟨rb,1,none⟩ (.int .i64 ((p:Int)+1))) rb (p+1)):=by
  refine⟨A,m,c,by simp[World.setCell,Array.getElem?_modify,hh],hm,fun h0=>?_⟩
  obtain⟨b,off,f,hA,hbl,hf⟩:=hc h0;refine⟨b,off,f,hA,hbl,fun i hi=>⟨(hf i hi).1,(hf i hi).2.1,?_⟩⟩
  rw[World.cell?_setCell_other _ _ _ _ (by simp;try omega)]
  exact(hf i hi).2.2
 clear hh;by_cases hn1:n<1
 .clear hc;go_enter Tryz.func22,Tryz.ntmps22;go_wp2
  go_ret;exact⟨0,rfl,HR.out,fun _=>rfl,fun h=>absurd h (by omega),HO.out⟩
 .by_cases hm0:m=0
  .subst hm0;clear hc;go_enter Tryz.func22,Tryz.ntmps22;go_wp2
   go_ret;exact⟨0,rfl,HR.out,fun _=>rfl,fun h=>⟨by omega,by omega⟩,HO.out⟩
  .obtain⟨b,off,f,rfl,hbl,hf⟩:=hc (by omega)
   have hbr:b≠rb:=by omega
   by_cases hk:p<m
   .obtain⟨g0,g1,g2⟩:=hf p hk;clear hf;go_enter Tryz.func22,Tryz.ntmps22;go_wp2
    go_ret;exact⟨f p % n,rfl,HR.out,fun h=>absurd h (by omega),fun _=>⟨Int.emod_nonneg _ (by omega),Int.emod_lt_of_pos _ (by omega)⟩,HO.out⟩
   .have hmp:0<m:=by omega
    have hq1:p % m<m:=Nat.mod_lt _ hmp;have hq2:(p*7+3) % m<m:=Nat.mod_lt _ hmp;have hq3:(p/m)<=p:=Nat.div_le_self _ _;obtain⟨g0,g1,g2⟩:=hf (p % m) hq1;obtain⟨k0,k1,k2⟩:=hf ((p*7+3) % m) hq2;clear hf;have e1:0<=((p:Int) % (m:Int)):=Int.emod_nonneg _ (by omega)
    have e2:((p:Int) % (m:Int))<m:=Int.emod_lt_of_pos _ (by omega)
    have e5:0<=((p:Int)/(m:Int)):=Int.ediv_nonneg (by omega) (by omega)
    have e6:((p:Int)/(m:Int))<=100000:=Int.le_trans (Int.ediv_le_self _ (by omega)) (by omega)
    have e3:0<=(((p:Int)*7+3) % (m:Int)):=Int.emod_nonneg _ (by omega)
    have e4:(((p:Int)*7+3) % (m:Int))<m:=Int.emod_lt_of_pos _ (by omega)
    go_enter Tryz.func22,Tryz.ntmps22;go_wp2
    refine wp_region_quiet_lit (by kernel_rfl) (by kernel_rfl) ?_
    iterate 46 (go_big_quiet_want;go_big_quiet_op;go_big_quiet_on)
    refine wpQuiet_nil ?_;intro _ hw';obtain⟨nq,hw''⟩:=hw';subst hw'';go_wp2
    go_ret;exact⟨_,rfl,HR.out.drewN nq,fun h=>absurd h (by omega),fun _=>VK _ _ (by omega) (by omega) (by omega),HO.out.drewN nq⟩
def aad (rb p:Nat)(xs:List Int)(w:World)(e:Ending)(w':World):Prop:=
 ∃v:Int,e=.returned (.int .i64 v)/\v∈xs/\Rd w' rb (p+1)/\Only rb w w'
theorem pG (rb p:Nat)(A:Option Addr)(k c:Nat)(xs:List Int)(w:World)(h:Rd w rb p)(hp:p<=100000)(hx:aM w A k xs)(hk:0<k)
 (hne: ∀ad,A=some ad->ad.block≠rb):
 Calls Tryz.prog 18 #[.pointer (some ⟨rb,0,none⟩),.slice A k c] w (aad rb p xs w):=by
 have hkb:=hx.2.1;have hat: ∀ (v:Int) (w1:World),Only rb w w1->0<=v->v<k-> ∃b off x,A=some ⟨b,off,none⟩/\x∈xs/\w1.cell? ⟨b,off+v.toNat,none⟩=some (.int .i64 x):=by
  intro v w1 ho h0 h1;obtain⟨b,off,x,hA,hlt,hxx,hc⟩:=hx.at_ (k:=v.toNat) (by omega)
  exact⟨b,off,x,hA,List.mem_of_getElem? hxx,(ho.cell hlt (hne _ hA)).trans hc⟩
 have HA:=ah hat;clear hat hx hne;go_enter Tryz.func18,Tryz.ntmps18;go_wp2_with fail
 refine(jo rb p _ w h hp (by omega)).mono ?_
 rintro e w1 ⟨v,rfl,hr,_,hv,ho⟩;obtain⟨hv0,hv1⟩:=hv (by omega)
 obtain⟨b,off,x,hA,hxm,hc⟩:=HA.out v w1 ho hv0 hv1;subst hA;go_wp2_with fail
 go_ret;exact⟨x,rfl,hxm,hr,ho⟩
def Made (w:World)(e:Ending)(w':World):Prop:=
 ∃rb,e=.returned (.pointer (some ⟨rb,0,none⟩))/\w.heap.size<=rb/\Rd w' rb 0/\Below w.heap.size w w'
theorem EW (A:Option Addr)(n c:Nat)(w:World)(hx:LQ w A n)(hc:n<=c):
 Calls Tryz.prog 17 #[.slice A n c] w (Made w):=by
 obtain⟨hn,hx⟩:=hx;have hin: ∀m c',m<=n->m<=2000->Rd (w.alloc (.cells #[.slice A m c',.int .i64 0] 86)) w.heap.size 0:=by
  intro m c' hm h2;refine⟨A,m,c',heap_alloc_new w _,h2,fun h0=>?_⟩
  obtain⟨b,off,hA,hlt,hf⟩:=hx (by omega)
  have hch:=fun i=>if h:i<n then(hf i h).choose else(0:Int)
  refine⟨b,off,fun i=>if h:i<n then(hf i h).choose else 0,hA,hlt,fun i hi=>?_⟩
  have hin:i<n:=by omega
  simp only[hin,dif_pos];have hs:=(hf i hin).choose_spec;exact⟨hs.1,hs.2.1,(World.cell?_alloc_lt w _ ⟨b,off+i,none⟩ (by simpa using hlt)).trans hs.2.2⟩
 have HI:=ah hin;clear hin hx;by_cases h2:2000<n
 .go_enter Tryz.func17,Tryz.ntmps17;go_wp2
  go_ret;exact⟨_,rfl,Nat.le_refl _,HI.out 2000 _ (by omega) (by omega),aG.alloc aj _⟩
 .go_enter Tryz.func17,Tryz.ntmps17;go_wp2
  go_ret;exact⟨_,rfl,Nat.le_refl _,HI.out n _ (by omega) (by omega),aG.alloc aj _⟩
theorem VL:(Tryz.prog.info? 47).map (fun i=>(i.zero,i.size,i.bytes))=some (some (.slice none 0 0),1,24):=by kernel_rfl
theorem f_ {w:World}{base:Nat}{e:TypeId}{size n:Nat}{v:Value}{xs:List Value}(h:w.ownsRow base e size v n xs): ∃A c,v=.slice A n c:=by
 rcases h.2 with⟨h1,h2⟩|⟨g,cap,cur,h1,_⟩
 .exact⟨none,0,by rw[h1,h2]⟩
 .exact⟨_,_,h1⟩
theorem bN {w w':World}{rb L:Nat}{e:TypeId}{size n:Nat}{v:Value}{xs:List Value}(h:w.ownsRow L e size v n xs)(ho:Only rb w w')(hrb:rb<L):w'.ownsRow L e size v n xs:=by
 refine World.ownsRow.kept h ho ?_;cases hv:v.ownBlock with
 |none=>exact .inl rfl
 |some g=>
  refine .inr (fun e=>?_)
  injection e with e;have:=(World.ownsRow.lt h g hv).1;omega
theorem Only.grown {rb:Nat}{a w w':World}{row:Option Nat}(h:Only rb a w)(hg:w.grownBy w' row)(hr: ∀k,row=some k->a.heap.size<=k):Only rb a w':=
 ⟨hg.os.trans h.os,hg.tape.trans h.tape,hg.output.trans h.output,Nat.le_trans h.size hg.size,fun i hi hne=>
  (hg.block i (Nat.lt_of_lt_of_le hi h.size) (fun e=>by have:=hr i e.symm;omega)).trans (h.block i hi hne)⟩
theorem Only.own {rb:Nat}{a w w':World}{L:Nat}{e:TypeId}{size n:Nat}{v:Value}{xs:List Value}(h:Only rb a w)(hown:w.ownsRow L e size v n xs)(hL:a.heap.size<=L)(hg:w.grownBy w' v.ownBlock):Only rb a w':=
 h.grown hg fun k hk=>Nat.le_trans hL (World.ownsRow.lt hown k hk).1
def lenOf:Value->Nat| .slice _ n _=>n|_=>0
theorem Rd.alloc {w:World}{rb p:Nat}(h:Rd w rb p)(o:Obj):Rd (w.alloc o) rb p:=h.below (aG.alloc aj _)
theorem aae {w:World}{H:Nat}(hH:w.heap.size=H)(a b c:Int):aM (w.alloc (.cells #[.int .i64 a,.int .i64 b,.int .i64 c] 3)) (some ⟨H,0,none⟩) 3 [a,b,c] :=by subst hH;exact aM.lit w [a,b,c] _ (by simp)
theorem Yc {w:World}{H:Nat}(hH:w.heap.size=H)(a b c d:Int):aM (w.alloc (.cells #[.int .i64 a,.int .i64 b,.int .i64 c,.int .i64 d] 3)) (some ⟨H,0,none⟩) 4 [a,b,c,d] :=by subst hH;exact aM.lit w [a,b,c,d] _ (by simp)
theorem abq {w:World}{H:Nat}(hH:w.heap.size=H)(a b c d e:Int):aM (w.alloc (.cells #[.int .i64 a,.int .i64 b,.int .i64 c,.int .i64 d,.int .i64 e] 3)) (some ⟨H,0,none⟩) 5 [a,b,c,d,e] :=by subst hH;exact aM.lit w [a,b,c,d,e] _ (by simp)
theorem aaf {w:World}{H:Nat}(hH:w.heap.size=H)(a b c d e f:Int):aM (w.alloc (.cells #[.int .i64 a,.int .i64 b,.int .i64 c,.int .i64 d,.int .i64 e,.int .i64 f] 3)) (some ⟨H,0,none⟩) 6 [a,b,c,d,e,f] :=by subst hH;exact aM.lit w [a,b,c,d,e,f] _ (by simp)
theorem pI {rb H:Nat}(h:rb<H): ∀ad:Addr,some (⟨H,0,none⟩:Addr)=some ad->ad.block≠rb:=by
 intro ad e;injection e with e;subst e;simp;omega
theorem vk {w:World}{base:Nat}{e:TypeId}{size n:Nat}{v:Value}{xs:List Value}(h:w.ownsRow base e size v n xs):v.oneCell'=true:=by
 obtain⟨A,c,rfl⟩:=f_ h;rfl
theorem Rd.grown {w w':World}{rb p:Nat}{row:Option Nat}(h:Rd w rb p)(hg:w.grownBy w' row)(hr: ∀k,row=some k->rb<k):Rd w' rb p:=by
 have hlt:=h.lt;obtain⟨A,m,c,hh,hm,hc⟩:=h;have hk: ∀b,b<=rb->w'.heap[b]? =w.heap[b]? :=fun b hb=>hg.block b (by omega) (fun e=>by have:=hr b e.symm;omega)
 refine⟨A,m,c,(hk rb aj).trans hh,hm,fun h0=>?_⟩
 obtain⟨b,off,f,hA,hbl,hf⟩:=hc h0;exact⟨b,off,f,hA,hbl,fun i hi=>⟨(hf i hi).1,(hf i hi).2.1,(World.cell?_of_block (w:=w) (a:=⟨b,_,none⟩) (hk b (by omega))).trans (hf i hi).2.2⟩⟩
section
variable {w:World} {ops:Array Oper} {rest:List Oper} {o:Oper} {a:Act} {Q:Exit->Act->World->Prop}
theorem vo (s x:Operand){base:Nat}{v:Value}{n:Nat}{vs:List Value}(hown:w.ownsRow base 47 1 v n vs)(hbase:base<=w.heap.size)
 {u:Value} (hu:u.oneCell'=true) {H:Nat} {T:TypeId} (hH:w.heap[H]? =some (.cells #[u] T (0,0))) (hn:n<=1099511627776) {c:Nat}
 (hgd:o.guard=none) (ho:o.op=.call { callee:=.builtin .append,args:= #[s,x],argTypes:= #[90,90] }) (hs:a.eval s=v) (hx:a.eval x=.slice (some ⟨H,0,none⟩) 1 c)
 (h: ∀v' w',w'.ownsRow base 47 1 v' (n+1) (vs++ [u])->w.grownBy w' v.ownBlock->wpList Tryz.prog ops Q rest (a.put o.dst v') w'):wpList Tryz.prog ops Q (o::rest) a w:=by
 obtain⟨i0,hi,hz0,hz1,hz2⟩:=info_parts VL;refine lV hgd s x _ ho base _ i0 _ 1 24 Tryz.underlying90 hi hz0 hz1 hz2 rfl (by decide) v n _ hs hown _ 1 c [u] hx ⟨rfl,by simpa using hu,fun _=>⟨_,rfl,fun j u' hu'=>?_⟩⟩ (by simp only[maxLen];omega) (by omega) hbase ?_
 .match j,hu' with
  |0,hu'=>
   simp at hu';subst hu';rw[addr_add,cell_of_row w H (0+0) _ T (0,0) hH];rfl
 .intro v' w' h1 h2 h3;exact h v' w' h1 h2
end
theorem aC.drop {w:World}{A:Option Addr}{n:Nat}{xs:List ay}(h:aC w A n xs){k c:Nat}(hk:k<=n)(hc:n<=c):
 aC w (if c=k then A else A.map (·.add (k*3))) (n-k) (xs.drop k):=by
 obtain⟨h1,h2,h3⟩:=h;refine⟨by simp;omega,by omega,fun hn=>?_⟩
 obtain⟨b,off,rfl,hlt,hcell⟩:=h3 (by omega)
 rw[if_neg (by omega)]
 refine⟨b,off+k*3,by simp[addr_add],hlt,fun i o ho=>?_⟩
 rw[List.getElem?_drop] at ho;have:=hcell _ o ho;have e1:off+(k+i)*3=off+k*3+i*3:=by omega
 rw[e1] at this;exact this
def tot (vs:List Value):Nat:=(vs.map lenOf).sum
theorem VN (vs:List Value)(t:Nat)(u x:Value)(h:vs[t]? =some x):tot (vs.set t u)+lenOf x=tot vs+lenOf u:=by
 induction vs generalizing t with
 |nil=>simp at h
 |cons y r ih=>
  cases t with
  |zero=>simp at h;subst h;simp[tot];omega
  |succ t=>
   have:=ih t (by simpa using h)
   simp[tot] at*;omega
theorem Yd (vs:List Value)(k:Nat)(h: ∀v∈vs,lenOf v<=k):tot vs<=vs.length*k:=by
 induction vs with
 |nil=>simp[tot]
 |cons y r ih=>
  have h1:=ih (fun v hv=>h v (by simp[hv]))
  have h2:=h y (by simp)
  simp[tot] at*;rw[Nat.add_mul];omega
theorem Sm {P:Int->Prop}{ts:List Int}{x:Int}(h: ∀y∈ts,P y)(hx:P x): ∀y∈ts++ [x],P y:=by
 intro y hy;simp only[List.mem_append,List.mem_singleton] at hy;rcases hy with hy|rfl
 .exact h y hy
 .exact hx
theorem Cc {w:World}{base:Nat}{e:TypeId}{size n:Nat}{v:Value}{xs:List Value}(h:w.ownsRow base e size v n xs):lenOf v=n:=by
 obtain⟨A,c,rfl⟩:=f_ h;rfl
theorem F7 {w:World}{base:Nat}{e:TypeId}{size n:Nat}{v:Value}{xs:List Value}(h:w.ownsRow base e size v n xs)(hn:0<n): ∃g c,v=.slice (some ⟨g,0,none⟩) n c/\base<=g/\g<w.heap.size:=by
 rcases h.2 with⟨h1,h2⟩|⟨g,cap,cur,h1,h2,h3,_⟩
 .omega
 .exact⟨g,cap,h1,h2,lt_of_block h3⟩
theorem Dt {w:World}{base base':Nat}{e:TypeId}{size n:Nat}{v:Value}{xs:List Value}(h:w.ownsRow base e size v n xs)(hb:base'<=base):w.ownsRow base' e size v n xs:=by
 refine⟨h.1,?_⟩;rcases h.2 with h2|⟨g,cap,cur,h1,h2,r⟩
 .exact .inl h2
 .exact .inr ⟨g,cap,cur,h1,by omega,r⟩
theorem gU {w w':World}{b1 b2:Nat}{e1 e2:TypeId}{s1 s2 n1 n2:Nat}{v1 v2:Value}{x1 x2:List Value}(h1:w.ownsRow b1 e1 s1 v1 n1 x1)(h2:w.ownsRow b2 e2 s2 v2 n2 x2)(hne:e1≠e2)
 (hg:w.grownBy w' v2.ownBlock):w'.ownsRow b1 e1 s1 v1 n1 x1:=by
 refine World.ownsRow.kept h1 hg ?_;rcases h1.2 with⟨rfl,_⟩|⟨g,cap,cur,rfl,_,hh,_⟩
 .exact .inl rfl
 .refine .inr (fun e=>?_)
  rcases h2.2 with⟨rfl,_⟩|⟨g',cap',cur',rfl,_,hh',_⟩
  .simp[Value.ownBlock] at e
  .simp[Value.ownBlock] at e;subst e;rw[hh] at hh';injection hh' with hh';injection hh' with _ hh' _;exact hne hh'
end Go.Proofs.YtddkjbibjjehjaaGreatDoor
