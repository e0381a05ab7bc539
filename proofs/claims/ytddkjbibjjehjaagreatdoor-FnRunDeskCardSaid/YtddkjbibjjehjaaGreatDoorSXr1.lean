/-
  Texts that the proof rests on, joined: part 1.
-/
import Derived.Test.YtddkjbibjjehjaaGreatDoorRows
import Derived.WalkKit
import Derived.WalkSpells
import Derived.WalkLawsBesides
import Derived.BigQuiet
import Derived.Deep.QuietTactic
import Derived.Deep.DrawnRows
import Derived.Lib.Hide
import Derived.ProofKit
import Derived.OpenShut
import Derived.ShutString
import Derived.ChangeOld
import Derived.Below
import Derived.Deep.Slices
import Derived.ChangeSame
import Derived.Maps.AppendAt
import Derived.Deep.AppendLies
set_option maxHeartbeats 16000000
set_option maxRecDepth 100000
namespace Go.Proofs.YtddkjbibjjehjaaGreatDoor
open Go.RowKit
set_option linter.unusedVariables false
theorem ah {p:Prop}(h:p):Hid p:=h
theorem aj {n:Nat} :n<=n:=Nat.le_refl n
theorem aG {B:Nat}{w:World} :Below B w w:=Below.refl B w
theorem aI {a b:Bool}(h:a=b):Ending.returned (.bool a)=.returned (.bool b):=by rw[h]
theorem gW {k:IntKind}{a b:Int}(h:a=b):Ending.returned (.int k a)=.returned (.int k b):=by rw[h]
theorem Od {W w1:World}(hb:Below W.heap.size W w1):(∀b o,b<W.heap.size->w1.cell? ⟨b,o,none⟩=W.cell? ⟨b,o,none⟩)/\(∀b o,b<W.heap.size->w1.frozen? ⟨b,o,none⟩=W.frozen? ⟨b,o,none⟩):=
 ⟨fun b o h=>hb.cell (p:=⟨b,o,none⟩) h,fun b o h=>hb.frozen (p:=⟨b,o,none⟩) h⟩
theorem aZ {B:Nat}{w v:World}(h:Below B w v)(hB:B<=w.heap.size)(o:Obj):Below B w (v.alloc o):=h.alloc (Nat.le_trans hB h.size) o
theorem bD {w v v':World}(h:Below v.heap.size v v')(h0:Below w.heap.size w v):Below w.heap.size w v':=h0.trans (h.mono h0.size)
theorem dF {w v:World}{b o:Nat}{u:Value}(h:Below w.heap.size w v)(hb:w.heap.size<=b):Below w.heap.size w (v.setCell ⟨b,o,none⟩ u):=h.setCell (by simpa using hb) u
theorem bE {B:Nat}{w v:World}(h:Below B w v)(n:Nat):Below B w (v.drewN n):=⟨h.os,h.tape,h.output,h.size,h.block⟩
structure ay where
 tx:Int
 kind:Int
 item:Int
 deriving DecidableEq
def ay.zero:ay:=⟨0,0,0⟩
def ay.val (o:ay):Value:=.agg #[.int .i64 o.tx,.int .i64 o.kind,.int .i64 o.item]
def ay.cells (o:ay):List Value:= [.int .i64 o.tx,.int .i64 o.kind,.int .i64 o.item]
def aB:List ay->List Value
 | [] => []
 |o::r=>.int .i64 o.tx:: .int .i64 o.kind:: .int .i64 o.item::aB r
def intCells (xs:List Int):List Value:=xs.map (Value.int .i64)
theorem iC (a b:List ay):aB (a++b)=aB a++aB b:=by
 induction a with
 |nil=>rfl
 |cons o r ih=>simp[aB,ih]
theorem bQ (a:List ay):(aB a).length=a.length*3:=by
 induction a with
 |nil=>rfl
 |cons o r ih=>simp[aB,ih];omega
theorem CR (xs:List ay): ∀ (i:Nat) (o:ay),xs[i]? =some o->
 (aB xs)[i*3]? =some (.int .i64 o.tx)/\(aB xs)[i*3+1]? =some (.int .i64 o.kind)/\(aB xs)[i*3+2]? =some (.int .i64 o.item):=by
 induction xs with
 |nil=>intro i o h;simp at h
 |cons x r ih=>
  intro i o h;cases i with
  |zero=>simp at h;subst h;simp[aB]
  |succ i=>
   have h':r[i]? =some o:=by simpa using h
   obtain⟨h0,h1,h2⟩:=ih i o h';have e:(i+1)*3=i*3+3:=by omega
   refine⟨?_,?_,?_⟩
   .rw[e];simpa[aB] using h0
   .rw[e];simpa[aB] using h1
   .rw[e];simpa[aB] using h2
theorem tV (xs:List ay): ∀u∈aB xs,u.oneCell'=true:=by
 induction xs with
 |nil=>simp[aB]
 |cons x r ih=>
  intro u hu;simp only[aB,List.mem_cons] at hu;rcases hu with rfl|rfl|rfl|hu
  .rfl
  .rfl
  .rfl
  .exact ih u hu
theorem Hg (xs:List Int): ∀u∈intCells xs,u.oneCell'=true:=by
 intro u hu;simp only[intCells,List.mem_map] at hu;obtain⟨x,_,rfl⟩:=hu;rfl
def aC (w:World)(A:Option Addr)(n:Nat)(xs:List ay):Prop:=
 xs.length=n/\n<=1099511627776/\(0<n-> ∃b off,A=some ⟨b,off,none⟩/\b<w.heap.size/\ ∀i o,xs[i]? =some o->
  w.cell? ⟨b,off+i*3,none⟩=some (.int .i64 o.tx)/\w.cell? ⟨b,off+i*3+1,none⟩=some (.int .i64 o.kind)/\w.cell? ⟨b,off+i*3+2,none⟩=some (.int .i64 o.item))
def aM (w:World)(A:Option Addr)(n:Nat)(xs:List Int):Prop:=
 xs.length=n/\n<=1099511627776/\(0<n-> ∃b off,A=some ⟨b,off,none⟩/\b<w.heap.size/\ ∀i x,xs[i]? =some x->
  w.cell? ⟨b,off+i,none⟩=some (.int .i64 x))
def LQ (w:World)(A:Option Addr)(n:Nat):Prop:=
 n<=9223372036854775807/\(0<n-> ∃b off,A=some ⟨b,off,none⟩/\b<w.heap.size/\ ∀i,i<n-> ∃x:Int,0<=x/\x<=255/\w.cell? ⟨b,off+i,none⟩=some (.int .u8 x))
section
variable {w w':World} {A:Option Addr} {n:Nat}
theorem aC.nil {w:World}{A:Option Addr} :aC w A 0 [] :=⟨rfl,by omega,fun h=>absurd h (by omega)⟩
theorem aM.nil {w:World}{A:Option Addr} :aM w A 0 [] :=⟨rfl,by omega,fun h=>absurd h (by omega)⟩
theorem aC.below {xs:List ay}(h:aC w A n xs){B:Nat}(hb:Below B w w')(hB:w.heap.size<=B):aC w' A n xs:=by
 obtain⟨h1,h2,h3⟩:=h;refine⟨h1,h2,fun hn=>?_⟩
 obtain⟨b,off,hA,hlt,hc⟩:=h3 hn;have hs:=hb.size;refine⟨b,off,hA,by omega,fun i o ho=>?_⟩
 obtain⟨c0,c1,c2⟩:=hc i o ho;exact⟨(hb.cell (p:=⟨b,_,none⟩) (by simp;omega)).trans c0,(hb.cell (p:=⟨b,_,none⟩) (by simp;omega)).trans c1,(hb.cell (p:=⟨b,_,none⟩) (by simp;omega)).trans c2⟩
theorem aM.below {xs:List Int}(h:aM w A n xs){B:Nat}(hb:Below B w w')(hB:w.heap.size<=B):aM w' A n xs:=by
 obtain⟨h1,h2,h3⟩:=h;refine⟨h1,h2,fun hn=>?_⟩
 obtain⟨b,off,hA,hlt,hc⟩:=h3 hn;have hs:=hb.size;exact⟨b,off,hA,by omega,fun i o ho=>(hb.cell (p:=⟨b,_,none⟩) (by simp;omega)).trans (hc i o ho)⟩
theorem aC.at_ {xs:List ay}(h:aC w A n xs){k:Nat}(hk:k<n): ∃b off o,A=some ⟨b,off,none⟩/\b<w.heap.size/\xs[k]? =some o/\
 w.cell? ⟨b,off+k*3,none⟩=some (.int .i64 o.tx)/\w.cell? ⟨b,off+k*3+1,none⟩=some (.int .i64 o.kind)/\w.cell? ⟨b,off+k*3+2,none⟩=some (.int .i64 o.item):=by
 obtain⟨h1,h2,h3⟩:=h;obtain⟨b,off,hA,hlt,hc⟩:=h3 (by omega)
 have e:xs[k]? =some (xs[k]'(by omega)):=List.getElem?_eq_getElem (by omega)
 exact⟨b,off,_,hA,hlt,e,hc k _ e⟩
theorem aM.at_ {xs:List Int}(h:aM w A n xs){k:Nat}(hk:k<n): ∃b off x,A=some ⟨b,off,none⟩/\b<w.heap.size/\xs[k]? =some x/\
 w.cell? ⟨b,off+k,none⟩=some (.int .i64 x):=by
 obtain⟨h1,h2,h3⟩:=h;obtain⟨b,off,hA,hlt,hc⟩:=h3 (by omega)
 have e:xs[k]? =some (xs[k]'(by omega)):=List.getElem?_eq_getElem (by omega)
 exact⟨b,off,_,hA,hlt,e,hc k _ e⟩
theorem aC.take {xs:List ay}(h:aC w A n xs){k:Nat}(hk:k<=n):aC w A k (xs.take k):=by
 obtain⟨h1,h2,h3⟩:=h;refine⟨by simp;omega,by omega,fun hn=>?_⟩
 obtain⟨b,off,hA,hlt,hc⟩:=h3 (by omega)
 refine⟨b,off,hA,hlt,fun i o ho=>hc i o ?_⟩
 rw[List.getElem?_take] at ho;split at ho
 .exact ho
 .cases ho
theorem aM.take {xs:List Int}(h:aM w A n xs){k:Nat}(hk:k<=n):aM w A k (xs.take k):=by
 obtain⟨h1,h2,h3⟩:=h;refine⟨by simp;omega,by omega,fun hn=>?_⟩
 obtain⟨b,off,hA,hlt,hc⟩:=h3 (by omega)
 refine⟨b,off,hA,hlt,fun i o ho=>hc i o ?_⟩
 rw[List.getElem?_take] at ho;split at ho
 .exact ho
 .cases ho
end
theorem aC.aH {w:World}{base:Nat}{e:TypeId}{c n:Nat}{A:Option Addr}{xs:List ay}(h:w.ownsRow base e 3 (.slice A n c) n (aB xs))(hn:n<=1099511627776):aC w A n xs:=by
 have hl:=h.1;rw[bQ] at hl;refine⟨by omega,hn,fun h0=>?_⟩
 rcases h.2 with⟨h1,h2⟩|⟨g,cap,cur,h1,h2,h3,h4,h5,h6,h7⟩
 .omega
 .injection h1 with hA _ _;subst hA;have hg:g<w.heap.size:=lt_of_block h3;refine⟨g,0,rfl,hg,fun i o ho=>?_⟩
  have hc: ∀j u,(aB xs)[j]? =some u->w.cell? ⟨g,0+j,none⟩=some u:=fun j u hu=>by
   have:=h.cells (g:=g) rfl j u hu;unfold Addr.add at this;split at this
   .subst_vars;simpa using this
   .simpa using this
  obtain⟨c0,c1,c2⟩:=CR xs i o ho;exact⟨by simpa using hc _ _ c0,by simpa[Nat.add_assoc] using hc _ _ c1,by simpa[Nat.add_assoc] using hc _ _ c2⟩
theorem aM.aH {w:World}{base:Nat}{e:TypeId}{c n:Nat}{A:Option Addr}{xs:List Int}(h:w.ownsRow base e 1 (.slice A n c) n (intCells xs))(hn:n<=1099511627776):aM w A n xs:=by
 have hl:=h.1;simp only[intCells,List.length_map] at hl;refine⟨by omega,hn,fun h0=>?_⟩
 rcases h.2 with⟨h1,h2⟩|⟨g,cap,cur,h1,h2,h3,h4,h5,h6,h7⟩
 .omega
 .injection h1 with hA _ _;subst hA;have hg:g<w.heap.size:=lt_of_block h3;refine⟨g,0,rfl,hg,fun i x hx=>?_⟩
  have:=h.cells (g:=g) rfl i (.int .i64 x) (by simp[intCells,hx])
  unfold Addr.add at this;split at this
  .subst_vars;simpa using this
  .simpa using this
#print axioms aC.aH
open Go.RowKit Go.ChangeShapes Go.WideShapes
theorem FY {w:World}{a:Addr}{v:Value}(h:w.cell? (a.add 0)=some v):a.spot=none:=by
 obtain⟨b,off,sp⟩:=a;cases sp with
 |none=>rfl
 |some q=>simp[Addr.add,World.cell?] at h;split at h<;>simp_all
theorem x9 (b off i:Nat):(⟨b,off,none⟩:Addr).add i=⟨b,off+i,none⟩:=by
 unfold Addr.add;split
 .subst_vars;rfl
 .rfl
def BytesIn (w:World)(A:Option Addr)(n c:Nat):Prop:=LQ w A n/\n<=c
theorem LU {H:Type}{enc:TypeId×Value->H}{w:World}{base:Nat}{spare:Nat->Bool}{held:Bool}{t e:TypeId}{len cap:Nat}{a:Option Addr}{d:DataW H}{p:List MemPlace}
 (ht:Tryz.prog.underlying t=some (.slice e)) (he:Tryz.prog.underlying e=some (.int .u8)) (hc:Tryz.prog.cellsOf e=1) (h:DataW.Trod enc Tryz.prog w base spare held t (.slice a len cap) d p):BytesIn w a len cap:=by
 obtain⟨fuel,hf⟩:=h;rcases open_ints ht he hc hf with⟨hcs,_⟩|⟨x,l,c,zs,hcs,_,hl,hm,hz,_,hcell,hwz⟩
 .simp[Value.cells] at hcs;obtain⟨rfl,rfl,rfl⟩:=hcs;exact⟨⟨by omega,fun h=>absurd h (by omega)⟩,Nat.le_refl _⟩
 .simp[Value.cells] at hcs;obtain⟨rfl,rfl,rfl⟩:=hcs;have hlz:len<=zs.length:=by rw[hz];split<;>omega
  unfold maxLen at hm;refine⟨⟨by omega,fun h0=>?_⟩,hl⟩
  have hsp:=FY (hcell 0 (by omega))
  obtain⟨b,off,sp⟩:=x;simp only at hsp;subst hsp;have h1:=hcell 0 (by omega)
  rw[x9] at h1;refine⟨b,off,rfl,block_lt_of_cell h1,fun i hi=>?_⟩
  have h2:=hcell i (by omega)
  have h3:=hwz (zs.getD i 0) (by rw[List.getD_eq_getElem?_getD,List.getElem?_eq_getElem (by omega)];exact List.getElem_mem _)
  refine⟨zs.getD i 0,?_,?_,?_⟩
  .have:=h3;simp[Lit.wf,IntKind.min,IntKind.max,IntKind.signed,IntKind.bits] at this;simpa using this.1
  .have:=h3;simp[Lit.wf,IntKind.min,IntKind.max,IntKind.signed,IntKind.bits] at this;simp;omega
  .rw[x9] at h2;exact h2
theorem dZ {a b:Bool}(ha:a=true)(hb:b=true):(a&&b)=true:=by rw[ha,hb];rfl
theorem bV {a b:Bool}(h:(a&&b)=true):a=true:=by cases a<;>simp_all
theorem gF {a b:Bool}(h:(a&&b)=true):b=true:=by cases b<;>simp_all
theorem CU:(Tryz.prog.info? 89).map (fun i=>(i.zero,i.size,i.bytes))=some (some (.agg #[.int .i64 0,.int .i64 0,.int .i64 0]),3,24):=by kernel_rfl
theorem jI:(Tryz.prog.info? 3).map (fun i=>(i.zero,i.size,i.bytes))=some (some (.int .i64 0),1,8):=by kernel_rfl
def Src (w:World)(size:Nat)(A:Option Addr)(m:Nat)(news:List Value):Prop:=
 news.length=m*size/\(∀u∈news,u.oneCell'=true)/\(0<m-> ∃ad,A=some ad/\ ∀j u,news[j]? =some u->w.cell? (ad.add j)=some u)
section
variable {P:Program} {w:World}
theorem Jz (base:Nat)(t ty e:TypeId)(i:TypeInfo)(size:Nat)(ht:P.underlying t=some (.slice e))(hi:P.info? e=some i)
 (v:Value) (n:Nat) (xs:List Value) (hown:w.ownsRow base e size v n xs) (c:Nat):(Builtin.append_ #[t,t] ty #[v,.slice none 0 c]).run P w=.ok v w:=by
 rcases hown.2 with⟨rfl,rfl⟩|⟨g,cap,cur,rfl,_,_,hnc,_⟩
 .simp[Builtin.append_,run_underlying ht,sizeOf,typeInfo,hi,Builtin.lenOf,Builtin.firstCells]
 .simp[Builtin.append_,run_underlying ht,sizeOf,typeInfo,hi,Builtin.lenOf,Builtin.firstCells,hnc,storeCells]
theorem Hl (base:Nat)(t ty e:TypeId)(i:TypeInfo)(z:Value)(size bytes:Nat)(ht:P.underlying t=some (.slice e))(hi:P.info? e=some i)(hz:i.zero=some z)
 (hsize:i.size=size) (hby:i.bytes=bytes) (hzs:z.cells.size=size) (hsz:0<size)
 (v:Value) (n:Nat) (xs:List Value) (hown:w.ownsRow base e size v n xs)
 (A:Option Addr) (m c:Nat) (news:List Value) (hr:Src w size A m news)
 (h63:n+m<=maxLen) (hbytes:(n+m)*bytes<=140737488355328) (hbase:base<=w.heap.size):
 ∃v' w',(Builtin.append_ #[t,t] ty #[v,.slice A m c]).run P w=.ok v' w'/\w'.ownsRow base e size v' (n+m) (xs++news)/\w.grownBy w' v.ownBlock/\
  (v'.ownBlock=v.ownBlock\/v'.ownBlock=some w.heap.size):=by
 obtain⟨hl,h1,hc⟩:=hr;rcases A with _|ad
 .have hm:m=0:=by
   rcases Nat.eq_zero_or_pos m with h0|h0
   .exact h0
   .obtain⟨ad,h,_⟩:=hc h0;cases h
  subst hm;have hn:news= [] :=List.eq_nil_of_length_eq_zero (by simpa using hl)
  subst hn;exact⟨v,w,Jz base t ty e i size ht hi v n xs hown c,by simpa using hown,World.grownBy.refl w _,.inl rfl⟩
 .have hcells: ∀j u,news[j]? =some u->w.cell? (ad.add j)=some u:=by
   intro j u hu;rcases Nat.eq_zero_or_pos m with h0|h0
   .subst h0;have hn:news= [] :=List.eq_nil_of_length_eq_zero (by simpa using hl)
    subst hn;simp at hu
   .obtain⟨ad',h,hc'⟩:=hc h0;injection h with h;subst h;exact hc' j u hu
  obtain⟨v',w',hrun,h2,h3,_,h5⟩:=run_append_own_at (P:=P) w base t ty e i z size bytes ht hi hz hsize hby hzs hsz v n xs hown ad m c news hl hcells h1 h63 hbytes hbase;exact⟨v',w',hrun,h2,h3,h5⟩
theorem lV {ops:Array Oper}{rest:List Oper}{o:Oper}{a:Act}{Q:Exit->Act->World->Prop}(hgd:o.guard=none)(s x:Operand)(t:TypeId)
 (ho:o.op=.call { callee:=.builtin .append,args:= #[s,x],argTypes:= #[t,t] })
 (base:Nat) (e:TypeId) (i:TypeInfo) (z:Value) (size bytes:Nat) (ht:P.underlying t=some (.slice e)) (hi:P.info? e=some i) (hz:i.zero=some z)
 (hsize:i.size=size) (hby:i.bytes=bytes) (hzs:z.cells.size=size) (hsz:0<size)
 (v:Value) (n:Nat) (xs:List Value) (hs:a.eval s=v) (hown:w.ownsRow base e size v n xs)
 (A:Option Addr) (m c:Nat) (news:List Value) (hx:a.eval x=.slice A m c) (hr:Src w size A m news)
 (h63:n+m<=maxLen) (hbytes:(n+m)*bytes<=140737488355328) (hbase:base<=w.heap.size)
 (h: ∀v' w',w'.ownsRow base e size v' (n+m) (xs++news)->w.grownBy w' v.ownBlock->(v'.ownBlock=v.ownBlock\/v'.ownBlock=some w.heap.size)->wpList P ops Q rest (a.put o.dst v') w'):wpList P ops Q (o::rest) a w:=by
 refine wpList_plain hgd fun _ hK=>?_
 obtain⟨v',w',hrun,h2,h3,h4⟩:=Hl (P:=P) base t o.type e i z size bytes ht hi hz hsize hby hzs hsz v n xs hown A m c news hr h63 hbytes hbase;unfold Oper.wp execOp;simp only[ho,resolve,invoke,builtin,Sem.run_bind,Sem.run_pure,Result.andThen_ok,List.map_toArray,List.map_cons,List.map_nil,hs,hx,hrun];exact hK _ _ (h v' w' h2 h3 h4)
end
theorem yc (ys:List ay): ∀ (j:Nat) (u:Value),(aB ys)[j]? =some u->
 ∃ (i:Nat) (o:ay),ys[i]? =some o/\((j=i*3/\u=.int .i64 o.tx)\/(j=i*3+1/\u=.int .i64 o.kind)\/(j=i*3+2/\u=.int .i64 o.item)):=by
 induction ys with
 |nil=>intro j u h;simp[aB] at h
 |cons y r ih=>
  intro j u h
  match j,h with
  |0,h=>exact⟨0,y,rfl,.inl ⟨rfl,by simpa[aB,eq_comm] using h⟩⟩
  |1,h=>exact⟨0,y,rfl,.inr (.inl ⟨rfl,by simpa[aB,eq_comm] using h⟩)⟩
  |2,h=>exact⟨0,y,rfl,.inr (.inr ⟨rfl,by simpa[aB,eq_comm] using h⟩)⟩
  |j+3,h=>
   obtain⟨i,o,h1,h2⟩:=ih j u (by simpa[aB] using h)
   exact⟨i+1,o,by simpa using h1,by rcases h2 with⟨a,b⟩|⟨a,b⟩|⟨a,b⟩<;>simp[b] <;>omega⟩
theorem addr_add (b off j:Nat):(⟨b,off,none⟩:Addr).add j=⟨b,off+j,none⟩:=by
 unfold Addr.add;split
 .subst_vars;rfl
 .rfl
theorem aC.src {w:World}{A:Option Addr}{m:Nat}{ys:List ay}(h:aC w A m ys):Src w 3 A m (aB ys):=by
 obtain⟨h1,h2,h3⟩:=h;refine⟨by rw[bQ,h1],tV ys,fun hm=>?_⟩
 obtain⟨b,off,hA,_,hc⟩:=h3 hm;refine⟨_,hA,fun j u hu=>?_⟩
 obtain⟨i,o,ho,h⟩:=yc ys j u hu;obtain⟨c0,c1,c2⟩:=hc i o ho;rw[addr_add];rcases h with⟨rfl,rfl⟩|⟨rfl,rfl⟩|⟨rfl,rfl⟩
 .exact c0
 .exact c1
 .exact c2
theorem aM.src {w:World}{A:Option Addr}{m:Nat}{ys:List Int}(h:aM w A m ys):Src w 1 A m (intCells ys):=by
 obtain⟨h1,h2,h3⟩:=h;refine⟨by simp[intCells,h1],Hg ys,fun hm=>?_⟩
 obtain⟨b,off,hA,_,hc⟩:=h3 hm;refine⟨_,hA,fun j u hu=>?_⟩
 rw[addr_add];simp only[intCells,List.getElem?_map,Option.map_eq_some_iff] at hu;obtain⟨x,hx,rfl⟩:=hu;exact hc j x hx
section
variable {w:World} {ops:Array Oper} {rest:List Oper} {o:Oper} {a:Act} {Q:Exit->Act->World->Prop}
theorem gX (s x:Operand){base:Nat}{v:Value}{n:Nat}{xs:List ay}(hown:w.ownsRow base 89 3 v n (aB xs))(hbase:base<=w.heap.size)
 {A:Option Addr} {m c:Nat} {ys:List ay} (hr:aC w A m ys) (hn:n<=1099511627776)
 (hgd:o.guard=none) (ho:o.op=.call { callee:=.builtin .append,args:= #[s,x],argTypes:= #[47,47] }) (hs:a.eval s=v) (hx:a.eval x=.slice A m c)
 (h: ∀v' w',w'.ownsRow base 89 3 v' (n+m) (aB (xs++ys))->w.grownBy w' v.ownBlock->(v'.ownBlock=v.ownBlock\/v'.ownBlock=some w.heap.size)->wpList Tryz.prog ops Q rest (a.put o.dst v') w'):wpList Tryz.prog ops Q (o::rest) a w:=by
 obtain⟨i0,hi,hz0,hz1,hz2⟩:=info_parts CU;have hm:=hr.2.1;refine lV hgd s x _ ho base _ i0 _ 3 24 Tryz.underlying47 hi hz0 hz1 hz2 rfl (by decide) v n _ hs hown A m c _ hx hr.src (by simp only[maxLen];omega) (by omega) hbase ?_
 intro v' w' h1 h2 h3;rw[<-iC] at h1;exact h v' w' h1 h2 h3
theorem gI (s x:Operand){base:Nat}{v:Value}{n:Nat}{xs:List Int}(hown:w.ownsRow base 3 1 v n (intCells xs))(hbase:base<=w.heap.size)
 {A:Option Addr} {m c:Nat} {ys:List Int} (hr:aM w A m ys) (hn:n<=1099511627776)
 (hgd:o.guard=none) (ho:o.op=.call { callee:=.builtin .append,args:= #[s,x],argTypes:= #[45,45] }) (hs:a.eval s=v) (hx:a.eval x=.slice A m c)
 (h: ∀v' w',w'.ownsRow base 3 1 v' (n+m) (intCells (xs++ys))->w.grownBy w' v.ownBlock->(v'.ownBlock=v.ownBlock\/v'.ownBlock=some w.heap.size)->wpList Tryz.prog ops Q rest (a.put o.dst v') w'):wpList Tryz.prog ops Q (o::rest) a w:=by
 obtain⟨i0,hi,hz0,hz1,hz2⟩:=info_parts jI;have hm:=hr.2.1;refine lV hgd s x _ ho base _ i0 _ 1 8 Tryz.underlying45 hi hz0 hz1 hz2 rfl (by decide) v n _ hs hown A m c _ hx hr.src (by simp only[maxLen];omega) (by omega) hbase ?_
 intro v' w' h1 h2 h3;have e:intCells xs++intCells ys=intCells (xs++ys):=by simp[intCells]
 rw[e] at h1;exact h v' w' h1 h2 h3
end
theorem aM.lit (w:World)(xs:List Int)(t:TypeId)(h:xs.length<=1099511627776):aM (w.alloc (.cells (intCells xs).toArray t)) (some ⟨w.heap.size,0,none⟩) xs.length xs:=by
 refine⟨rfl,h,fun _=>⟨w.heap.size,0,rfl,by simp,fun i x hx=>?_⟩⟩
 have:=cell_of_row (w.alloc (.cells (intCells xs).toArray t)) w.heap.size (0+i) _ t (0,0) (heap_alloc_new w _);rw[this];simp[intCells,hx]
theorem dB {w:World}{H:Nat}(hH:w.heap.size=H)(a:Int):aM (w.alloc (.cells #[.int .i64 a] 3)) (some ⟨H,0,none⟩) 1 [a] :=by subst hH;exact aM.lit w [a] _ (by simp)
theorem aC.dB (w:World)(o:ay)(t:TypeId):aC (w.alloc (.cells #[.int .i64 o.tx,.int .i64 o.kind,.int .i64 o.item] t)) (some ⟨w.heap.size,0,none⟩) 1 [o] :=by
 refine⟨rfl,by omega,fun _=>⟨w.heap.size,0,rfl,by simp,fun i x hx=>?_⟩⟩
 match i,hx with
 |0,hx=>
  simp at hx;subst hx;have:=fun k=>cell_of_row (w.alloc (.cells #[.int .i64 o.tx,.int .i64 o.kind,.int .i64 o.item] t)) w.heap.size k _ t (0,0) (heap_alloc_new w _)
  exact⟨this _,this _,this _⟩
#print axioms gX
open Go.RowKit Go.BigFrame
def Later (W:World):Type:= {u:World//Below W.heap.size W u}
instance (W:World):Nonempty (Later W):=⟨⟨W,Below.refl _ _⟩⟩
theorem Later.cell {W:World}{b o:Nat}{v:Value}(h:W.cell? ⟨b,o,none⟩=some v): ∀u:Later W,u.1.cell? ⟨b,o,none⟩=some v:=fun u=>
 (u.2.cell (p:=⟨b,o,none⟩) (block_lt_of_cell h)).trans h
theorem Later.below_ {W:World}{B:Nat}(u:Later W)(h:B<=W.heap.size):Below B W u.1:=u.2.mono h
theorem Later.size {W:World}(u:Later W):W.heap.size<=u.1.heap.size:=u.2.size
section
variable {P:Program}
theorem Ho {id:Nat}{Q:Exit->Act->World->Prop}{a:Act}{w:World}{l:List Oper}(hm:P.follows .mixedOrders=true)(hB:Region.lexB .any l.toArray=true)
 (h:wpQuiet P l.toArray (fun w'=> ∃u:Later w,w'=u.1) (fun a'=> ∀w',(∃u:Later w,w'=u.1)->Q .normal a' w') l a):(Code.region id l.toArray true).wp P Q a w:=
 wp_region_quiet (C:=fun w'=> ∃u:Later w,w'=u.1) hm hB ⟨⟨w.drew,aG.drew⟩,rfl⟩ (by simpa using h)
theorem aA {f:FuncId}{args:Array Value}{W:World}{v:Value}(u:Later W)(h:Calls P f args u.1 fun e w'=>e=.returned v/\Below u.1.heap.size u.1 w'):
 Calls P f args u.1 fun e w'=>e=.returned v/\ ∃u':Later W,w'=u'.1:=
 h.mono fun _ _ ⟨he,hb⟩=>⟨he,⟨_,u.2.trans (hb.mono u.2.size)⟩,rfl⟩
theorem wZ {f:FuncId}{args:Array Value}{W:World}{v:Value}(u:Later W)(h:Calls P f args u.1 fun e w'=>e=.returned v/\u.1=w'):
 Calls P f args u.1 fun e w'=>e=.returned v/\ ∃u':Later W,w'=u'.1:=
 h.mono fun _ _ ⟨he,hb⟩=>⟨he,u,hb.symm⟩
theorem aQ {id:Nat}{Q:Exit->Act->World->Prop}{a:Act}{w:World}{l:List Oper}
 (h:wpQuiet P l.toArray (fun w'=> ∃u:Later w,w'=u.1) (fun a'=> ∀w',(∃u:Later w,w'=u.1)->Q .normal a' w') l a)
 (hm:P.follows .mixedOrders=true:=by kernel_rfl) (hB:Region.lexB .any l.toArray=true:=by kernel_rfl):(Code.region id l.toArray true).wp P Q a w:=Ho hm hB h
theorem bM {ops:Array Oper}{Q:Exit->Act->World->Prop}{md:Region.Mode}{fuel:Nat}{listed:Array Bool}{a:Act}{w:World}(h:Q .normal a w)
 (hr:Region.ready md ops listed= [] :=by kernel_rfl):wpAny P md ops Q fuel listed a w:=wpAny_done hr h fuel
theorem bH {ops:Array Oper}{Q:Exit->Act->World->Prop}{md:Region.Mode}(i:Nat){oi:Oper}{v:Value}{fuel:Nat}{listed:Array Bool}{a:Act}{w:World}
 (h:wpAny P md ops Q fuel (listed.setIfInBounds i true) (a.put oi.dst v) w) (hi:ops[i]? =some oi:=by exact rfl)
 (hs:Region.noSelect ops=true:=by kernel_rfl) (hf:Region.free md ops listed i=true:=by kernel_rfl) (hr:(Region.ready md ops listed).contains i=true:=by kernel_rfl)
 (hQ: ∀c a w,Q (.panic c) (a.put oi.dst v) w->Q (.panic c) a w:=by exact fun _ _ _ h=>h) (hw:Region.wanted oi (yielded ops a.tmps)=true:=by kernel_rfl)
 (hv: ∀w,(execOp a.eval oi).run P w=.ok (.value v) w:=by(intro w;go_simp;try with_reducible rfl)):wpAny P md ops Q (fuel+1) listed a w:=
 wpAny_take hi hs hf hr hQ (.inl ⟨hw,hv⟩) h
theorem cK {ops:Array Oper}{Q:Exit->Act->World->Prop}{md:Region.Mode}(i:Nat){o:Oper}{fuel:Nat}{listed:Array Bool}{a:Act}{w:World}
 (h: ∀K':Act->World->Prop,(∀a w,wpAny P md ops Q fuel (listed.setIfInBounds i true) a w->K' a w)->if Region.wanted o (yielded ops a.tmps)=true then Oper.wp P o a w K' Q else K' (a.put o.dst undef) w)
 (ho:ops[i]? =some o:=by exact rfl) (hr:Region.ready md ops listed= [i] :=by kernel_rfl):wpAny P md ops Q (fuel+1) listed a w:=
 wpAny_ready hr (by simp) (.cons ho h .nil)
theorem uW {ops:Array Oper}{Q:Exit->Act->World->Prop}{md:Region.Mode}(i j:Nat){o p:Oper}{fuel:Nat}{listed:Array Bool}{a:Act}{w:World}
 (h: ∀K':Act->World->Prop,(∀a w,wpAny P md ops Q fuel (listed.setIfInBounds i true) a w->K' a w)->if Region.wanted o (yielded ops a.tmps)=true then Oper.wp P o a w K' Q else K' (a.put o.dst undef) w)
 (h2: ∀K':Act->World->Prop,(∀a w,wpAny P md ops Q fuel (listed.setIfInBounds j true) a w->K' a w)->if Region.wanted p (yielded ops a.tmps)=true then Oper.wp P p a w K' Q else K' (a.put p.dst undef) w)
 (ho:ops[i]? =some o:=by exact rfl) (hp:ops[j]? =some p:=by exact rfl) (hr:Region.ready md ops listed= [i,j] :=by kernel_rfl):wpAny P md ops Q (fuel+1) listed a w:=
 wpAny_ready hr (by simp) (.cons ho h (.cons hp h2 .nil))
theorem aC.later {W:World}{A:Option Addr}{n:Nat}{xs:List ay}(h:aC W A n xs)(u:Later W):aC u.1 A n xs:=h.below u.2 aj
theorem aM.later {W:World}{A:Option Addr}{n:Nat}{xs:List Int}(h:aM W A n xs)(u:Later W):aM u.1 A n xs:=h.below u.2 aj
end
theorem aV (w:World)(cs:Array Value)(T:TypeId)(i:Nat)(v:Value)(h:cs[i]? =some v):(w.alloc (.cells cs T)).cell? ⟨w.heap.size,i,none⟩=some v:=by
 rw[cell_of_row _ _ _ _ _ (0,0) (heap_alloc_new w _)];exact h
theorem kC {W wr:World}{t k i:Int}{T:TypeId}(hW:W=wr.alloc (.cells #[.int .i64 t,.int .i64 k,.int .i64 i] T)):
 (∀u:Later W,u.1.cell? ⟨wr.heap.size,0,none⟩=some (.int .i64 t))/\(∀u:Later W,u.1.cell? ⟨wr.heap.size,1,none⟩=some (.int .i64 k))/\(∀u:Later W,u.1.cell? ⟨wr.heap.size,2,none⟩=some (.int .i64 i))/\
 Below wr.heap.size wr W/\wr.heap.size<W.heap.size:=by
 subst hW;exact⟨Later.cell (aV _ _ _ _ _ rfl),Later.cell (aV _ _ _ _ _ rfl),Later.cell (aV _ _ _ _ _ rfl),aG.alloc aj _,by simp⟩
theorem Later.trans {w wr W:World}(h:Below w.heap.size w wr)(h1:Below wr.heap.size wr W)(u:Later W):Below w.heap.size w u.1:=(h.trans (h1.mono h.size)).trans (u.2.mono (Nat.le_trans h.size h1.size))
def bU (o:ay):Bool:=o.kind==0||o.kind==1
def aK (o:ay):Bool:=o.kind==2||o.kind==3
def xW (n lo hi:Int):Bool:=decide (lo<=n) &&decide (n<=hi)
def aJ (o:ay):Bool:=xW o.tx 0 3&& (bU o&&xW o.item 0 2||aK o&&o.item==0)
def dz (s:List ay)(t:Int):Int:=((s.find? fun o=>o.tx==t&&aK o).map ay.kind).getD (-1)
theorem rz (n low high:Int)(w:World):
 Calls Tryz.prog 169 #[.int .i64 n,.int .i64 low,.int .i64 high] w fun e w'=>e=.returned (.bool (xW n low high))/\w=w':=by
 go_enter Tryz.func169,Tryz.ntmps169;go_wp2
 all_goals (go_ret;exact⟨aI (by simp[xW];omega),rfl⟩)
theorem JA (n low high:Int)(w:World):
 Calls Tryz.prog 136 #[.int .i64 n,.int .i64 low,.int .i64 high] w fun e w'=>e=.returned (.bool (xW n low high))/\w=w':=by
 go_enter Tryz.func136,Tryz.ntmps136;go_wp2
 all_goals (go_ret;exact⟨aI (by simp[xW];omega),rfl⟩)
theorem oh (o:ay)(w:World):
 Calls Tryz.prog 121 #[o.val] w fun e w'=>e=.returned (.bool (bU o))/\Below w.heap.size w w':=by
 obtain⟨t,k,x⟩:=o;unfold ay.val;go_enter Tryz.func121,Tryz.ntmps121;go_wp2
 all_goals (go_ret;exact⟨aI (by first|(simp[bU];done)|rfl|simp[bU, *]),aG.alloc aj _⟩)
theorem CV (o:ay)(w:World):
 Calls Tryz.prog 161 #[o.val] w fun e w'=>e=.returned (.bool (aK o))/\Below w.heap.size w w':=by
 obtain⟨t,k,x⟩:=o;unfold ay.val;go_enter Tryz.func161,Tryz.ntmps161;go_wp2
 all_goals (go_ret;exact⟨aI (by first|(simp[aK];done)|rfl|simp[aK, *]),aG.alloc aj _⟩)
theorem bJ (o:ay)(w:World):
 Calls Tryz.prog 87 #[o.val] w fun e w'=>e=.returned (.bool (aK o))/\Below w.heap.size w w':=by
 obtain⟨t,k,x⟩:=o;unfold ay.val;go_enter Tryz.func87,Tryz.ntmps87;go_wp2
 all_goals (go_ret;exact⟨aI (by first|(simp[aK];done)|rfl|simp[aK, *]),aG.alloc aj _⟩)
theorem uX (o:ay)(w:World):
 Calls Tryz.prog 145 #[o.val] w fun e w'=>e=.returned (.bool (aJ o))/\Below w.heap.size w w':=by
 obtain⟨t,k,x⟩:=o;unfold ay.val;cases h1:xW t 0 3<;>cases h2:bU ⟨t,k,x⟩<;>cases h3:xW x 0 2<;>cases h4:aK ⟨t,k,x⟩<;>cases h5:(x==0)
 all_goals
  go_enter Tryz.func145,Tryz.ntmps145;go_wp2_with (first
   |(go_at_call 169;refine(rz _ _ _ _).mono ?_;rintro e w' ⟨rfl,rfl⟩)
   |(go_at_call 121;refine(oh ⟨t,k,x⟩ _).mono ?_;rintro e w' ⟨rfl,hb⟩;obtain⟨bc,bf⟩:=Od hb;have hsz:w.heap.size<w'.heap.size:=by(have:=hb.size; (try simp at this);omega))
   |(go_at_call 161;refine(CV ⟨t,k,x⟩ _).mono ?_;rintro e w' ⟨rfl,hb⟩;obtain⟨bc,bf⟩:=Od hb;have hsz:w.heap.size<w'.heap.size:=by(have:=hb.size; (try simp at this);omega)))
 all_goals
  go_ret;exact⟨aI (by simp[aJ, *]),by(repeat(first|exact Below.refl _ _|assumption|refine aZ ?_ aj _|refine Below.drew ?_|refine bE ?_ _|refine bD (by assumption) ?_|(refine dF ?_ ?_;rotate_left; (first|exact Nat.le_refl _|(simp;done)|(simp at*;omega)))))⟩
end Go.Proofs.YtddkjbibjjehjaaGreatDoor
