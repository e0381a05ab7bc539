/-
  Texts that the proof rests on, joined: part 4.
-/
import Derived.Lib.Join
import Derived.Lib.IndexLaws
import Derived.Lib.Strings
import Derived.SliceStrings
import Derived.Test.YtddkjbibjjehjaaGreatDoorSXr3
set_option maxHeartbeats 16000000
set_option maxRecDepth 100000
namespace Go.Proofs.YtddkjbibjjehjaaGreatDoor
open Go.RowKit
set_option linter.unusedVariables false
def R9:List UInt8:= [114,119,99,97]
def RH:List UInt8:= [48,49,50,51]
def Xr:List UInt8:= [120,121,122]
def pF (o:ay):List UInt8:= [R9.getD o.kind.toNat 0,RH.getD o.tx.toNat 0] ++(if bU o then [Xr.getD o.item.toNat 0] else [])
def iw:ay:=⟨-1,0,0⟩
def tJ:List UInt8->ay
 |k::t::r=>
  if t<48||57<t then iw
  else if k==114||k==119 then(match r with| [x] =>if x<120||122<x then iw else⟨(t.toNat:Int) -48,if k==114 then 0 else 1,(x.toNat:Int) -120⟩|_=>iw)
  else if k==99||k==97 then(match r with| [] =>⟨(t.toNat:Int) -48,if k==99 then 2 else 3,0⟩|_=>iw)
  else iw
 |_=>iw
theorem rE:aJ iw=false:=by decide
theorem Dh {o:ay}(h:aJ o=true):(∃k t x:Nat,k<2/\t<4/\x<3/\o=⟨t,k,x⟩)\/(∃k t:Nat,(k=2\/k=3)/\t<4/\o=⟨t,k,0⟩):=by
 obtain⟨t,k,x⟩:=o;unfold aJ xW at h;simp only[Bool.and_eq_true,Bool.or_eq_true,decide_eq_true_eq,bU,aK,beq_iff_eq] at h;obtain⟨ht,hk⟩:=h;rcases hk with⟨hk,hx⟩|⟨hk,hx⟩
 .exact .inl ⟨k.toNat,t.toNat,x.toNat,by omega,by omega,by omega,by congr 1<;>omega⟩
 .exact .inr ⟨k.toNat,t.toNat,by omega,by omega,by subst hx;congr 1<;>omega⟩
theorem LY {p:ay->Prop}(h1: ∀k,k<2-> ∀t,t<4-> ∀x,x<3->p ⟨(t:Nat),(k:Nat),(x:Nat)⟩)(h2: ∀k,k<4->2<=k-> ∀t,t<4->p ⟨(t:Nat),(k:Nat),0⟩){o:ay}(h:aJ o=true):p o:=by
 rcases Dh h with⟨k,t,x,hk,ht,hx,rfl⟩|⟨k,t,hk,ht,rfl⟩
 .exact h1 k hk t ht x hx
 .exact h2 k (by omega) (by omega) t ht
theorem Xt {o:ay}(h:aJ o=true):tJ (pF o)=o:=LY (p:=fun o=>tJ (pF o)=o) (by decide) (by decide) h
theorem Di {x:UInt8}{a b:Nat}(h1:a<=x.toNat)(h2:x.toNat<=b)(p:UInt8->Prop)(h: ∀n,n<256->a<=n->n<=b->p (UInt8.ofNat n)):p x:=by
 have:=h x.toNat (by have:=x.toNat_lt;omega) h1 h2
 rwa [UInt8.ofNat_toNat] at this
theorem aac {l:List UInt8}(h:aJ (tJ l)=true):pF (tJ l)=l:=by
 match l with
 | [] =>exact absurd h (by decide)
 | [_] =>exact absurd h (by simp[tJ,rE])
 |k::t::r=>
  dsimp only[tJ] at h ⊢
  by_cases ht:(t<48||57<t)=true
  .rw[if_pos ht,rE] at h;cases h
  .rw[if_neg ht] at h ⊢;have ht2:48<=t.toNat/\t.toNat<=57:=by
    simp only[Bool.or_eq_true,decide_eq_true_eq,not_or,UInt8.lt_iff_toNat_lt] at ht;have e1:(48:UInt8).toNat=48:=rfl;have e2:(57:UInt8).toNat=57:=rfl;omega
   by_cases hk:(k==114||k==119)=true
   .rw[if_pos hk] at h ⊢
    match r with
    | [] =>rw[rE] at h;cases h
    |_::_::_=>rw[rE] at h;cases h
    | [x] =>
     simp only at h ⊢;by_cases hx:(x<120||122<x)=true
     .rw[if_pos hx,rE] at h;cases h
     .rw[if_neg hx] at h ⊢;have hx2:120<=x.toNat/\x.toNat<=122:=by
       simp only[Bool.or_eq_true,decide_eq_true_eq,not_or,UInt8.lt_iff_toNat_lt] at hx;have e1:(120:UInt8).toNat=120:=rfl;have e2:(122:UInt8).toNat=122:=rfl;omega
      have ht3:t.toNat<=51:=by
       unfold aJ xW at h;simp only[Bool.and_eq_true,decide_eq_true_eq] at h;omega
      simp only[Bool.or_eq_true,beq_iff_eq] at hk;refine Di hx2.1 hx2.2 (fun x=>pF ⟨(t.toNat:Int) -48,if(k==114)=true then 0 else 1,(x.toNat:Int) -120⟩= [k,t,x]) fun n hn h1 h2=>?_
      refine Di ht2.1 ht3 (fun t=>pF ⟨(t.toNat:Int) -48,if(k==114)=true then 0 else 1,((UInt8.ofNat n).toNat:Int) -120⟩= [k,t,UInt8.ofNat n]) fun m hm h3 h4=>?_
      rcases hk with rfl|rfl<;>rcases(by omega:n=120\/n=121\/n=122) with rfl|rfl|rfl<;>rcases(by omega:m=48\/m=49\/m=50\/m=51) with rfl|rfl|rfl|rfl<;>rfl
   .rw[if_neg hk] at h ⊢;by_cases hk2:(k==99||k==97)=true
    .rw[if_pos hk2] at h ⊢
     match r with
     |_::_=>rw[rE] at h;cases h
     | [] =>
      simp only at h ⊢;have ht3:t.toNat<=51:=by
       unfold aJ xW at h;simp only[Bool.and_eq_true,decide_eq_true_eq] at h;omega
      simp only[Bool.or_eq_true,beq_iff_eq] at hk2;refine Di ht2.1 ht3 (fun t=>pF ⟨(t.toNat:Int) -48,if(k==99)=true then 2 else 3,0⟩= [k,t]) fun m hm h3 h4=>?_
      rcases hk2 with rfl|rfl<;>rcases(by omega:m=48\/m=49\/m=50\/m=51) with rfl|rfl|rfl|rfl<;>rfl
    .rw[if_neg hk2,rE] at h;cases h
def Jw (l:List UInt8):ay:=⟨Lib.indexByte RH (l.getD 1 0),Lib.indexByte R9 (l.getD 0 0),if l.length=3 then Lib.indexByte Xr (l.getD 2 0) else 0⟩
def F3 (l:List UInt8):Bool:=decide (2<=l.length) &&decide (l.length<=3) &&aJ (Jw l) &&pF (Jw l)==l
theorem X7 {o:ay}(h:aJ o=true):Jw (pF o)=o:=LY (p:=fun o=>Jw (pF o)=o) (by decide) (by decide) h
theorem Hw {o:ay} :2<=(pF o).length/\(pF o).length<=3:=by
 unfold pF;split<;>simp
theorem X8 (l:List UInt8):F3 l=aJ (tJ l):=by
 rw[Bool.eq_iff_iff];constructor
 .intro h;unfold F3 at h;simp only[Bool.and_eq_true,beq_iff_eq] at h;rw[<-h.2,Xt h.1.2];exact h.1.2
 .intro h;have e:=aac h;have e2:Jw l=tJ l:=by
   have:=X7 h;rw[e] at this;exact this
  unfold F3;have hl:=Hw (o:=tJ l);rw[e] at hl;rw[e2,h,e];simp[hl]
theorem X9 {l:List UInt8}(h:F3 l=true):Jw l=tJ l:=by
 unfold F3 at h;simp only[Bool.and_eq_true,beq_iff_eq] at h;have:=Xt h.1.2;rw[h.2] at this;exact this.symm
def fK (d:UInt8):List UInt8->List (List UInt8)
 | [] => [[]]
 |c::r=>if c==d then [] ::fK d r else match fK d r with| [] => [[c]] |h::t=>(c::h)::t
abbrev spl (l:List UInt8):List (List UInt8):=fK 44 l
theorem yw (d:UInt8)(l:List UInt8):fK d l≠ [] :=by
 cases l with
 |nil=>simp[fK]
 |cons c r=>
  simp only[fK];split
  .simp
  .split<;>simp
theorem Dj (d:UInt8): ∀l:List UInt8,(fK d l).length<=l.length+1:=by
 intro l;induction l with
 |nil=>simp[fK]
 |cons c r ih=>
  simp only[fK];split
  .simp only[List.length_cons];omega
  .cases e:fK d r with
   |nil=>simp
   |cons h t=>rw[e] at ih;simp only[List.length_cons] at ih ⊢;omega
theorem gG (d:UInt8): ∀l:List UInt8,∀p∈fK d l,p.length<=l.length:=by
 intro l;induction l with
 |nil=>intro p hp;simp[fK] at hp;subst hp;simp
 |cons c r ih=>
  intro p hp;simp only[fK] at hp;split at hp
  .rcases List.mem_cons.1 hp with rfl|hp
   .simp
   .have:=ih p hp;simp only[List.length_cons];omega
  .cases e:fK d r with
   |nil=>exact absurd e (yw d r)
   |cons h t=>
    rw[e] at hp ih;simp only at hp;rcases List.mem_cons.1 hp with rfl|hp
    .have:=ih h (by simp);simp only[List.length_cons];omega
    .have:=ih p (by simp[hp]);simp only[List.length_cons];omega
def Dl (d:UInt8)(l:List UInt8)(k:Nat)(out:List (List UInt8))(from_:Nat):Prop:=
 from_<=k/\k<=l.length/\out.length<=k/\ ∃h t,fK d (l.drop k)=h::t/\fK d l=out++((l.drop from_).take (k-from_)++h)::t
theorem JH (d:UInt8)(l:List UInt8):Dl d l 0 [] 0:=by
 refine⟨Nat.le_refl _,Nat.zero_le _,Nat.le_refl _,?_⟩;cases e:fK d l with
 |nil=>exact absurd e (yw d l)
 |cons h t=>exact⟨h,t,by simpa using e,by simp⟩
theorem Pg {d:UInt8}{l:List UInt8}{k f:Nat}{out:List (List UInt8)}(h:Dl d l k out f)(hx:l[k]? =some d):Dl d l (k+1) (out++ [(l.drop f).take (k-f)]) (k+1):=by
 obtain⟨h1,h2,h3,hh,t,e1,e2⟩:=h;obtain⟨hl,hx⟩:=List.getElem?_eq_some_iff.1 hx;rw[List.drop_eq_getElem_cons hl,hx] at e1;simp only[fK,beq_self_eq_true,if_true] at e1;injection e1 with e3 e4;subst e3;refine⟨Nat.le_refl _,hl,by simp;omega,?_⟩
 cases e:fK d (l.drop (k+1)) with
 |nil=>exact absurd e (yw d _)
 |cons a b=>
  refine⟨a,b,rfl,?_⟩;rw[e2,<-e4,e];simp
theorem R_ {d:UInt8}{l:List UInt8}{k f:Nat}{out:List (List UInt8)}{x:UInt8}(h:Dl d l k out f)(hx:l[k]? =some x)(hne:x≠d):Dl d l (k+1) out f:=by
 obtain⟨h1,h2,h3,hh,t,e1,e2⟩:=h;obtain⟨hl,hx⟩:=List.getElem?_eq_some_iff.1 hx;rw[List.drop_eq_getElem_cons hl,hx] at e1;have hb:(x==d)=false:=by rw[beq_eq_false_iff_ne];exact hne
 simp only[fK,hb] at e1;refine⟨by omega,hl,by omega,?_⟩
 cases e:fK d (l.drop (k+1)) with
 |nil=>exact absurd e (yw d _)
 |cons a b=>
  rw[e] at e1;simp only[Bool.false_eq_true,if_false] at e1;injection e1 with e3 e4;refine⟨a,b,rfl,?_⟩;rw[e2,<-e3,<-e4];have:(l.drop f).take (k+1-f)=(l.drop f).take (k-f)++ [x] :=by
   rw[show k+1-f=(k-f)+1 by omega,List.take_add_one,List.getElem?_drop,show f+(k-f)=k by omega,List.getElem?_eq_getElem hl,hx];rfl
  rw[this];simp
theorem Ph {d:UInt8}{l:List UInt8}{f:Nat}{out:List (List UInt8)}(h:Dl d l l.length out f):fK d l=out++ [(l.drop f)] :=by
 obtain⟨h1,h2,h3,hh,t,e1,e2⟩:=h;rw[List.drop_length] at e1;simp only[fK] at e1;injection e1 with e3 e4;subst e3;rw[e2,<-e4,List.append_nil,List.take_of_length_le (by simp)]
theorem rF {d:UInt8} : ∀ {l:List UInt8},(Lib.indexByte l d<0->fK d l= [l])/\(0<=Lib.indexByte l d->(Lib.indexByte l d).toNat<l.length/\fK d l=l.take (Lib.indexByte l d).toNat::fK d (l.drop ((Lib.indexByte l d).toNat+1))):=by
 intro l;induction l with
 |nil=>exact⟨fun _=>rfl,fun h=>by simp[Lib.indexByte] at h⟩
 |cons c r ih=>
  have hge:=Lib.indexByte_ge r d;by_cases hc:c=d
  .subst hc;simp[Lib.indexByte,fK]
  .have hb:(c==d)=false:=by rw[beq_eq_false_iff_ne];exact hc
   by_cases hn:Lib.indexByte r d<0
   .have e:Lib.indexByte (c::r) d= -1:=by simp[Lib.indexByte,hb];omega
    refine⟨fun _=>?_,fun h=>by omega⟩
    simp only[fK,hb];rw[ih.1 hn];rfl
   .have e:Lib.indexByte (c::r) d=Lib.indexByte r d+1:=by simp[Lib.indexByte,hb];omega
    obtain⟨h1,h2⟩:=ih.2 (by omega)
    refine⟨fun h=>by omega,fun _=>?_⟩
    have e2:(Lib.indexByte (c::r) d).toNat=(Lib.indexByte r d).toNat+1:=by omega
    rw[e2];refine⟨by simp;omega,?_⟩
    simp only[fK,hb];rw[h2];simp
def bX (s:List ay):List UInt8:=Lib.join (s.map pF) [44]
def aX (b:List UInt8):List ay:=if b= [] then [] else(spl b).map tJ
open Go.RowKit Go.BigFrame
abbrev dw (x:List UInt8):Value:=.string ⟨⟨x⟩⟩
def strCells (xs:List (List UInt8)):List Value:=xs.map dw
theorem Cb:(Tryz.prog.info? 9).map (fun i=>(i.zero,i.size,i.bytes))=some (some (.string ByteArray.empty),1,16):=by kernel_rfl
def eO (w:World)(A:Option Addr)(n:Nat)(xs:List (List UInt8)):Prop:=
 xs.length=n/\n<=1099511627776/\(0<n-> ∃b off,A=some ⟨b,off,none⟩/\b<w.heap.size/\ ∀i x,xs[i]? =some x->w.cell? ⟨b,off+i,none⟩=some (dw x))
theorem eO.nil {w:World}{A:Option Addr} :eO w A 0 [] :=⟨rfl,by omega,fun h=>absurd h (by omega)⟩
theorem eO.below {w w':World}{A:Option Addr}{n B:Nat}{xs:List (List UInt8)}(h:eO w A n xs)(hb:Below B w w')(hB:w.heap.size<=B):eO w' A n xs:=by
 refine⟨h.1,h.2.1,fun h0=>?_⟩
 obtain⟨b,off,hA,hlt,hc⟩:=h.2.2 h0;exact⟨b,off,hA,Nat.lt_of_lt_of_le hlt hb.size,fun i x hx=>(hb.cell (p:=⟨b,_,none⟩) (by simp;omega)).trans (hc i x hx)⟩
theorem eO.at_ {w:World}{A:Option Addr}{n k:Nat}{xs:List (List UInt8)}(h:eO w A n xs)(hk:k<n): ∃b off x,A=some ⟨b,off,none⟩/\b<w.heap.size/\xs[k]? =some x/\w.cell? ⟨b,off+k,none⟩=some (dw x):=by
 obtain⟨b,off,hA,hlt,hc⟩:=h.2.2 (by omega)
 have e:xs[k]? =some (xs[k]'(by rw[h.1];exact hk)):=List.getElem?_eq_getElem _
 exact⟨b,off,_,hA,hlt,e,hc k _ e⟩
theorem Hy (xs:List (List UInt8)): ∀u∈strCells xs,u.oneCell'=true:=by
 intro u hu;obtain⟨x,_,rfl⟩:=List.mem_map.1 hu;rfl
theorem eO.src {w:World}{A:Option Addr}{m:Nat}{ys:List (List UInt8)}(h:eO w A m ys):Src w 1 A m (strCells ys):=by
 obtain⟨h1,h2,h3⟩:=h;refine⟨by simp[strCells,h1],Hy ys,fun hm=>?_⟩
 obtain⟨b,off,hA,_,hc⟩:=h3 hm;refine⟨_,hA,fun j u hu=>?_⟩
 rw[addr_add];simp only[strCells,List.getElem?_map,Option.map_eq_some_iff] at hu;obtain⟨x,hx,rfl⟩:=hu;exact hc j x hx
theorem eO.aH {w:World}{base n c:Nat}{A:Option Addr}{xs:List (List UInt8)}(h:w.ownsRow base 9 1 (.slice A n c) n (strCells xs))(hn:n<=1099511627776):eO w A n xs:=by
 have hl:=h.1;simp[strCells] at hl;refine⟨by omega,hn,fun h0=>?_⟩
 rcases h.2 with⟨h1,h2⟩|⟨g,cap,cur,h1,h2,h3,h4,h5,h6,h7⟩
 .omega
 .injection h1 with hA _ _;subst hA;refine⟨g,0,rfl,lt_of_block h3,fun i x hx=>?_⟩
  have:=h.cells (g:=g) rfl i (dw x) (by simp[strCells,hx])
  unfold Addr.add at this;split at this
  .subst_vars;simpa using this
  .simpa using this
theorem rG {w:World}{H:Nat}(hH:w.heap.size=H){s:ByteArray}{x:List UInt8}(hs:s=⟨⟨x⟩⟩):eO (w.alloc (.cells #[.string s] 9)) (some ⟨H,0,none⟩) 1 [x] :=by
 subst hH;subst hs;refine⟨rfl,by omega,fun _=>⟨w.heap.size,0,rfl,by simp,fun i y hy=>?_⟩⟩
 match i,hy with
 |0,hy=>
  simp at hy;subst hy;exact cell_of_row _ _ _ _ _ (0,0) (heap_alloc_new w _)
theorem rH (l:List UInt8)(a b:Nat):(ByteArray.extract ⟨⟨l⟩⟩ a b)=⟨⟨(l.drop a).take (b-a)⟩⟩:=Lib.extract_eq _ _ _
section
variable {w:World} {ops:Array Oper} {rest:List Oper} {o:Oper} {a:Act} {Q:Exit->Act->World->Prop}
theorem oz (s x:Operand){base:Nat}{v:Value}{n:Nat}{xs:List (List UInt8)}(hown:w.ownsRow base 9 1 v n (strCells xs))(hbase:base<=w.heap.size)
 {A:Option Addr} {m c:Nat} {ys:List (List UInt8)} (hr:eO w A m ys) (hn:n+m<=1099511627776)
 (hgd:o.guard=none) (ho:o.op=.call { callee:=.builtin .append,args:= #[s,x],argTypes:= #[22,22] }) (hs:a.eval s=v) (hx:a.eval x=.slice A m c)
 (h: ∀v' w',w'.ownsRow base 9 1 v' (n+m) (strCells (xs++ys))->w.grownBy w' v.ownBlock->(v'.ownBlock=v.ownBlock\/v'.ownBlock=some w.heap.size)->wpList Tryz.prog ops Q rest (a.put o.dst v') w'):wpList Tryz.prog ops Q (o::rest) a w:=by
 obtain⟨i0,hi,hz0,hz1,hz2⟩:=info_parts Cb;have hm:=hr.2.1;refine lV hgd s x _ ho base _ i0 _ 1 16 Tryz.underlying22 hi hz0 hz1 hz2 rfl (by decide) v n _ hs hown A m c _ hx hr.src (by simp only[maxLen];omega) (by omega) hbase ?_
 intro v' w' h1 h2 h3;have e:strCells xs++strCells ys=strCells (xs++ys):=by simp[strCells]
 rw[e] at h1;exact h v' w' h1 h2 h3
end
def dH (w0:World)(xs:List (List UInt8))(e:Ending)(w:World):Prop:=
 ∃A c,e=.returned (.slice A xs.length c)/\xs.length<=c/\eO w A xs.length xs/\(∀ad,A=some ad->w0.heap.size<=ad.block)/\Below w0.heap.size w0 w
theorem Sb {w:World}{base n c:Nat}{e:TypeId}{size:Nat}{A:Option Addr}{xs:List Value}(h:w.ownsRow base e size (.slice A n c) n xs): ∀ad,A=some ad->base<=ad.block:=by
 intro ad had;have:=World.ownsRow.lt h ad.block (by rw[had];rfl)
 exact this.1
theorem dH.mk {w0 w:World}{xs:List (List UInt8)}{A:Option Addr}{n c:Nat}(hn:xs.length=n)(hc:n<=c)(h1:eO w A n xs)(hA: ∀ad,A=some ad->w0.heap.size<=ad.block)(hb:Below w0.heap.size w0 w):dH w0 xs (.returned (.slice A n c)) w:=by
 subst hn;exact⟨A,c,rfl,hc,h1,hA,hb⟩
theorem eO.grown {w w':World}{A:Option Addr}{n:Nat}{row:Option Nat}{xs:List (List UInt8)}(h:eO w A n xs)(hg:w.grownBy w' row)(hne: ∀ad,A=some ad->row≠some ad.block):eO w' A n xs:=by
 refine⟨h.1,h.2.1,fun h0=>?_⟩
 obtain⟨b,off,hA,hlt,hc⟩:=h.2.2 h0;have hk:w'.heap[b]? =w.heap[b]? :=hg.block b hlt (fun e=>hne _ hA e.symm)
 exact⟨b,off,hA,Nat.lt_of_lt_of_le hlt (World.grownBy.size hg),fun i x hx=>(World.cell?_of_block (w:=w) (a:=⟨b,off+i,none⟩) hk).trans (hc i x hx)⟩
theorem JI {w:World}{base n:Nat}{v:Value}{xs:List (List UInt8)}(h:w.ownsRow base 9 1 v n (strCells xs)):xs.length=n:=by
 have:=h.1;simpa[strCells] using this
open Go.RowKit Go.ChangeShapes Go.WideShapes
def Hz (w:World)(A:Option Addr)(n c:Nat):Prop:=n<=c/\c<=maxLen/\(n<=1099511627776-> ∃ls,eO w A n ls/\ ∀l∈ls,l.length<=maxLen)
theorem open_strs {H:Type}{enc:TypeId×Value->H}{P:Program}{w:World}{base:Nat}{spare:Nat->Bool}{held:Bool}{t e:TypeId}{fuel len cap:Nat}{a:Option Addr}{x:DataW H×List MemPlace}
 (ht:P.underlying t=some (.slice e)) (he:P.underlying e=some .string) (hc:P.cellsOf e=1) (h:DataW.trod enc P w base spare held fuel t [.slice a len cap] =some x):Hz w a len cap:=by
 rcases open_strings ht he hc h with⟨hcs,_⟩|⟨a',len',cap',ss,hcs,_,hl,hm,hz,_,hcell,hsz⟩
 .injection hcs with h0 _;injection h0 with h1 h2 h3;subst h1;subst h2;subst h3;exact⟨Nat.le_refl _,Nat.zero_le _,fun _=>⟨[],eO.nil,fun l hl=>by cases hl⟩⟩
 .injection hcs with hcs _;injection hcs with h1 h2 h3;subst h1;subst h2;subst h3;refine⟨hl,hm,fun hlen=>?_⟩
  have hls:len<=ss.length:=by rw[hz];split<;>omega
  refine⟨(ss.take len).map (·.data.toList),⟨by simp;omega,hlen,fun h0=>?_⟩,fun l hl=>?_⟩
  .have hsp:=FY (hcell 0 (by omega))
   obtain⟨b,off,sp⟩:=a';simp only at hsp;subst hsp;have c0:=hcell 0 (by omega)
   rw[x9] at c0;refine⟨b,off,rfl,?_,fun i y hi=>?_⟩
   .rcases Nat.lt_or_ge b w.heap.size with h|h
    .exact h
    .simp[World.cell?,Array.getElem?_eq_none h] at c0
   .rw[List.getElem?_map,Option.map_eq_some_iff] at hi;obtain⟨s,hs,rfl⟩:=hi;rw[List.getElem?_take] at hs;split at hs
    .obtain⟨hi2,he2⟩:=List.getElem?_eq_some_iff.1 hs;have:=hcell i hi2;rw[x9] at this;rw[this,List.getD_eq_getElem?_getD,hs];rfl
    .cases hs
  .obtain⟨s,hs,rfl⟩:=List.mem_map.1 hl;have:=hsz s (List.mem_of_mem_take hs);rw[<-Lib.size_eq];exact this
theorem yx (o:ay)(w:World):
 Calls Tryz.prog 88 #[o.val] w fun e w'=>e=.returned (.bool (aJ o))/\Below w.heap.size w w':=by
 obtain⟨t,k,x⟩:=o;unfold ay.val;have hcase:xW t 0 3=false\/(xW t 0 3=true/\(k=0\/k=1\/(k=2/\x=0)\/(k=2/\(x==0)=false)\/(k=3/\x=0)\/(k=3/\(x==0)=false)\/((k==0)=false/\(k==1)=false/\(k==2)=false/\(k==3)=false))):=by
  cases h1:xW t 0 3
  .exact .inl rfl
  .refine .inr ⟨rfl,?_⟩;simp only[beq_eq_false_iff_ne];omega
 rcases hcase with h1|⟨h1,rfl|rfl|⟨rfl,rfl⟩|⟨rfl,h5⟩|⟨rfl,rfl⟩|⟨rfl,h5⟩|⟨h2,h3,h4,h5⟩⟩
 all_goals
  go_enter Tryz.func88,Tryz.ntmps88;go_wp2_with (go_at_call 136;refine(JA _ _ _ _).mono ?_;rintro e w' ⟨rfl,rfl⟩)
  go_ret;exact⟨aI (by simp[aJ,bU,aK, *]),by(repeat(first|exact Below.refl _ _|assumption|refine aZ ?_ aj _|refine Below.drew ?_|refine bE ?_ _|refine bD (by assumption) ?_|(refine dF ?_ ?_;rotate_left; (first|exact Nat.le_refl _|(simp;done)|(simp at*;omega)))))⟩
theorem rJ (A:Option Addr)(n c:Nat)(s:List ay)(w:World)(hx:aC w A n s):
 Calls Tryz.prog 48 #[.slice A n c] w fun e w'=>e=.returned (.bool (aF s))/\Below w.heap.size w w':=by
 have hn:=hx.2.1;have hl:=hx.1;have HX:=ah hx;clear hx;by_cases h16:16<n
 .have HV:Hid (aF s=false):=by
   show _=_
   unfold aF;have:decide (s.length<=16)=false:=by simp;omega
   rw[this];rfl
  go_enter Tryz.func48,Tryz.ntmps48;go_wp2_with fail
  go_ret;exact⟨aI HV.out.symm,Below.refl _ _⟩
 .go_enter Tryz.func48,Tryz.ntmps48;go_wp2_with fail
  go_loopw [3] (fun i wr=> ∃k:Nat,k<=n/\i=.int .i64 k/\Below w.heap.size w wr/\(∀j,j<k->kY s j=true)) (fun i _=>n- (intOf i).toNat)
  case atStart=>exact⟨0,Nat.zero_le _,rfl,Below.refl _ _,by omega⟩
  case round=>
   obtain⟨wo,rfl⟩: ∃wo:World,wo=wr:=⟨_,rfl⟩;obtain⟨i,hi,rfl,hb,hno⟩:=hrel;by_cases hlt:i<n
   .have iM:=HX.out.below hb aj;obtain⟨b,off,o,rfl,hbl,ho,c0,c1,c2⟩:=iM.at_ hlt;have LD:=ah iM;have hg:kY s i=(aJ o&&sW (s.take i) o.tx):=by unfold kY;rw[ho]
    clear iM ho;cases hv:aJ o
    .have HB:=ah (rA (s:=s) (k:=i) (by omega) (by rw[hg,hv];rfl))
     clear hg hno;obtain⟨tx,kd,it⟩:=o;have hv': ∀W:World,Calls Tryz.prog 88 #[.agg #[.int .i64 tx,.int .i64 kd,.int .i64 it]] W fun e w'=>e=.returned (.bool false)/\Below W.heap.size W w':=fun W=>by
      have:=yx ⟨tx,kd,it⟩ W;rw[hv] at this;exact this
     have HV:=ah hv';clear hv hv';go_wp2_with (go_at_call 88;refine(HV.out _).mono ?_;rintro e w1 ⟨rfl,hb1⟩)
     go_ret;exact⟨aI HB.out.symm,hb.trans (hb1.mono hb.size)⟩
    .rw[hv,Bool.true_and] at hg;have HG:=ah hg;have HN:=ah hno;obtain⟨tx,kd,it⟩:=o;have hv': ∀W:World,Calls Tryz.prog 88 #[.agg #[.int .i64 tx,.int .i64 kd,.int .i64 it]] W fun e w'=>e=.returned (.bool true)/\Below W.heap.size W w':=fun W=>by
      have:=yx ⟨tx,kd,it⟩ W;rw[hv] at this;exact this
     have HV:=ah hv';clear hv hv' hg hno;go_wp2_with (go_at_call 88;refine(HV.out _).mono ?_;rintro e w1 ⟨rfl,hb1⟩)
     go_loopw [4] (fun i' wr=> ∃k:Nat,k<=i/\i'=.int .i64 k/\Below wo.heap.size wo wr/\(∀j,j<k-> ∀o,s[j]? =some o->(o.tx==tx&&aK o)=false)) (fun i' _=>i- (intOf i').toNat)
     case atStart=>exact⟨0,Nat.zero_le _,rfl,hb1,by omega⟩
     case round=>
      clear hb1 w1;obtain⟨k,hk,rfl,hb1,hno⟩:=hrel;by_cases hlt2:k<i
      .have iM:=LD.out.below hb1 aj;obtain⟨b',off',q,hA,_,hq,d0,d1,d2⟩:=iM.at_ (k:=k) (by omega)
       injection hA with hA;injection hA with e1 e2;subst e1;subst e2;have hc0:=(hb1.cell (p:=⟨b,off+i*3,none⟩) (by simpa using hbl)).trans c0
       have L0:=Later.cell hc0;have M0:=Later.cell d0;have M1:=Later.cell d1;have M2:=Later.cell d2;have Sc:Hid ((q.tx==tx&&aK q)=false-> ∀j,j<k+1-> ∀o,s[j]? =some o->(o.tx==tx&&aK o)=false):=fun h=>mh (p:=fun o=>o.tx==tx&&aK o) hq hno h
       have HT:Hid ((q.tx==tx&&aK q)=true->aF s=false):=fun h=>rA (k:=i) (by omega) (by rw[HG.out];exact AU hlt2 hq h)
       clear hno hq d0 d1 d2 hc0 iM;have hki:(k:Int)< (n:Int):=by omega
       have hii:(i:Int)< (n:Int):=by omega
       obtain⟨qx,qk,qi⟩:=q;simp only at M0 M1 M2 Sc HT;cases h1:(qx==tx)
       .have hs:=ah (Sc.out (by simp[h1]))
        go_wp2_with fail
        refine aQ ?_;repeat(go_big_quiet_step (fail))
        refine wpQuiet_nil ?_;rintro _ ⟨u,rfl⟩;have hbu:=hb1.trans (u.2.mono hb1.size);go_wp2_with fail
        go_roundw
        case rel=>exact⟨k+1,by omega,by go_num,hbu,hs.out⟩
        case measure=>simp[intOf];omega
       .obtain⟨be,hbe⟩: ∃be,aK ⟨qx,qk,qi⟩=be:=⟨_,rfl⟩;have he': ∀u:Later wr,Calls Tryz.prog 87 #[.agg #[.int .i64 qx,.int .i64 qk,.int .i64 qi]] u.1 fun e w'=>e=.returned (.bool be)/\Below u.1.heap.size u.1 w':=fun u=>by
         have:=bJ ⟨qx,qk,qi⟩ u.1;rw[hbe] at this;exact this
        have HE:=ah he';have nW:=ah hbe;have H1:=ah h1;clear he' hbe;cases be
        .have hs:=ah (Sc.out (by rw[nW.out];simp))
         go_wp2_with fail
         refine aQ ?_;repeat(go_big_quiet_step ((go_at_call 87;exact aA _ (HE.out _))))
         refine wpQuiet_nil ?_;rintro _ ⟨u,rfl⟩;have hbu:=hb1.trans (u.2.mono hb1.size);go_wp2_with fail
         go_roundw
         case rel=>exact⟨k+1,by omega,by go_num,hbu,hs.out⟩
         case measure=>simp[intOf];omega
        .have hs:=ah (HT.out (by rw[nW.out,H1.out];rfl))
         go_wp2_with fail
         refine aQ ?_;repeat(go_big_quiet_step ((go_at_call 87;exact aA _ (HE.out _))))
         refine wpQuiet_nil ?_;rintro _ ⟨u,rfl⟩;have hbu:=hb.trans ((hb1.trans (u.2.mono hb1.size)).mono hb.size);go_wp2_with fail
         go_ret;exact⟨aI hs.out.symm,hbu⟩
      .have hq:=ah (JC HN.out (by rw[HG.out];exact Dc (fun j hj=>hno j (by omega))))
       clear hno;go_wp2_with fail
       go_roundw
       case rel=>exact⟨i+1,by omega,by go_num,hb.trans (hb1.mono hb.size),hq.out⟩
       case measure=>simp[intOf];omega
   .have HE:=ah (CX (s:=s) (fun j hj=>hno j (by omega)))
    clear hno;go_wp2_with fail
    go_ret;exact⟨aI (by rw[HE.out,hl];simp;omega),hb⟩
theorem Pj:Tryz.prog.underlying 89=some (.struct (Tryz.prog.fieldsOf 89)):=by kernel_rfl
theorem VH:Tryz.prog.stoodInHeld 89=false:=by kernel_rfl
theorem Sd:Tryz.prog.eqGuardType Tryz.prog.depth 89=false:=by kernel_rfl
theorem X_ (w:World)(a b c a' b' c':Int):
 (binOp .eql 89 (.agg #[.int .i64 a,.int .i64 b,.int .i64 c]) (.agg #[.int .i64 a',.int .i64 b',.int .i64 c'])).run Tryz.prog w=.ok (.bool (a==a'&&b==b'&&c==c')) w:=by
 rw[run_eql_struct,show(10000:Nat)=9999+1 from rfl,run_equalIn_agg w 9999 89 _ _ Pj VH]
 cases h1:(a==a')<;>cases h2:(b==b')<;>cases h3:(c==c')<;>simp[go_sem,Tryz.underlying89,h1,h2,h3]
def Pm (s:List ay)(k:Nat)(t:Int):Bool:=match s[k]? with|some o=>o.tx==t|none=>false
def je (s:List ay)(t:Int):Nat->Int
 |0=> -1
 |k+1=>if je s t k<0/\Pm s k t=true then(k:Int) else je s t k
def rM (s:List ay)(t:Int):Nat->Int
 |0=> -1
 |k+1=>if Pm s k t=true then(k:Int) else rM s t k
def qg (s:List ay)(t:Int):Int:=je s t s.length
def Sg (s:List ay)(t:Int):Int:=rM s t s.length
theorem Si (A:Option Addr)(n c:Nat)(s:List ay)(t:Int)(w:World)(hx:aC w A n s):
 Calls Tryz.prog 157 #[.slice A n c,.int .i64 t] w fun e w'=>e=.returned (.tuple #[.int .i64 (qg s t),.int .i64 (Sg s t)])/\Below w.heap.size w w':=by
 have hn:=hx.2.1;have hl:=hx.1;have HX:=ah hx;clear hx;go_enter Tryz.func157,Tryz.ntmps157;go_wp2_with fail
 go_loopw [6,7,12] (fun f l i wr=> ∃k:Nat,k<=n/\i=.int .i64 k/\f=.int .i64 (je s t k)/\l=.int .i64 (rM s t k)/\Below w.heap.size w wr) (fun _ _ i _=>n- (intOf i).toNat)
 case atStart=>exact⟨0,Nat.zero_le _,rfl,rfl,rfl,Below.refl _ _⟩
 case round=>
  obtain⟨k,hk,rfl,rfl,rfl,hb⟩:=hrel;by_cases hlt:k<n
  .obtain⟨b,off,o,rfl,hbl,ho,c0,c1,c2⟩:=(HX.out.below hb aj).at_ hlt;have hat:Pm s k t=(o.tx==t):=by unfold Pm;rw[ho]
   have hf:Hid (je s t (k+1)=if je s t k<0/\(o.tx==t)=true then(k:Int) else je s t k):=by
    show je s t (k+1)=_
    simp only[je,hat]
   have hla:Hid (rM s t (k+1)=if(o.tx==t)=true then(k:Int) else rM s t k):=by
    show rM s t (k+1)=_
    simp only[rM,hat]
   generalize hF:je s t k=F at*;generalize hL:rM s t k=L at*;have HF:=ah hF;have HL:=ah hL;clear hF hL hat ho;obtain⟨tx,kd,it⟩:=o;simp only at hf hla c0 c1 c2;by_cases h1:tx=t
   .subst h1;by_cases h2:F<0
    .go_wp2_with fail
     go_roundw
     case rel=>exact⟨k+1,by omega,by go_num,by rw[hf.out,if_pos ⟨h2,by simp⟩],by rw[hla.out,if_pos (by simp)],hb.trans ((by(repeat(first|exact Below.refl _ _|assumption|refine aZ ?_ aj _|refine Below.drew ?_|refine bE ?_ _|refine bD (by assumption) ?_|(refine dF ?_ ?_;rotate_left; (first|exact Nat.le_refl _|(simp;done)|(simp at*;omega))))):Below wr.heap.size wr _).mono hb.size)⟩
     case measure=>simp[intOf];omega
    .go_wp2_with fail
     go_roundw
     case rel=>exact⟨k+1,by omega,by go_num,by rw[hf.out,if_neg (fun h=>h2 h.1)],by rw[hla.out,if_pos (by simp)],hb.trans ((by(repeat(first|exact Below.refl _ _|assumption|refine aZ ?_ aj _|refine Below.drew ?_|refine bE ?_ _|refine bD (by assumption) ?_|(refine dF ?_ ?_;rotate_left; (first|exact Nat.le_refl _|(simp;done)|(simp at*;omega))))):Below wr.heap.size wr _).mono hb.size)⟩
     case measure=>simp[intOf];omega
   .have h1':(tx==t)=false:=by simpa using h1
    go_wp2_with fail
    go_roundw
    case rel=>exact⟨k+1,by omega,by go_num,by rw[hf.out,if_neg (fun h=>by simp[h1'] at h)],by rw[hla.out,if_neg (by simp[h1'])],hb.trans ((by(repeat(first|exact Below.refl _ _|assumption|refine aZ ?_ aj _|refine Below.drew ?_|refine bE ?_ _|refine bD (by assumption) ?_|(refine dF ?_ ?_;rotate_left; (first|exact Nat.le_refl _|(simp;done)|(simp at*;omega))))):Below wr.heap.size wr _).mono hb.size)⟩
    case measure=>simp[intOf];omega
  .obtain rfl:k=n:=by omega
   have h1:Hid (je s t k=qg s t):=by show _=_;unfold qg;rw[hl]
   have h2:Hid (rM s t k=Sg s t):=by show _=_;unfold Sg;rw[hl]
   go_wp2_with fail
   go_ret2
   exact⟨by rw[<-h1.out,<-h2.out];rfl,hb⟩
theorem H6 (A:Option Addr)(n c:Nat)(s:List ay)(t:Int)(w:World)(hx:aC w A n s):
 Calls Tryz.prog 111 #[.slice A n c,.int .i64 t] w fun e w'=>e=.returned (.int .i64 (qg s t))/\Below w.heap.size w w':=by
 have HS:=ah (Si A n c s t w hx);clear hx;go_enter Tryz.func111,Tryz.ntmps111;go_wp2_with fail
 refine HS.out.mono ?_;rintro e w1 ⟨rfl,hb⟩;go_wp2_with fail
 go_ret;exact⟨rfl,hb⟩
def JJ (s:List ay)(q:ay):Int:=if s.any (fun o=>o==q) then(s.findIdx (fun o=>o==q):Int) else-1
theorem Sj {s:List ay}{q o:ay}{k:Nat}(ho:s[k]? =some o)(h:(o==q)=true)(hno: ∀j,j<k-> ∀o,s[j]? =some o->(o==q)=false):JJ s q=(k:Int):=by
 obtain⟨hk,he⟩:=List.getElem?_eq_some_iff.1 ho;have h1:s.any (fun o=>o==q)=true:=List.any_eq_true.2 ⟨o,List.mem_of_getElem? ho,h⟩
 have h2:s.findIdx (fun o=>o==q)=k:=by
  rw[List.findIdx_eq hk];exact⟨by rw[he];exact h,fun j hj=>by have:=hno j hj _ (List.getElem?_eq_getElem (by omega));exact this⟩
 unfold JJ;rw[h1,h2];rfl
theorem Pn {s:List ay}{q:ay}(hno: ∀j,j<s.length-> ∀o,s[j]? =some o->(o==q)=false):JJ s q= -1:=by
 unfold JJ;rw[mo hno];rfl
theorem Ya (a b c a' b' c':Int):(a==a'&&b==b'&&c==c')=((⟨a',b',c'⟩:ay)==⟨a,b,c⟩):=by
 rw[Bool.eq_iff_iff];simp only[Bool.and_eq_true,beq_iff_eq,ay.mk.injEq];constructor
 .rintro⟨⟨rfl,rfl⟩,rfl⟩;exact⟨rfl,rfl,rfl⟩
 .rintro⟨rfl,rfl,rfl⟩;exact⟨⟨rfl,rfl⟩,rfl⟩
theorem JK (A:Option Addr)(n c:Nat)(s:List ay)(q:ay)(w:World)(hx:aC w A n s):
 Calls Tryz.prog 156 #[.slice A n c,q.val] w fun e w'=>e=.returned (.int .i64 (JJ s q))/\Below w.heap.size w w':=by
 have hn:=hx.2.1;have hl:=hx.1;obtain⟨qt,qk,qi⟩:=q;unfold ay.val;have hST: ∀W:World,W=w.alloc (.cells #[.int .i64 qt,.int .i64 qk,.int .i64 qi] 89)->Below w.heap.size w W/\(∀u:Later W,u.1.cell? ⟨w.heap.size,0,none⟩=some (.int .i64 qt))/\(∀u:Later W,u.1.cell? ⟨w.heap.size,1,none⟩=some (.int .i64 qk))/\(∀u:Later W,u.1.cell? ⟨w.heap.size,2,none⟩=some (.int .i64 qi)):=by
  intro W hW;obtain⟨a,b,c,d,_⟩:=kC hW;exact⟨d,a,b,c⟩
 have HST:=ah hST;have HX:=ah hx;clear hx hST;go_enter Tryz.func156,Tryz.ntmps156;go_wp2_with fail
 obtain⟨W,hW⟩: ∃W:World,W=w.alloc (.cells #[.int .i64 qt,.int .i64 qk,.int .i64 qi] 89):=⟨_,rfl⟩;rw[<-hW];obtain⟨hbW,L0,L1,L2⟩:=HST.out W hW;clear HST hW;go_loopw [8] (fun i wr=> ∃k:Nat,k<=n/\i=.int .i64 k/\Below W.heap.size W wr/\(∀j,j<k-> ∀o,s[j]? =some o->(o==⟨qt,qk,qi⟩)=false)) (fun i _=>n- (intOf i).toNat)
 case atStart=>exact⟨0,Nat.zero_le _,rfl,Below.refl _ _,by omega⟩
 case round=>
  obtain⟨k,hk,rfl,hb,hno⟩:=hrel;by_cases hlt:k<n
  .obtain⟨b,off,o,rfl,hbl,ho,c0,c1,c2⟩:=(HX.out.below (hbW.trans (hb.mono hbW.size)) aj).at_ hlt;have M0: ∀u:Later wr,u.1.cell? ⟨w.heap.size,0,none⟩=some (.int .i64 qt):=fun u=>L0 ⟨u.1,hb.trans (u.2.mono hb.size)⟩
   have M1: ∀u:Later wr,u.1.cell? ⟨w.heap.size,1,none⟩=some (.int .i64 qk):=fun u=>L1 ⟨u.1,hb.trans (u.2.mono hb.size)⟩
   have M2: ∀u:Later wr,u.1.cell? ⟨w.heap.size,2,none⟩=some (.int .i64 qi):=fun u=>L2 ⟨u.1,hb.trans (u.2.mono hb.size)⟩
   have C0:=Later.cell c0;have C1:=Later.cell c1;have C2:=Later.cell c2;have HN:Hid ((o==⟨qt,qk,qi⟩)=false-> ∀j,j<k+1-> ∀o,s[j]? =some o->(o==⟨qt,qk,qi⟩)=false):=fun h=>mh ho hno h
   have HT:Hid ((o==⟨qt,qk,qi⟩)=true->JJ s ⟨qt,qk,qi⟩=(k:Int)):=fun h=>Sj ho h hno
   clear hno ho c0 c1 c2;obtain⟨tx,kd,it⟩:=o;simp only at C0 C1 C2;have hbq:Hid ((qt==tx&&qk==kd&&qi==it)=((⟨tx,kd,it⟩:ay)==⟨qt,qk,qi⟩)):=Ya _ _ _ _ _ _;cases hq:((⟨tx,kd,it⟩:ay)==⟨qt,qk,qi⟩)
   all_goals
    have heq: ∀w:World,(binOp .eql 89 (.agg #[.int .i64 qt,.int .i64 qk,.int .i64 qi]) (.agg #[.int .i64 tx,.int .i64 kd,.int .i64 it])).run Tryz.prog w=.ok (.bool _) w:=fun w=>by
     rw[X_,hbq.out,hq]
    have hgd:=Sd;have HQ:=ah hq;clear hq;go_wp2_with fail
    refine aQ ?_;repeat(go_big_quiet_step (fail))
    refine wpQuiet_nil ?_;rintro _ ⟨u,rfl⟩;have hbu:Below W.heap.size W u.1:=hb.trans (u.2.mono hb.size);first
     |(have HR:=ah (HT.out HQ.out)
       go_wp2_with fail
       go_ret;exact⟨gW HR.out.symm,hbW.trans (hbu.mono hbW.size)⟩)
     |(go_wp2_with fail
       go_roundw
       case rel=>exact⟨k+1,by omega,by go_num,hbu,HN.out HQ.out⟩
       case measure=>simp[intOf];omega)
  .have HE:=ah (Pn (s:=s) (q:=⟨qt,qk,qi⟩) (fun j hj=>hno j (by omega)))
   clear hno;go_wp2_with fail
   go_ret;exact⟨gW HE.out.symm,hbW.trans (hb.mono hbW.size)⟩
end Go.Proofs.YtddkjbibjjehjaaGreatDoor
