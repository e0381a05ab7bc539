/-
  Texts that the proof rests on, joined: part 43.
-/
import Derived.MapKept
import Derived.Test.YtddkjbibjjehjaaGreatDoorSXr42
set_option maxHeartbeats 16000000
set_option maxRecDepth 100000
namespace Go.Proofs.YtddkjbibjjehjaaGreatDoor
open Go.RowKit Go.BigFrame
set_option linter.unusedVariables false
def zi:List (List UInt8×Nat×(List ay->List UInt8)):= [
 (([115,101,114,105,97,108] :List UInt8),16,fun s=>rR (jk s)),
 (([111,114,100,101,114] :List UInt8),16,fun s=>Ie (jY s)),
 (([99,121,99,108,101] :List UInt8),16,fun s=>fO (pq s)),
 (([115,110,97,112,115,104,111,116] :List UInt8),16,fun s=>fO (lT s)),
 (([114,101,99,111,118,101,114,97,98,108,101] :List UInt8),16,fun s=>Lib.itoa (aY (wB s) s.length)),
 (([99,97,115,99,97,100,101,115] :List UInt8),16,fun s=>Lib.itoa (aY (wC s) s.length)),
 (([115,116,114,105,99,116] :List UInt8),16,fun s=>Lib.itoa (aY (kU false s) s.length)),
 (([114,105,103,111,114,111,117,115] :List UInt8),16,fun s=>Lib.itoa (aY (kU true s) s.length)),
 (([99,111,109,109,105,116,115] :List UInt8),16,fun s=>Lib.itoa (aY (wD s) s.length)),
 (([119,97,105,116] :List UInt8),12,fun s=>bX (dO dQ.wait s).done),
 (([100,105,101] :List UInt8),12,fun s=>bX (dO dQ.die s).done),
 (([119,111,117,110,100] :List UInt8),12,fun s=>bX (dO dQ.bA s).done)]
def jW (u:List UInt8):Option (Nat×(List ay->List UInt8)):=(zi.find? fun p=>p.1==u).map (·.2)
def nU (l:List UInt8):List UInt8:=
 match fK 32 l with
 | [u,t] =>match jW u with|some (most,f)=>dL most f t|none=>tC
 |_=>tC
theorem UZ: ∀p∈zi,Au p.1 p.2.1 p.2.2:=by
 unfold zi;simp only[List.forall_mem_cons];exact⟨K_,ND,NG,FI,Av,FJ,La,FK,Jl,Ri,UY,NH,fun p h=>by cases h⟩
theorem Rj {u:List UInt8}(h:jW u=none): ∀p∈zi,(⟨⟨u⟩⟩:ByteArray)≠⟨⟨p.1⟩⟩:=fun p hp e=>by
 unfold jW at h;rw[Option.map_eq_none_iff,List.find?_eq_none] at h;injection e with e;injection e with e;exact h p hp (by rw[e];simp)
theorem U0 (l:List UInt8)(w:World)(hl:l.length<=1073741824)(hs:(fK 32 l).length≠2):
 Calls Tryz.prog 12 #[.string ⟨⟨l⟩⟩] w (nA w tC):=by
 have HS:Hid (Calls Tryz.prog 24 #[.string ⟨⟨l⟩⟩,.int .u8 32] w (dH w (fK 32 l))):=dI l 32 w hl;generalize fK 32 l=xs at*;go_enter Tryz.func12,Tryz.ntmps12;go_wp2_with fail
 refine HS.out.mono ?_;intro e w1 h1;obtain⟨A,n,c,rfl,hn,hb1⟩:=h1.len;rw[<-hn] at hs;have hz:decide ((n:Int)≠2)=true:=by simp;omega
 have hz2:((n:Int)==2)=false:=by simp;omega
 have hz3:((n:Int) !=2)=true:=by simp;omega
 go_wp2_with fail
 all_goals try omega
 go_ret;exact⟨rfl,hb1⟩
theorem U1 (l u t:List UInt8)(w:World)(hl:l.length<=1073741824)(hs:fK 32 l= [u,t])(hu:jW u=none):
 Calls Tryz.prog 12 #[.string ⟨⟨l⟩⟩] w (nA w tC):=by
 have ht:t.length<=1073741824:=by
  have:=gG 32 l t (by rw[hs];simp)
  omega
 have HS:Hid (Calls Tryz.prog 24 #[.string ⟨⟨l⟩⟩,.int .u8 32] w (dH w [u,t])):=by
  have:=dI l 32 w hl;rw[hs] at this;exact this
 have HP:=ah (fun w=>fE t w ht)
 have hne:=Rj hu;obtain⟨T,hT⟩: ∃T:ByteArray,T=⟨⟨u⟩⟩:=⟨_,rfl⟩;rw[<-hT] at hne;unfold zi at hne;simp only[List.forall_mem_cons] at hne;obtain⟨n0,n1,n2,n3,n4,n5,n6,n7,n8,n9,n10,n11,-⟩:=hne;have HF:=ah (fun A c w=>kT T n4 n5 n6 n7 n8 A 0 c w)
 have b0:(T.toList==([115,101,114,105,97,108] :List UInt8))=false:=gN n0;have b1:(T.toList==([111,114,100,101,114] :List UInt8))=false:=gN n1;have b2:(T.toList==([99,121,99,108,101] :List UInt8))=false:=gN n2;have b3:(T.toList==([115,110,97,112,115,104,111,116] :List UInt8))=false:=gN n3;have b9:(T.toList==([119,97,105,116] :List UInt8))=false:=gN n9;have b10:(T.toList==([100,105,101] :List UInt8))=false:=gN n10;have b11:(T.toList==([119,111,117,110,100] :List UInt8))=false:=gN n11;have HT:=ah hT;clear hs ht hl hu n0 n1 n2 n3 n4 n5 n6 n7 n8 n9 n10 n11 hT;generalize hxs:aX t=xs at*;generalize hV:aF xs=V at*;go_enter Tryz.func12,Tryz.ntmps12;go_wp2_with fail
 refine HS.out.mono ?_;intro e w1 h1;obtain⟨b,off,c,rfl,hc,ko,hb1⟩:=h1.two;rw[<-HT.out] at ko;obtain⟨c0,c1,kr⟩:=id ko;go_wp2_with fail
 refine(HP.out w1).mono ?_;intro e w2 h2;obtain⟨A4,c4,rfl,hc4,qY,hb2⟩:=h2;have ht2:=ko.below hb2 aj;have HB2:=ah (hb1.trans (hb2.mono hb1.size));generalize hm:xs.length=m at*;clear c0 c1 kr ko hb1 hb2 qY;obtain⟨c0,c1,kr⟩:=id ht2;go_wp2_with fail
 refine(HF.out _ _ _).mono ?_;rintro e w3 ⟨rfl,hb3⟩;have dY:Below w2.heap.size w2 w3:=(aG.alloc aj _).trans (hb3.mono (by simp))
 have ht3:=ht2.below dY aj;have HB3:=ah (HB2.out.trans (dY.mono HB2.out.size));clear c0 c1 kr ht2 hb3 dY HB2;obtain⟨c0,c1,kr⟩:=id ht3;go_wp2_with fail
 go_ret;exact⟨rfl,HB3.out⟩
theorem Lb (l:List UInt8)(w:World)(hl:l.length<=1073741824):
 Calls Tryz.prog 12 #[.string ⟨⟨l⟩⟩] w (nA w (nU l)):=by
 by_cases h2:(fK 32 l).length=2
 .obtain⟨u,t,e⟩: ∃u t,fK 32 l= [u,t] :=by
   match h:fK 32 l with
   | [] =>rw[h] at h2;simp at h2
   | [u] =>rw[h] at h2;simp at h2
   | [u,t] =>exact⟨u,t,rfl⟩
   |_::_::_::_=>rw[h] at h2;simp at h2
  cases hu:jW u with
  |none=>
   have:nU l=tC:=by unfold nU;rw[e];simp only;rw[hu]
   rw[this];exact U1 l u t w hl e hu
  |some q=>
   have:nU l=dL q.1 q.2 t:=by unfold nU;rw[e];simp only;rw[hu]
   rw[this];unfold jW at hu;rw[Option.map_eq_some_iff] at hu;obtain⟨p,hp,rfl⟩:=hu;have hmem:=List.mem_of_find?_eq_some hp;have hk:p.1=u:=by simpa using List.find?_some hp
   exact UZ p hmem l t w hl (by rw[e,hk])
 .have:nU l=tC:=by
   unfold nU;split
   .rename_i u t e;rw[e] at h2;simp at h2
   .rfl
  rw[this];exact U0 l w hl h2
def X4 (x:List UInt8):Prop:=x.length<=1000/\(10:UInt8) ∉ x
theorem Lc {c:UInt8}{sep:List UInt8} : ∀ {xs:List (List UInt8)},c∈Lib.join xs sep->c∈sep\/ ∃x∈xs,c∈x:=by
 intro xs h;cases xs with
 |nil=>cases h
 |cons x r=>
  rw[Lib.join_cons,List.mem_append] at h;rcases h with h|h
  .exact .inr ⟨x,by simp,h⟩
  .unfold Lib.joinTail at h;rw[List.mem_flatten] at h;obtain⟨y,hy,hc⟩:=h;obtain⟨z,hz,rfl⟩:=List.mem_map.1 hy;rcases List.mem_append.1 hc with h|h
   .exact .inl h
   .exact .inr ⟨z,List.mem_cons_of_mem _ hz,h⟩
theorem Zz {k:Nat}(h:k<100):(10:UInt8) ∉ Lib.decDigits k:=by
 have d1: ∀i,i<10->(10:UInt8)≠UInt8.ofNat (48+i):=by decide
 by_cases hk:k<10
 .rw[Lib.decDigits_one hk];simp only[List.mem_singleton];exact d1 k hk
 .rw[Lib.decDigits_two hk h];simp only[List.mem_cons,List.not_mem_nil,or_false,not_or];exact⟨d1 _ (by omega),d1 _ (by omega)⟩
theorem OZ {x:Int}(h0: -1<=x)(h1:x<100):X4 (Lib.itoa x):=by
 by_cases hn:x<0
 .obtain rfl:x= -1:=by omega
  rw[Oo];exact⟨by simp,by decide⟩
 .have:=jq (by omega) h1
  refine⟨by omega,?_⟩
  obtain⟨k,rfl⟩: ∃k:Nat,x=k:=⟨x.toNat,by omega⟩
  rw[Lib.itoa_nonneg];exact Zz (by omega)
theorem Jm {s:List Int}(h:Small s)(hl:s.length<=16):X4 (fO s):=by
 refine⟨by have:=zG h;omega,fun hc=>?_⟩
 rcases Lc hc with h1|⟨x,hx,h1⟩
 .revert h1;decide
 .obtain⟨y,hy,rfl⟩:=List.mem_map.1 hx;exact(OZ (by have:=h y hy;omega) (h y hy).2).2 h1
theorem aa7 {o:ay}(h:aJ o=true):(10:UInt8) ∉ pF o:=LY (p:=fun o=>(10:UInt8) ∉ pF o) (by decide) (by decide) h
theorem EF {s:List ay}(h:aF s=true):X4 (bX s):=by
 have hv:=(bn s).1 h;refine⟨by have:=rQ s;omega,fun hc=>?_⟩
 rcases Lc hc with h1|⟨x,hx,h1⟩
 .revert h1;decide
 .obtain⟨y,hy,rfl⟩:=List.mem_map.1 hx;exact aa7 (hv.2.1 y hy) h1
theorem G5 (s:List ay):(lT s).length<=s.length:=by
 have key: ∀ (l:List ay) (out:List Int),(l.foldl (qP s) out).length<=out.length+l.length:=by
  intro l;induction l with
  |nil=>intro out;simp
  |cons o r ih=>
   intro out;have h1:(qP s out o).length<=out.length+1:=by
    unfold qP;repeat' split
    all_goals simp
   have:=ih (qP s out o);simp only[List.foldl_cons,List.length_cons];omega
 have:=key s [];simp at this;exact this
theorem ZA {s:List ay}(h:aF s=true):X4 (Ie (jY s)):=by
 have hs:=Ai h;have hlen: ∀o∈jY s,o.length<=16:=fun o ho=>by
  rw[<-Ch h] at ho;unfold JY Ih at ho;have h1:=su _ _ _ (List.mem_filter.1 ho).1;have h2:(ji (committed s)).length<=4:=by unfold ji;exact List.length_filter_le _ _
  simp only[List.length_nil] at h1;omega
 unfold Ie;cases he:jY s with
 |nil=>exact⟨by decide,by decide⟩
 |cons o r=>
  simp only;exact Jm (hs o (by rw[he];simp)) (hlen o (by rw[he];simp))
theorem ZB {s:List ay}(h:aF s=true):X4 (fO (pq s)):=Jm (Aj h) (by
 have:=vC (y7 h).1 (yP h);unfold pq;omega)
theorem Xh: ∀p∈zi,∀s,aF s=true->s.length<=p.2.1->X4 (p.2.2 s):=by
 have hf: ∀ (B:Nat->Bool) (s:List ay),aF s=true->X4 (Lib.itoa (aY B s.length)):=fun B s h=>by
  have:=kF B s.length;have h2:=((bn s).1 h).1;exact OZ this.1 (by omega)
 unfold zi;simp only[List.forall_mem_cons];refine⟨fun s h _=>?_,fun s h _=>ZA h,fun s h _=>ZB h,fun s h _=>?_,fun s h _=>hf _ s h,fun s h _=>hf _ s h,fun s h _=>hf _ s h,fun s h _=>hf _ s h,fun s h _=>hf _ s h,fun s h h2=>EF (yY h h2),fun s h h2=>EF (yY h h2),fun s h h2=>EF (yY h h2),fun p h=>by cases h⟩
 .unfold rR;split
  .exact⟨by decide,by decide⟩
  .exact⟨by decide,by decide⟩
 .exact Jm (xR h) (by have:=G5 s;have h2:=((bn s).1 h).1;omega)
theorem CK (l:List UInt8):X4 (nU l):=by
 unfold nU;split
 .split
  .rename_i u t _ q most f hq
   unfold jW at hq;rw[Option.map_eq_some_iff] at hq;obtain⟨p,hp,he⟩:=hq;have hmem:=List.mem_of_find?_eq_some hp;have hd:=Xh p hmem;rw[he] at hd;unfold dL;split
   .rename_i hc
    simp only[Bool.and_eq_true,decide_eq_true_eq] at hc;exact hd _ hc.1 hc.2
   .exact⟨by decide,by decide⟩
  .exact⟨by decide,by decide⟩
 .exact⟨by decide,by decide⟩
def gT (ls:List (List UInt8)):List UInt8:=ls.flatMap fun l=>nU l++ [10]
def NI (ls:List (List UInt8)):List UInt8:=if ls.length<=20 then gT ls else []
theorem G6 (ls:List (List UInt8))(l:List UInt8):gT (ls++ [l])=gT ls++nU l++ [10] :=by
 unfold gT;rw[List.flatMap_append,List.flatMap_singleton,List.append_assoc]
theorem EG (ls:List (List UInt8)):(gT ls).length<=1001*ls.length:=by
 induction ls with
 |nil=>simp[gT]
 |cons l r ih=>
  have:=(CK l).1;unfold gT at ih ⊢;simp only[List.flatMap_cons,List.length_append,List.length_cons,List.length_nil];omega
def CO (ls:List (List UInt8)):Prop:= ∀l∈ls,l.length<=1073741824
theorem zk (A:Option Addr)(n c:Nat)(ls:List (List UInt8))(w:World)(hx:eO w A n ls)(hok:CO ls):
 Calls Tryz.prog 6 #[.slice A n c] w (nA w (NI ls)):=by
 have hn:=hx.2.1;have hl:=hx.1;have HX:=ah hx;have xw:=ah hok;have HL:=ah hl;clear hx hok;unfold NI;by_cases hbig:ls.length<=20
 .rw[if_pos hbig];have NJ:n<=20:=by omega
  have hz:decide ((20:Int)< (n:Int))=false:=by simp;omega
  have hz0:(n:Int)<=20:=by omega
  clear hl hbig;go_enter Tryz.func6,Tryz.ntmps6;go_wp2_with fail
  go_loopw [3,4] (fun sv iv wr=> ∃ (k:Nat) (T:ByteArray),k<=n/\iv=.int .i64 k/\sv=.string T/\Hid (T=⟨⟨gT (ls.take k)⟩⟩)/\Below w.heap.size w wr) (fun _ i _=>n- (intOf i).toNat)
  case atStart=>exact⟨0,_,Nat.zero_le _,rfl,rfl,ah rfl,Below.refl _ _⟩
  case round=>
   obtain⟨k,T,hk,rfl,rfl,HT,hb⟩:=hrel;by_cases hlt:k<n
   .obtain⟨b,off,o,rfl,hbl,ho,c0⟩:=(HX.out.below hb aj).at_ hlt;have HV:=ah (Lb o · (xw.out o (List.mem_of_getElem? ho)))
    unfold nA dw at HV;have hlt2:(k:Int)< (n:Int):=by omega
    obtain⟨X,hX⟩: ∃X:ByteArray,X=⟨⟨nU o⟩⟩:=⟨_,rfl⟩;rw[<-hX] at HV;have RI:=ah hX;have Yl:X.size<=1000:=by rw[hX];exact(CK o).1
    have hTs:T.size<=40000:=by
     rw[HT.out];have h1:=EG (ls.take k);have h2:(ls.take k).length<=k:=by rw[List.length_take];exact Nat.min_le_left _ _
     show(gT (ls.take k)).length<=_
     omega
    have HN:Hid (T++X++⟨#[10]⟩=⟨⟨gT (ls.take (k+1))⟩⟩):=by
     show _=_
     rw[HT.out,RI.out,aR ho,G6];show ByteArray.mk ⟨_⟩++ByteArray.mk ⟨_⟩++ByteArray.mk ⟨[10]⟩=_
     rw[iN,iN]
    clear hX ho HT;go_wp2_with (go_at_call 12;refine(HV.out _).mono ?_;rintro e w2 ⟨rfl,hb2⟩)
    go_roundw
    case rel=>exact⟨k+1,_,by omega,by go_num,rfl,HN,hb.trans (hb2.mono hb.size)⟩
    case measure=>simp[intOf];omega
   .obtain rfl:k=n:=by omega
    have HE:Hid (T=⟨⟨gT ls⟩⟩):=by
     show _=_
     rw[HT.out,List.take_of_length_le (by rw[HL.out];exact Nat.le_refl _)]
    go_wp2_with fail
    go_ret;refine⟨?_,hb⟩;show Ending.returned (.string T)=_
    rw[HE.out]
 .rw[if_neg hbig];have NJ:20<n:=by omega
  have hz:decide ((20:Int)< (n:Int))=true:=by simp;omega
  have hz0:(20:Int)< (n:Int):=by omega
  clear hl hbig;go_enter Tryz.func6,Tryz.ntmps6;go_wp2_with fail
  go_ret;exact⟨rfl,Below.refl _ _⟩
open Go.RowKit Go.BigFrame Go.MapKept
abbrev KV:=List (List UInt8×Value)
def ents:KV->Nat->List MapEntry
 | [],_=> []
 |p::r,i=> { key:=dw p.1,val:=p.2,born:=i } ::ents r (i+1)
theorem G7 (p:List UInt8×Value): ∀ (L:KV) (i:Nat),ents (L++ [p]) i=ents L i++ [{ key:=dw p.1,val:=p.2,born:=i+L.length }]
 | [],i=>by simp[ents]
 |q::r,i=>by
  simp only[List.cons_append,ents,G7 p r (i+1),List.length_cons];rw[show i+1+r.length=i+(r.length+1) by omega]
def nV (L:KV)(k:List UInt8):Option Value:=(L.find? fun p=>p.1==k).map (·.2)
def qE (W:World)(b:Nat)(L:KV):Prop:=W.heap[b]? =some (.map (ents L 0).toArray L.length)
theorem NK (k x:List UInt8):((⟨⟨k⟩⟩:ByteArray)==⟨⟨x⟩⟩)=(x==k):=by
 rw[Bool.eq_iff_iff,bytes_beq];simp;exact⟨fun h=>h.symm,fun h=>h.symm⟩
theorem Ay (k:List UInt8): ∀ (L:KV) (i j:Nat),(nV L k=none/\Instr.findNow .string (dw k) (ents L j) i=some none)\/ ∃n v,nV L k=some v/\Instr.findNow .string (dw k) (ents L j) i=some (some (n,v))
 | [],i,j=>.inl ⟨rfl,rfl⟩
 |p::r,i,j=>by
  have e:Instr.sameNow .string (dw k) (dw p.1)=some (p.1==k):=by
   simp only[Instr.sameNow,NK]
  by_cases h:(p.1==k)=true
  .exact .inr ⟨i,p.2,by simp[nV,List.find?,h],by simp[ents,Instr.findNow,e,h]⟩
  .have h:(p.1==k)=false:=by simpa using h
   rcases Ay k r (i+1) (j+1) with⟨h1,h2⟩|⟨n,v,h1,h2⟩
   .exact .inl ⟨by unfold nV at*;rw[List.find?_cons,h];exact h1,by simp[ents,Instr.findNow,e,h,h2]⟩
   .exact .inr ⟨n,v,by unfold nV at*;rw[List.find?_cons,h];exact h1,by simp[ents,Instr.findNow,e,h,h2]⟩
section
variable {P:Program} {mty kt et:TypeId} {W:World} {b:Nat} {L:KV}
theorem U2 (hm:P.underlying mty=some (.map kt et))(hk:P.underlying kt=some .string)(h:qE W b L)(k:List UInt8)(v:Value)(hn:nV L k=none):
 (Instr.mapUpdate mty (.map (some b)) (dw k) v).run P W=.ok () { W with heap:=W.heap.setIfInBounds b (.map (ents (L++ [(k,v)]) 0).toArray (L++ [(k,v)]).length) } :=by
 have hb:W.heap[b]? =some (.map (ents L 0).toArray L.length):=h;have hf:Instr.findNow .string (dw k) (ents L 0).toArray.toList 0=some none:=by
  rcases Ay k L 0 0 with⟨_,h2⟩|⟨n,v,h1,_⟩
  .exact h2
  .rw[hn] at h1;cases h1
 have hc:(Instr.checkKey false 10000 kt (dw k)).run P W=.ok () W:=run_checkKey (k:=dw k) hk (by simp[MapKept.IsKey]) false 9999
 have e:(ents L 0).toArray.push { key:=dw k,val:=v,born:=L.length } =(ents (L++ [(k,v)]) 0).toArray:=by
  rw[G7];simp
 simp[Instr.mapUpdate,run_underlying hm,MapKept.run_getObj_map hb,hc,run_findKey hk hf,MapKept.run_setObj_map _ hb,Result.andThen,e]
theorem Rk (hm:P.underlying mty=some (.map kt et))(hk:P.underlying kt=some .string)(h:qE W b L)(k:List UInt8){z:Value}(hz:(zeroValue et).run P W=.ok z W):
 (Instr.lookup mty (.map (some b)) (dw k) true).run P W=.ok (.tuple #[(nV L k).getD z,.bool (nV L k).isSome]) W:=by
 have hb:W.heap[b]? =some (.map (ents L 0).toArray L.length):=h;have hc: ∀e,(Instr.checkKey e 10000 kt (dw k)).run P W=.ok () W:=fun e=>run_checkKey (k:=dw k) hk (by simp[MapKept.IsKey]) e 9999
 rcases Ay k L 0 0 with⟨h1,h2⟩|⟨n,v,h1,h2⟩
 .have hf:Instr.findNow .string (dw k) (ents L 0).toArray.toList 0=some none:=h2;simp[Instr.lookup,run_underlying hm,MapKept.run_getObj_map hb,hc,run_findKey hk hf,Result.andThen,h1,hz]
 .have hf:Instr.findNow .string (dw k) (ents L 0).toArray.toList 0=some (some (n,v)):=h2;simp[Instr.lookup,run_underlying hm,MapKept.run_getObj_map hb,hc,run_findKey hk hf,Result.andThen,h1]
theorem qE.lt (h:qE W b L):b<W.heap.size:=lt_of_block h
theorem qE.made (W:World):qE (W.alloc (.map #[] 0)) W.heap.size [] :=heap_alloc_new W _
theorem qE.set (h:qE W b L)(L':KV):qE { W with heap:=W.heap.setIfInBounds b (.map (ents L' 0).toArray L'.length) } b L':=(heap_set h).1
theorem qE.kept {W':World}(h:qE W b L)(hk:W'.heap[b]? =W.heap[b]?):qE W' b L:=hk.trans h
theorem ku (hm:P.underlying mty=some (.map kt et))(hk:P.underlying kt=some .string)(h:qE W b L)(k:List UInt8)(v:Value)(hn:nV L k=none):
 ∃W',(Instr.mapUpdate mty (.map (some b)) (dw k) v).run P W=.ok () W'/\qE W' b (L++ [(k,v)])/\W.grownBy W' (some b):=
 ⟨_,U2 hm hk h k v hn,h.set _,⟨rfl,rfl,rfl,by simp,fun i _ hi=>(heap_set h).2 i (fun e=>hi (by rw[e]))⟩⟩
variable {ops:Array Oper} {rest:List Oper} {o:Oper} {a:Go.Act} {Q:Exit->Go.Act->World->Prop}
end
end Go.Proofs.YtddkjbibjjehjaaGreatDoor
